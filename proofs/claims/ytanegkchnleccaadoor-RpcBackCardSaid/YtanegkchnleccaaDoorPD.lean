/-
  RP1, RP2, RP3, RP4, RP5, RP6, in one text.
-/
import Derived.Test.YtanegkchnleccaaDoorAm37
import Derived.Test.YtanegkchnleccaaDoorPA
import Derived.KernelRfl
import Derived.Test.YtanegkchnleccaaDoorSkP
import Derived.Lib.Bytealg
import Derived.Test.YtanegkchnleccaaDoorAm40
/-
  Names: strings.TrimLeft at a set of ASCII letters; named, empty (written by program, wip/rpc/RP1.py).
-/
namespace Go.Am
open Go.Proofs

set_option maxRecDepth 100000
/-- A set of letters as the library keeps it. -/
def setL (cs : List UInt8) : List V := (List.range 256).map fun c => .bool (decide (UInt8.ofNat c ∈ cs))
theorem setL_len (cs : List UInt8) : (setL cs).length = 256 := by simp [setL]
theorem setL_one (cs : List UInt8) : (setL cs).all V.one = true := by simp [setL]
theorem setL_take (cs : List UInt8) : (setL cs).take 256 = setL cs := List.take_of_length_le (by rw [setL_len]; omega)
theorem setL_each (cs : List UInt8) : ∀ x ∈ setL cs, x.one = true := fun x hx => List.all_eq_true.1 (setL_one cs) x hx
theorem setL_ids (cs : List UInt8) : V.idss (setL cs) = [] := by
  unfold setL
  induction List.range 256 with
  | nil => rfl
  | cons a l ih => simp [V.idss, V.ids, ih]
theorem setL_at (cs : List UInt8) {c : Nat} (h : c < 256) : (setL cs)[c]? = some (.bool (decide (UInt8.ofNat c ∈ cs))) := by
  simp [setL, h]
theorem setL_nil : [V.bool false, V.bool false, V.bool false, V.bool false, V.bool false, V.bool false, V.bool false, V.bool false, V.bool false, V.bool false, V.bool false, V.bool false, V.bool false, V.bool false, V.bool false, V.bool false, V.bool false, V.bool false, V.bool false, V.bool false, V.bool false, V.bool false, V.bool false, V.bool false, V.bool false, V.bool false, V.bool false, V.bool false, V.bool false, V.bool false, V.bool false, V.bool false, V.bool false, V.bool false, V.bool false, V.bool false, V.bool false, V.bool false, V.bool false, V.bool false, V.bool false, V.bool false, V.bool false, V.bool false, V.bool false, V.bool false, V.bool false, V.bool false, V.bool false, V.bool false, V.bool false, V.bool false, V.bool false, V.bool false, V.bool false, V.bool false, V.bool false, V.bool false, V.bool false, V.bool false, V.bool false, V.bool false, V.bool false, V.bool false, V.bool false, V.bool false, V.bool false, V.bool false, V.bool false, V.bool false, V.bool false, V.bool false, V.bool false, V.bool false, V.bool false, V.bool false, V.bool false, V.bool false, V.bool false, V.bool false, V.bool false, V.bool false, V.bool false, V.bool false, V.bool false, V.bool false, V.bool false, V.bool false, V.bool false, V.bool false, V.bool false, V.bool false, V.bool false, V.bool false, V.bool false, V.bool false, V.bool false, V.bool false, V.bool false, V.bool false, V.bool false, V.bool false, V.bool false, V.bool false, V.bool false, V.bool false, V.bool false, V.bool false, V.bool false, V.bool false, V.bool false, V.bool false, V.bool false, V.bool false, V.bool false, V.bool false, V.bool false, V.bool false, V.bool false, V.bool false, V.bool false, V.bool false, V.bool false, V.bool false, V.bool false, V.bool false, V.bool false, V.bool false, V.bool false, V.bool false, V.bool false, V.bool false, V.bool false, V.bool false, V.bool false, V.bool false, V.bool false, V.bool false, V.bool false, V.bool false, V.bool false, V.bool false, V.bool false, V.bool false, V.bool false, V.bool false, V.bool false, V.bool false, V.bool false, V.bool false, V.bool false, V.bool false, V.bool false, V.bool false, V.bool false, V.bool false, V.bool false, V.bool false, V.bool false, V.bool false, V.bool false, V.bool false, V.bool false, V.bool false, V.bool false, V.bool false, V.bool false, V.bool false, V.bool false, V.bool false, V.bool false, V.bool false, V.bool false, V.bool false, V.bool false, V.bool false, V.bool false, V.bool false, V.bool false, V.bool false, V.bool false, V.bool false, V.bool false, V.bool false, V.bool false, V.bool false, V.bool false, V.bool false, V.bool false, V.bool false, V.bool false, V.bool false, V.bool false, V.bool false, V.bool false, V.bool false, V.bool false, V.bool false, V.bool false, V.bool false, V.bool false, V.bool false, V.bool false, V.bool false, V.bool false, V.bool false, V.bool false, V.bool false, V.bool false, V.bool false, V.bool false, V.bool false, V.bool false, V.bool false, V.bool false, V.bool false, V.bool false, V.bool false, V.bool false, V.bool false, V.bool false, V.bool false, V.bool false, V.bool false, V.bool false, V.bool false, V.bool false, V.bool false, V.bool false, V.bool false, V.bool false, V.bool false, V.bool false, V.bool false, V.bool false, V.bool false, V.bool false, V.bool false, V.bool false, V.bool false, V.bool false, V.bool false, V.bool false, V.bool false, V.bool false, V.bool false, V.bool false, V.bool false, V.bool false, V.bool false, V.bool false, V.bool false, V.bool false, V.bool false, V.bool false, V.bool false] = setL [] := by kernel_rfl
theorem setL_put (cs : List UInt8) (c : UInt8) : (setL cs).take c.toNat ++ V.bool true :: (setL cs).drop (c.toNat + 1) = setL (cs ++ [c]) := by
  have hc : c.toNat < 256 := UInt8.toNat_lt c
  apply List.ext_getElem?
  intro k
  rw [List.getElem?_append, List.length_take, setL_len, Nat.min_eq_left (by omega)]
  by_cases h1 : k < c.toNat
  · rw [if_pos h1, List.getElem?_take, if_pos h1, setL_at _ (by omega), setL_at _ (by omega)]
    have : UInt8.ofNat k ≠ c := fun e => by have := congrArg UInt8.toNat e; simp at this; omega
    simp [this]
  · rw [if_neg h1]
    by_cases h2 : k = c.toNat
    · subst h2
      rw [Nat.sub_self, setL_at _ hc]
      simp
    · obtain ⟨m, hm⟩ : ∃ m, k - c.toNat = m + 1 := ⟨k - c.toNat - 1, by omega⟩
      rw [hm, List.getElem?_cons_succ, List.getElem?_drop, show c.toNat + 1 + m = k by omega]
      by_cases h3 : k < 256
      · rw [setL_at _ h3, setL_at _ h3]
        have : UInt8.ofNat k ≠ c := fun e => by have := congrArg UInt8.toNat e; simp at this; omega
        simp [this]
      · rw [List.getElem?_eq_none (by rw [setL_len]; omega), List.getElem?_eq_none (by rw [setL_len]; omega)]
theorem mkset_ct {h : H} {cs : List UInt8} (ha : ∀ c ∈ cs, c.toNat < 128) (hl : cs.length ≤ 1000) : Pure Tryd.prog 36 [.str cs] h (.tup [.agg (setL cs), .bool true]) := by
  refine pure_to Tryd.func36 S.strings_makeASCIISet_code S.strings_makeASCIISet_enter (by simp only [V.ids, V.idss, setL_ids, List.append_nil]) (Nat.le_of_ble_eq_true rfl) fun wf => ?_; simp only [S.strings_makeASCIISet]
  rw [setL_nil]
  have z1 := setL_len []
  have z2 := setL_one []
  simp
  refine loop_up (fun i t h' => (t 0 = .str cs ∧ t 2 = .ptr h.next 256 0 ∧ t 4 = .int .i64 (i : Nat)) ∧ h' = h.push (.row (setL (cs.take i)))) cs.length ⟨by simp [setL_len], by simp⟩ ?_
  rintro i t h' hi ⟨⟨t0, t2, t4⟩, rfl⟩ K hK
  have zl := setL_len (cs.take i)
  have zo := setL_one (cs.take i)
  by_cases hlt : i < cs.length
  · have hw := wrap_succ hlt (by omega)
    have g1 : cs[i]? = some cs[i] := List.getElem?_eq_getElem hlt
    have c1 := ha cs[i] (List.getElem_mem hlt)
    have c2 : ¬ (128 : Int) ≤ (cs[i].toNat : Int) := by omega
    have c3 : cs[i].toNat < 256 := by omega
    have c4 : (cs[i].toNat : Int) < 256 := by omega
    have c5 : cs[i].toNat ≤ 255 := by omega
    have hp := setL_put (cs.take i) cs[i]
    have htk : cs.take i ++ [cs[i]] = cs.take (i + 1) := by rw [List.take_add_one, g1]; rfl
    rw [htk] at hp
    simp [t0, t2, t4, hlt, c2, c4, c5, zl, hp, H.push_set, hw]
    refine hK _ _ hlt ⟨by simp [t0, t2], by simp⟩
  · have : i = cs.length := by omega
    subst this
    rw [List.take_length] at zl zo ⊢
    have ze : ∀ a b : Option D, (if ∀ (x : V), x ∈ setL cs → x.one = true then a else b) = a := fun a b => if_pos (setL_each cs)
    have zt := setL_take cs
    have zd : List.drop 256 (setL cs) = [] := List.drop_of_length_le (by omega)
    simp [t0, t2, t4, zl, ze, zt, zd, H.push_set]
theorem scon_ct {h : H} {cs : List UInt8} {j : Nat} (hj : h.get j = some (.row (setL cs))) {c : UInt8} : Pure Tryd.prog 46 [.ptr j 256 0, .int .u8 (c.toNat : Nat)] h (.bool (decide (c ∈ cs))) := by
  refine pure_to Tryd.func46 S.strings_asciiSet_contains_code S.strings_asciiSet_contains_enter rfl (Nat.le_of_ble_eq_true rfl) fun wf => ?_; simp only [S.strings_asciiSet_contains]
  have c3 : c.toNat < 256 := UInt8.toNat_lt c
  have c4 : (c.toNat : Int) < 256 := by omega
  have ca : cellsAt h.get j 256 = some (setL cs) := (cellsAt_of (n := 256) hj (by simp [setL_len])).trans rfl
  have e := setL_at cs c3
  simp at e
  simp [c4, ca, e]
theorem trimA_ct {h : H} {cs s : List UInt8} (hl : s.length ≤ 9223372036854775807) {j : Nat} (hj : h.get j = some (.row (setL cs))) : Pure Tryd.prog 37 [.str s, .ptr j 256 0] h (.str (s.dropWhile fun c => decide (c ∈ cs))) := by
  refine pure_to Tryd.func37 S.strings_trimLeftASCII_code S.strings_trimLeftASCII_enter rfl (Nat.le_of_ble_eq_true rfl) fun wf => ?_; simp only [S.strings_trimLeftASCII]
  simp
  refine loop_up (fun i t h' => (t 0 = .str (s.drop i) ∧ t 1 = .ptr j 256 0) ∧ h' = h ∧ s.dropWhile (fun c => decide (c ∈ cs)) = (s.drop i).dropWhile fun c => decide (c ∈ cs)) s.length ⟨by simp, rfl, by simp⟩ ?_
  rintro i t h' hi ⟨⟨t0, t1⟩, rfl, hd⟩ K hK
  by_cases hlt : i < s.length
  · obtain ⟨c, hc⟩ : ∃ c, c = s[i] := ⟨_, rfl⟩
    obtain ⟨r, hr⟩ : ∃ r, r = s.drop (i + 1) := ⟨_, rfl⟩
    have g1 : s.drop i = c :: r := by rw [hc, hr]; exact List.drop_eq_getElem_cons hlt
    rw [g1] at t0
    rw [g1, List.dropWhile_cons] at hd
    have l1 : (1 : Int) ≤ (r.length : Int) + 1 := by omega
    have l2 : (0 : Int) < (r.length : Int) + 1 := by omega
    simp [t0, t1, l2]
    refine scon_ct hj _ ?_
    by_cases hm : c ∈ cs
    · rw [if_pos (by simpa using hm)] at hd
      simp [t0, hm, l1]
      refine hK _ _ hlt ⟨by simp [t1, hr], rfl, by rw [← hr]; exact hd⟩
    · rw [if_neg (by simpa using hm)] at hd
      simp [t0, hm, hd]
  · have : i = s.length := by omega
    subst this
    rw [List.drop_length] at t0 hd
    simp [t0, hd]
theorem trim_ct {h : H} {cs s : List UInt8} (ha : ∀ c ∈ cs, c.toNat < 128) (hc : 2 ≤ cs.length ∧ cs.length ≤ 1000) (hl : s.length ≤ 9223372036854775807) : Pure Tryd.prog 30 [.str s, .str cs] h (.str (s.dropWhile fun c => decide (c ∈ cs))) := by
  refine pure_to Tryd.func30 S.strings_TrimLeft_code S.strings_TrimLeft_enter rfl (Nat.le_of_ble_eq_true rfl) fun wf => ?_; simp only [S.strings_TrimLeft]
  rw [setL_nil]
  have cne : cs ≠ [] := fun e => by rw [e] at hc; simp at hc
  have c1 : ((cs.length : Int) == 1) = false := beq_eq_false_iff_ne.2 (by omega)
  have z1 := setL_len []
  have z2 := setL_len cs
  have z3 := setL_one cs
  by_cases hs : s = []
  · subst hs; simp
  · have se : s.isEmpty = false := by cases s <;> simp_all
    have ce : cs.isEmpty = false := by cases cs <;> simp_all
    simp [c1, se, ce]
    refine mkset_ct ha hc.2 _ ?_
    have z4 : List.drop 256 (setL []) = [] := List.drop_of_length_le (by omega)
    simp [z1, z2, z3, z4, H.push_set]
    refine trimA_ct (cs := cs) (by omega) (by simp) _ ?_
    simp
/-- The letters of names. -/
def csN : List UInt8 := [97, 98, 99, 100, 101, 102, 103, 104, 105, 106, 107, 108, 109, 110, 111, 112, 113, 114, 115, 116, 117, 118, 119, 120, 121, 122, 48, 49, 50, 51, 52, 53, 54, 55, 56, 57, 45]
theorem csN_ok : ∀ n : Nat, n < 256 → (UInt8.ofNat n ∈ csN ↔ (97 ≤ n ∧ n ≤ 122) ∨ (48 ≤ n ∧ n ≤ 57) ∨ n = 45) := by decide +kernel
theorem csN_mem (c : UInt8) : c ∈ csN ↔ (97 ≤ c.toNat ∧ c.toNat ≤ 122) ∨ (48 ≤ c.toNat ∧ c.toNat ≤ 57) ∨ c.toNat = 45 := by
  have := csN_ok c.toNat (UInt8.toNat_lt c)
  simpa using this
/-- Is it a name? -/
def nameB (s : List UInt8) : Bool := match s with
  | [] => false
  | c :: r => decide (r.length ≤ 15) && decide (97 ≤ c.toNat) && (c :: r).all fun c => decide (c ∈ csN)
theorem dropW_nil {s cs : List UInt8} : s.dropWhile (fun c => decide (c ∈ cs)) = [] ↔ (s.all fun c => decide (c ∈ cs)) = true := by
  induction s with
  | nil => simp
  | cons c s ih =>
    rw [List.dropWhile_cons, List.all_cons]
    by_cases hc : c ∈ cs
    · rw [if_pos (by simpa using hc), ih]; simp [hc]
    · rw [if_neg (by simpa using hc)]; simp [hc]
theorem named_ct {h : H} {s : List UInt8} (hl : s.length ≤ 9223372036854775807) : Pure Tryd.prog 17 [.str s] h (.bool (nameB s)) := by
  refine pure_to Tryd.func17 S.rpc_named_code S.rpc_named_enter rfl (Nat.le_of_ble_eq_true rfl) fun wf => ?_; simp only [S.rpc_named]
  cases s with
  | nil => simp [nameB]
  | cons c r =>
    have e1 : ((c :: r) == []) = false := rfl
    by_cases h1 : r.length ≤ 15
    · have i1 : (r.length : Int) + 1 ≤ 16 := by omega
      by_cases h2 : 97 ≤ c.toNat
      · have i2 : (97 : Int) ≤ (c.toNat : Int) := by omega
        simp [e1, i1, i2]
        refine trim_ct (cs := csN) (by decide) (by decide) hl _ ?_
        have hd : ((c :: r).dropWhile fun c => decide (c ∈ csN)).isEmpty = (c :: r).all fun c => decide (c ∈ csN) := by
          rw [Bool.eq_iff_iff, List.isEmpty_iff, dropW_nil]
        simp [h1, h2, nameB]
        rw [hd, List.all_cons]
      · have i2 : ¬ (97 : Int) ≤ (c.toNat : Int) := by omega
        simp [e1, i1, h1, h2, i2, nameB]
    · have i1 : ¬ (r.length : Int) + 1 ≤ 16 := by omega
      simp [e1, i1, h1, nameB]
def emptyB (s : List UInt8) : Bool := decide (s = []) || nameB s
theorem empty_ct {h : H} {s : List UInt8} (hl : s.length ≤ 9223372036854775807) : Pure Tryd.prog 18 [.str s] h (.bool (emptyB s)) := by
  refine pure_to Tryd.func18 S.rpc_empty_code S.rpc_empty_enter rfl (Nat.le_of_ble_eq_true rfl) fun wf => ?_; simp only [S.rpc_empty]
  by_cases hs : s = []
  · subst hs; simp [emptyB]
  · have e1 : (s == []) = false := beq_eq_false_iff_ne.2 hs
    simp [e1]
    refine named_ct hl _ ?_
    simp [emptyB, hs]
end Go.Am

/-
  Questions: number, texts, prefix, Check, Encode.
-/
namespace Go.Am
open Go.Proofs

set_option maxRecDepth 100000
theorem i64_idN {n : Nat} (h : n < 9223372036854775808) : IntKind.i64.wrap (n : Int) = n := wrap_i64_id (by omega) (by omega)
theorem rnumber_ct {h : H} {v size : Nat} (hs : 1 ≤ size) (hs2 : size ≤ 8) (hv : v < 256 ^ size) : Pure Tryd.prog 11 [.int .u64 (v : Nat), .int .i64 (size : Nat)] h (.str (be size v)) := by
  refine pure_to Tryd.func11 S.rpc_number_code S.rpc_number_enter rfl (Nat.le_of_ble_eq_true rfl) fun wf => ?_; simp only [S.rpc_number]
  simp
  refine put_ct hs hs2 hv (by simp) _ ?_
  simp
def numP : List V → Option V
  | [.int .u64 v, .int .i64 s] => if 0 ≤ v ∧ 1 ≤ s ∧ s ≤ 8 ∧ v.toNat < 256 ^ s.toNat then some (.str (be s.toNat v.toNat)) else none
  | _ => none
theorem numP_ok : ∀ p ∈ [(11, numP)], ∀ vals v, p.2 vals = some v → ∀ h, Acalls Tryd.prog p.1 vals h fun u h' => u = v ∧ h' = h :=
  plain1 fun vals v e h => by
    unfold numP at e
    split at e
    · rename_i v s
      split at e
      · rename_i hc
        obtain ⟨h1, h2, h3, h4⟩ := hc
        obtain ⟨a, rfl⟩ := Int.eq_ofNat_of_zero_le h1
        obtain ⟨b, rfl⟩ := Int.eq_ofNat_of_zero_le (show 0 ≤ s by omega)
        cases e
        simp only [Int.toNat_natCast] at h4 ⊢
        exact rnumber_ct (by omega) (by omega) h4
      · cases e
    · cases e
theorem numP_at {v s : Nat} (h1 : 1 ≤ s) (h2 : s ≤ 8) (h3 : v < 256 ^ s) : numP [.int .u64 (v : Int), .int .i64 (s : Int)] = some (.str (be s v)) := by
  simp only [numP]
  rw [if_pos ⟨by omega, by omega, by omega, by simpa using h3⟩]
  simp
def cS (x : List UInt8) : List V := [.str x]
/-- A text with its length ahead. -/
def txtB (s : List UInt8) : List UInt8 := be 1 s.length ++ s
theorem txtB_len (s : List UInt8) : (txtB s).length = s.length + 1 := by simp [txtB, be_len]; omega
def txtsB (l : List (List UInt8)) : List UInt8 := l.flatMap txtB
theorem txtsB_len {l : List (List UInt8)} (h : ∀ s ∈ l, s.length < 256) : (txtsB l).length ≤ l.length * 256 := by
  induction l with
  | nil => simp [txtsB]
  | cons s l ih =>
    have h1 := h s (by simp)
    have h2 := ih fun x hx => h x (by simp [hx])
    unfold txtsB at h2 ⊢
    rw [List.flatMap_cons, List.length_append, txtB_len, List.length_cons]
    omega
theorem texts_ct {h : H} {v : V} {l : List (List UInt8)} (hs : Sls h.get 1 v (l.map cS)) (hl : ∀ s ∈ l, s.length < 256) (hn : l.length ≤ 1000000) : Pure Tryd.prog 12 [v] h (.str (txtsB l)) := by
  refine pure_to Tryd.func12 S.rpc_texts_code S.rpc_texts_enter rfl (Nat.le_of_ble_eq_true rfl) fun wf => ?_; simp only [S.rpc_texts]
  have hlen := hs.len
  simp at hlen
  simp [hlen]
  refine loop_up (fun i t h' => (t 3 = .str (txtsB (l.take i)) ∧ t 6 = v ∧ t 7 = .int .i64 (l.length : Nat) ∧ t 8 = .int .i64 (i : Nat)) ∧ h' = h) l.length ⟨by simp [txtsB], rfl⟩ ?_
  rintro i t h' hi ⟨⟨t3, t6, t7, t8⟩, rfl⟩ K hK
  by_cases hlt : i < l.length
  · obtain ⟨p, qq, o, cs, e1, e2, e3⟩ := hs.at1 (f := fun x : List UInt8 => V.str x) hlt
    have hw := wrap_succ hlt (by omega)
    have h1 := hl l[i] (List.getElem_mem hlt)
    have w1 : IntKind.u64.wrap (l[i].length : Int) = l[i].length := u64_id (by omega)
    have hb := txtsB_len (l := l.take i) fun s hs => hl s (List.mem_of_mem_take hs)
    have hbl : (l.take i).length ≤ 1000000 := by rw [List.length_take]; omega
    have k1 : (be 1 l[i].length).length + l[i].length ≤ 9223372036854775807 := by rw [be_len]; omega
    have k2 : (txtsB (l.take i)).length + ((be 1 l[i].length).length + l[i].length) ≤ 9223372036854775807 := by rw [be_len]; omega
    have htk : txtsB (l.take (i + 1)) = txtsB (l.take i) ++ (be 1 l[i].length ++ l[i]) := by
      have : l.take (i + 1) = l.take i ++ [l[i]] := by rw [List.take_add_one, List.getElem?_eq_getElem hlt]; rfl
      unfold txtsB
      rw [this, List.flatMap_append, List.flatMap_singleton]
      rfl
    simp [t6, t7, t8, hlt, e1, e2, e3, w1]
    refine rnumber_ct (v := l[i].length) (size := 1) (by decide) (by decide) (by omega) _ ?_
    simp [t3, k1, k2, t8, hw]
    refine hK _ _ hlt ⟨by simp [t6, t7, htk], rfl⟩
  · have : i = l.length := by omega
    subst this
    rw [List.take_length] at t3
    simp [t3, t7, t8]
/-- A prefix as bytes. -/
def pfxB (p : Pfx) : List UInt8 := be 1 p.fam.toNat ++ be 8 p.rd ++ be 1 p.len.toNat ++ p.addr
structure PfxFit (p : Pfx) : Prop where
  fam : 0 ≤ p.fam ∧ p.fam < 256
  rd : p.rd < 18446744073709551616
  len : 0 ≤ p.len ∧ p.len < 256
  addr : p.addr.length ≤ 1000000
theorem prefix_ct {h : H} {p : Pfx} (f : PfxFit p) : Pure Tryd.prog 13 [.agg (pfxC p)] h (.str (pfxB p)) := by
  refine pure_to Tryd.func13 S.rpc_prefix_code S.rpc_prefix_enter rfl (Nat.le_of_ble_eq_true rfl) fun wf => ?_; simp only [S.rpc_prefix]
  obtain ⟨fam, rd, addr, len⟩ := p
  obtain ⟨⟨f1, f2⟩, f3, ⟨f4, f5⟩, f6⟩ := f
  simp only at f1 f2 f3 f4 f5 f6
  obtain ⟨a, rfl⟩ := Int.eq_ofNat_of_zero_le f1
  obtain ⟨b, rfl⟩ := Int.eq_ofNat_of_zero_le f4
  have w1 : IntKind.u64.wrap (a : Int) = a := u64_id (by omega)
  have w2 : IntKind.u64.wrap (b : Int) = b := u64_id (by omega)
  have n1 := numP_at (v := a) (s := 1) (by omega) (by omega) (by omega)
  have n2 := numP_at (v := rd) (s := 8) (by omega) (by omega) (by omega)
  have n3 := numP_at (v := b) (s := 1) (by omega) (by omega) (by omega)
  simp [pfxC]
  refine dreg_plain _ numP_ok (by rfl) ?_
  simp [List.lookup, w1]
  have n1' : numP [.int .u64 (a : Int), .int .i64 1] = some (.str (be 1 a)) := n1
  have n2' : numP [.int .u64 (rd : Int), .int .i64 8] = some (.str (be 8 rd)) := n2
  have n3' : numP [.int .u64 (b : Int), .int .i64 1] = some (.str (be 1 b)) := n3
  have k : addr.length ≤ 9223372036854770000 := by omega
  have k1 : (10 : Nat) + addr.length ≤ 9223372036854775807 := by omega
  simp [w2, n1', n2', n3', be_len]
  rw [if_pos k1]
  simp [pfxB]
/-! ### Questions -/
structure Rq where
  kind : Int
  name : List UInt8
  fam : Int
  p : Pfx
  deriving DecidableEq
def rqC (r : Rq) : List V := [.int .i64 r.kind, .str r.name, .int .i64 r.fam, .int .i64 r.p.fam, .int .u64 (r.p.rd : Nat), .str r.p.addr, .int .i64 r.p.len]
def zeroR : Rq := ⟨0, [], 0, zeroP⟩
/-- May it be? -/
def mayRq (r : Rq) : Bool :=
  if r.kind = 1 ∨ r.kind = 6 then decide (r = ⟨r.kind, [], 0, zeroP⟩)
  else if r.kind = 2 ∨ r.kind = 7 then nameB r.name && decide (r = ⟨r.kind, r.name, 0, zeroP⟩)
  else if r.kind = 3 then emptyB r.name && decide (0 < sizeN r.fam) && decide (r = ⟨r.kind, r.name, r.fam, zeroP⟩)
  else if r.kind = 5 then nameB r.name && decide (0 < sizeN r.fam) && decide (r = ⟨r.kind, r.name, r.fam, zeroP⟩)
  else if r.kind = 4 then emptyB r.name && mayP r.p && decide (r = ⟨r.kind, r.name, 0, r.p⟩)
  else false
theorem eq_rq (a b : Rq) : eqV (TS.st [(0, 1, false, TS.int), (1, 1, false, TS.str), (2, 1, false, TS.int), (3, 4, true, (TS.st [(0, 1, false, TS.int), (1, 1, false, TS.int), (2, 1, false, TS.str), (3, 1, false, TS.int)]))]) (.agg (rqC a)) (.agg (rqC b)) = some (decide (a = b)) := by
  obtain ⟨k, n, f, p⟩ := a
  obtain ⟨k', n', f', p'⟩ := b
  have h := eq_pf p p'
  unfold eqV
  rw [eqFs_cons (x := .int .i64 k) (y := .int .i64 k') (b := decide (k = k')) rfl rfl (eqV_int ..), eqFs_cons (x := .str n) (y := .str n') (b := decide (n = n')) rfl rfl (eqV_s ..),
    eqFs_cons (x := .int .i64 f) (y := .int .i64 f') (b := decide (f = f')) rfl rfl (eqV_int ..), eqFs_cons (x := .agg (pfxC p)) (y := .agg (pfxC p')) (b := decide (p = p')) rfl rfl h]
  unfold eqFs
  simp only [ifs, Rq.mk.injEq, Bool.decide_and, Bool.and_true]
end Go.Am

/-
  Questions checked.
-/
namespace Go.Am
open Go.Proofs

set_option maxRecDepth 100000
theorem rcheck_ct {h : H} {r : Rq} (hl : r.name.length ≤ 9223372036854775807) : Pure Tryd.prog 7 [.agg (rqC r)] h (.int .i64 (if mayRq r = true then 0 else 2)) := by
  refine pure_to Tryd.func7 S.rpc_Check_code S.rpc_Check_enter (by split <;> rfl) (Nat.le_of_ble_eq_true rfl) fun wf => ?_; simp only [S.rpc_Check]
  obtain ⟨k, n, f, pf, prd, pa, pl⟩ := r
  simp only at hl
  have eq : ∀ (n' : List UInt8) (f' : Int) (p' : Pfx), eqV (TS.st [(0, 1, false, TS.int), (1, 1, false, TS.str), (2, 1, false, TS.int), (3, 4, true, (TS.st [(0, 1, false, TS.int), (1, 1, false, TS.int), (2, 1, false, TS.str), (3, 1, false, TS.int)]))])
      (.agg [.int .i64 k, .str n, .int .i64 f, .int .i64 pf, .int .u64 (prd : Nat), .str pa, .int .i64 pl]) (.agg [.int .i64 k, .str n', .int .i64 f', .int .i64 p'.fam, .int .u64 (p'.rd : Nat), .str p'.addr, .int .i64 p'.len]) = some (decide ((⟨k, n, f, pf, prd, pa, pl⟩ : Rq) = ⟨k, n', f', p'⟩)) := fun n' f' p' => eq_rq ⟨k, n, f, pf, prd, pa, pl⟩ ⟨k, n', f', p'⟩
  have G : ∀ o1 o2 o3, Ge h (((h.push o1).push o2).set (h.next + 1) o3) := fun _ _ _ => (((Ge.refl _).push _).push _).set (by simp) _
  have G2 : ∀ o1 o2 o3 o4 o5 nx, Ge h ⟨h.next + 1 + 1 + nx, upds (upds (((h.push o1).push o2).set (h.next + 1) o3).get [(h.next + 1, o4)]) [(h.next + 1, o5)]⟩ := fun o1 o2 o3 o4 o5 nx => ⟨by simp only; omega, fun i hi => by
    simp only [upds_one]
    rw [if_neg (by omega), if_neg (by omega)]
    exact (G o1 o2 o3).2 i hi⟩
  by_cases h1 : k = 1 ∨ k = 6
  · obtain ⟨D, hD⟩ : ∃ D, D = decide ((⟨k, n, f, pf, prd, pa, pl⟩ : Rq) = ⟨k, [], 0, zeroP⟩) := ⟨_, rfl⟩
    have e := eq [] 0 zeroP
    simp only [zeroP, Int.natCast_zero] at e hD
    rw [← hD] at e
    have hm : mayRq ⟨k, n, f, pf, prd, pa, pl⟩ = D := by unfold mayRq; rw [if_pos h1, hD] <;> rfl
    rw [hm]
    rcases h1 with rfl | rfl
    · simp [rqC, e]
      cases D <;> simp [G]
    · simp [rqC, e]
      cases D <;> simp [G]
  · by_cases h2 : k = 2 ∨ k = 7
    · obtain ⟨D, hD⟩ : ∃ D, D = decide ((⟨k, n, f, pf, prd, pa, pl⟩ : Rq) = ⟨k, n, 0, zeroP⟩) := ⟨_, rfl⟩
      have e := eq n 0 zeroP
      simp only [zeroP, Int.natCast_zero] at e hD
      rw [← hD] at e
      have hm : mayRq ⟨k, n, f, pf, prd, pa, pl⟩ = (nameB n && D) := by unfold mayRq; rw [if_neg h1, if_pos h2, hD] <;> rfl
      rw [hm]
      rcases h2 with rfl | rfl
      · simp [rqC]
        refine named_ct hl _ ?_
        simp
        cases nameB n <;> cases D <;> simp [e, G]
      · simp [rqC]
        refine named_ct hl _ ?_
        simp
        cases nameB n <;> cases D <;> simp [e, G]
    · by_cases h3 : k = 3
      · obtain ⟨D, hD⟩ : ∃ D, D = decide ((⟨k, n, f, pf, prd, pa, pl⟩ : Rq) = ⟨k, n, f, zeroP⟩) := ⟨_, rfl⟩
        have e := eq n f zeroP
        simp only [zeroP, Int.natCast_zero] at e hD
        rw [← hD] at e
        have hm : mayRq ⟨k, n, f, pf, prd, pa, pl⟩ = (emptyB n && decide (0 < sizeN f) && D) := by unfold mayRq; rw [if_neg h1, if_neg h2, if_pos h3, hD] <;> rfl
        rw [hm]
        subst h3
        simp [rqC]
        refine dreg_dwp ?_
        simp [upds_one]
        refine dwp_end (by simp [evAt, apart, I.foot, refOf]) ?_
        simp
        refine empty_ct hl _ ?_
        simp
        by_cases hE : emptyB n = true
        · simp [hE]
          refine psize_ct _ ?_
          by_cases hz : 0 < sizeN f
          · have iz : (0 : Int) < (sizeN f : Int) := by omega
            simp [hz, e]
            cases D <;> simp [G2]
          · have iz : ¬ (0 : Int) < (sizeN f : Int) := by omega
            simp [hz, G2]
        · simp [hE, G2]
      · by_cases h5 : k = 5
        · obtain ⟨D, hD⟩ : ∃ D, D = decide ((⟨k, n, f, pf, prd, pa, pl⟩ : Rq) = ⟨k, n, f, zeroP⟩) := ⟨_, rfl⟩
          have e := eq n f zeroP
          simp only [zeroP, Int.natCast_zero] at e hD
          rw [← hD] at e
          have hm : mayRq ⟨k, n, f, pf, prd, pa, pl⟩ = (nameB n && decide (0 < sizeN f) && D) := by unfold mayRq; rw [if_neg h1, if_neg h2, if_neg h3, if_pos h5, hD] <;> rfl
          rw [hm]
          subst h5
          simp [rqC]
          refine dreg_dwp ?_
          simp [upds_one]
          refine dwp_end (by simp [evAt, apart, I.foot, refOf]) ?_
          simp
          refine named_ct hl _ ?_
          simp
          by_cases hE : nameB n = true
          · simp [hE]
            refine psize_ct _ ?_
            by_cases hz : 0 < sizeN f
            · have iz : (0 : Int) < (sizeN f : Int) := by omega
              simp [hz, e]
              cases D <;> simp [G2]
            · have iz : ¬ (0 : Int) < (sizeN f : Int) := by omega
              simp [hz, G2]
          · simp [hE, G2]
        · by_cases h4 : k = 4
          · obtain ⟨D, hD⟩ : ∃ D, D = decide ((⟨k, n, f, pf, prd, pa, pl⟩ : Rq) = ⟨k, n, 0, ⟨pf, prd, pa, pl⟩⟩) := ⟨_, rfl⟩
            have e := eq n 0 ⟨pf, prd, pa, pl⟩
            simp only at e hD
            rw [← hD] at e
            have hm : mayRq ⟨k, n, f, pf, prd, pa, pl⟩ = (emptyB n && mayP ⟨pf, prd, pa, pl⟩ && D) := by unfold mayRq; rw [if_neg h1, if_neg h2, if_neg h3, if_neg h5, if_pos h4, hD] <;> rfl
            rw [hm]
            subst h4
            simp [rqC]
            refine dreg_dwp ?_
            simp [upds_one]
            refine dwp_end (by simp [evAt, apart, I.foot, refOf]) ?_
            simp
            refine empty_ct hl _ ?_
            simp
            have pcc : ∀ g : H, Pure Tryd.prog 19 [.agg [.int .i64 pf, .int .u64 (prd : Nat), .str pa, .int .i64 pl]] g (.int .i64 (if mayP ⟨pf, prd, pa, pl⟩ = true then 0 else 2)) := fun g => pcheck_ct (p := ⟨pf, prd, pa, pl⟩)
            by_cases hE : emptyB n = true
            · simp [hE]
              refine pcc _ _ ?_
              by_cases hz : mayP ⟨pf, prd, pa, pl⟩ = true
              · simp [hz, e]
                cases D <;> simp [G2]
              · simp [hz, G2]
            · simp [hE, G2]
          · have hm : mayRq ⟨k, n, f, pf, prd, pa, pl⟩ = false := by unfold mayRq; rw [if_neg h1, if_neg h2, if_neg h3, if_neg h5, if_neg h4]
            have b1 : (k == 1) = false := beq_eq_false_iff_ne.2 (by omega)
            have b2 : (k == 2) = false := beq_eq_false_iff_ne.2 (by omega)
            have b3 : (k == 3) = false := beq_eq_false_iff_ne.2 (by omega)
            have b4 : (k == 4) = false := beq_eq_false_iff_ne.2 (by omega)
            have b5 : (k == 5) = false := beq_eq_false_iff_ne.2 (by omega)
            have b6 : (k == 6) = false := beq_eq_false_iff_ne.2 (by omega)
            have b7 : (k == 7) = false := beq_eq_false_iff_ne.2 (by omega)
            simp [rqC, b1, b2, b3, b4, b5, b6, b7, hm, G]
end Go.Am

/-
  Questions laid.
-/
namespace Go.Am
open Go.Proofs

set_option maxRecDepth 100000
/-- A question's bytes. -/
def encRq (r : Rq) : List UInt8 := be 1 r.kind.toNat ++ txtB r.name ++ be 1 r.fam.toNat ++ (if r.kind = 4 then pfxB r.p else [])
def encV (r : Rq) : V := if mayRq r = true then .tup [.str (encRq r), .int .i64 0] else .tup [.str [], .int .i64 2]
theorem nameB_len {s : List UInt8} (h : nameB s = true) : s.length ≤ 16 := by
  cases s with
  | nil => simp
  | cons c r => simp [nameB] at h; simp; omega
theorem emptyB_len {s : List UInt8} (h : emptyB s = true) : s.length ≤ 16 := by
  simp [emptyB] at h
  rcases h with rfl | h
  · simp
  · exact nameB_len h
theorem mayP_fit {p : Pfx} (h : mayP p = true) (hr : p.rd < 18446744073709551616) : PfxFit p ∧ p.addr.length = sizeN p.fam := by
  simp [mayP] at h
  obtain ⟨⟨⟨⟨⟨h1, h2⟩, h3⟩, h4⟩, _⟩, _⟩ := h
  have hs := size_le p.fam
  have hf : 1 ≤ p.fam ∧ p.fam ≤ 5 := by
    unfold sizeN at h1
    (repeat' split at h1) <;> omega
  exact ⟨⟨⟨by omega, by omega⟩, hr, ⟨h3, by omega⟩, by omega⟩, h2⟩
theorem sizeN_fam {f : Int} (h : 0 < sizeN f) : 1 ≤ f ∧ f ≤ 5 := by
  unfold sizeN at h
  (repeat' split at h) <;> omega
/-- What may be is small. -/
theorem mayRq_fit {r : Rq} (h : mayRq r = true) : (1 ≤ r.kind ∧ r.kind ≤ 7) ∧ r.name.length ≤ 16 ∧ (0 ≤ r.fam ∧ r.fam ≤ 5) ∧ (r.kind = 4 → mayP r.p = true) ∧ (r.kind ≠ 4 → r.p = zeroP) := by
  obtain ⟨k, n, f, p⟩ := r
  unfold mayRq at h
  split at h
  · rename_i hk
    simp at h hk ⊢
    refine ⟨by omega, by simp [h.1], by omega, by omega, fun _ => h.2.2⟩
  · split at h
    · rename_i hk
      simp at h hk ⊢
      have := nameB_len h.1
      refine ⟨by omega, by omega, by omega, by omega, fun _ => h.2.2⟩
    · split at h
      · rename_i hk
        simp at h hk ⊢
        have := emptyB_len h.1.1
        have := sizeN_fam h.1.2
        refine ⟨by omega, by omega, by omega, by omega, fun _ => h.2⟩
      · split at h
        · rename_i hk
          simp at h hk ⊢
          have := nameB_len h.1.1
          have := sizeN_fam h.1.2
          refine ⟨by omega, by omega, by omega, by omega, fun _ => h.2⟩
        · split at h
          · rename_i hk
            simp at h hk ⊢
            have := emptyB_len h.1.1
            refine ⟨by omega, by omega, by omega, fun _ => h.1.2, by omega⟩
          · cases h
theorem rencode_ct {h : H} {r : Rq} (hl : r.name.length ≤ 9223372036854775807) (hr : r.p.rd < 18446744073709551616) : Pure Tryd.prog 5 [.agg (rqC r)] h (encV r) := by
  refine pure_to Tryd.func5 S.rpc_Encode_code S.rpc_Encode_enter (by unfold encV; split <;> rfl) (Nat.le_of_ble_eq_true rfl) fun wf => ?_; simp only [S.rpc_Encode]
  have ck : ∀ g : H, Pure Tryd.prog 7 [.agg (rqC r)] g (.int .i64 (if mayRq r = true then 0 else 2)) := fun g => rcheck_ct hl
  have cx : ∀ g : H, PfxFit r.p → Pure Tryd.prog 13 [.agg (pfxC r.p)] g (.str (pfxB r.p)) := fun g => prefix_ct
  obtain ⟨C, hC⟩ : ∃ C, C = rqC r := ⟨_, rfl⟩
  have hC' := hC
  rw [rqC] at hC'
  by_cases hm : mayRq r = true
  · obtain ⟨⟨k1, k2⟩, hn, ⟨f1, f2⟩, hp4, _⟩ := mayRq_fit hm
    have hv : encV r = .tup [.str (encRq r), .int .i64 0] := by unfold encV; rw [if_pos hm]
    rw [hv]
    obtain ⟨k, n, f, p⟩ := r
    simp only at k1 k2 hn f1 f2 hp4 hl hr
    obtain ⟨a, rfl⟩ := Int.eq_ofNat_of_zero_le (show 0 ≤ k by omega)
    obtain ⟨b, rfl⟩ := Int.eq_ofNat_of_zero_le f1
    have w1 : IntKind.u64.wrap (a : Int) = a := u64_id (by omega)
    have w2 : IntKind.u64.wrap (b : Int) = b := u64_id (by omega)
    have ck' := ck
    rw [hm] at ck'
    simp only [rqC] at ck'
    simp [rqC]
    refine ck' _ _ ?_
    simp
    refine dreg_dwp ?_
    simp [w1]
    refine dcall_at 3 (by rfl) (callEv_pure (h := h) (v := .str (be 1 a)) rfl (by simp [room]) (by simp) (fun i hi => by simp; omega) (fun h3 g3 => rnumber_ct (v := a) (size := 1) (by decide) (by decide) (by omega))) ?_
    simp
    have ht : txtsB [n] = txtB n := by simp [txtsB]
    obtain ⟨q, hq⟩ : ∃ q, q = h.next + 1 + 6 * room := ⟨_, rfl⟩
    obtain ⟨g1, hg1⟩ : ∃ g, g = upds (h.push (.row [V.int .i64 (a : Int), V.str n, V.int .i64 (b : Int), V.int .i64 p.fam, V.int .u64 (p.rd : Int), V.str p.addr, V.int .i64 p.len])).get [(q, .row [V.str n])] := ⟨_, rfl⟩
    have x1 : g1 q = some (.row [V.str n]) := by rw [hg1, upds_one, if_pos rfl]
    have x2 : cellsAt g1 h.next 7 = some [V.int .i64 (a : Int), V.str n, V.int .i64 (b : Int), V.int .i64 p.fam, V.int .u64 (p.rd : Int), V.str p.addr, V.int .i64 p.len] := by
      rw [hg1, cellsAt_upds, if_neg (by omega)]; simp
    have x3 : ∀ i, i < h.next → g1 i = h.get i := fun i hi => by
      rw [hg1, upds_one, if_neg (by omega), H.get_push, if_neg (by omega)]
    rw [← hq, ← hg1]
    refine dcall_at 7 (by rfl) (callEv_pure (h := ⟨q + 1, g1⟩) (v := .str (txtsB [n])) rfl (by simp [room]) (by simp [room, hq]) (fun i hi => rfl) (fun h3 g3 => ?_)) ?_
    · have g4 : h3.get q = some (.row [V.str n]) := by rw [g3.2 _ (by simp)]; exact x1
      have c4 : cellsAt h3.get q 1 = some [V.str n] := (cellsAt_of (n := 1) g4 rfl).trans rfl
      exact texts_ct (l := [n]) ⟨.inr ⟨_, _, _, _, rfl⟩, by simp [cS], by simp [elemsV_sl, c4, cS], by simp⟩ (by simp; omega) (by simp)
    have n1 : (be 1 a).length + (txtB n).length ≤ 9223372036854775807 := by rw [be_len, txtB_len]; omega
    simp [ht, n1, w2, x2]
    refine dcall_at 12 (by rfl) (callEv_pure (h := h) (v := .str (be 1 b)) rfl (by simp [room]) (by simp) (fun i hi => x3 i hi) (fun h3 g3 => rnumber_ct (v := b) (size := 1) (by decide) (by decide) (by omega))) ?_
    have n2 : (be 1 a).length + ((txtB n).length + (be 1 b).length) ≤ 9223372036854775807 := by rw [be_len, be_len, txtB_len]; omega
    have n2' : (be 1 a).length + (txtB n).length + (be 1 b).length ≤ 9223372036854775807 := by rw [be_len, be_len, txtB_len]; omega
    simp [n2']
    refine dwp_end ?_ ?_
    · simp [evAt, apart, I.foot, refOf]
      omega
    have ge : ∀ nx, h.next ≤ nx → Ge h ⟨nx, g1⟩ := fun nx hx => ⟨hx, fun i hi => x3 i hi⟩
    by_cases h4 : a = 4
    · subst h4
      have hm4 := hp4 rfl
      obtain ⟨pf, pal⟩ := mayP_fit hm4 hr
      have cx' := fun g => cx g pf
      simp only [pfxC] at cx'
      simp [x2]
      refine cx' _ _ ?_
      have n3 : (be 1 4).length + ((txtB n).length + ((be 1 b).length + (pfxB p).length)) ≤ 9223372036854775807 := by
        have := pf.addr
        simp [pfxB, be_len, txtB_len]; omega
      have n3' : (be 1 4).length + ((txtB n).length + (be 1 b).length) + (pfxB p).length ≤ 9223372036854775807 := by omega
      simp [n3']
      refine ⟨by simp [encRq], ge _ (by omega)⟩
    · have b4 : ((a : Int) == 4) = false := beq_eq_false_iff_ne.2 (by omega)
      simp [x2, b4]
      refine ⟨?_, ge _ (by omega)⟩
      have : ¬ ((a : Int) = 4) := by omega
      simp [encRq, this]
  · have hv : encV r = .tup [.str [], .int .i64 2] := by unfold encV; rw [if_neg hm]
    rw [hv]
    have ck' := ck
    rw [if_neg hm] at ck'
    simp only [rqC] at ck'
    simp [rqC]
    refine ck' _ _ ?_
    simp
end Go.Am

/-
  Bytes taken one behind the other, and whether all was there.
-/
namespace Go.Am
open Go.Proofs

set_option maxRecDepth 100000
/-! ### What is read, in plain words -/
/-- What is left, and whether all was there. -/
abbrev Rs := List UInt8 × Bool
def nx (n : Nat) (s : Rs) : Rs := (if n ≤ s.1.length then s.1.drop n else s.1, s.2 && decide (n ≤ s.1.length))
def vl (n : Nat) (s : Rs) : Nat := if n ≤ s.1.length then val (s.1.take n) else 0
def tv (n : Nat) (s : Rs) : List UInt8 := if n ≤ s.1.length then s.1.take n else []
theorem be_val : ∀ (n : Nat) (l : List UInt8), l.length = n → be n (val l) = l
  | 0, [], _ => rfl
  | 0, _ :: _, h => by simp at h
  | n + 1, [], h => by simp at h
  | n + 1, x :: l, h => by
    have hl : l.length = n := by simpa using h
    have hv := val_lt n l hl
    rw [val_cons, hl, be]
    have h1 : (x.toNat * 256 ^ n + val l) / 256 ^ n = x.toNat := by
      rw [Nat.mul_comm, Nat.mul_add_div (Nat.pow_pos (by decide)), Nat.div_eq_of_lt hv]; omega
    have h2 : be n (x.toNat * 256 ^ n + val l) = be n (val l) := by
      have key : ∀ (m k : Nat) (a b : Nat), k ≤ m → be k (a * 256 ^ m + b) = be k b := by
        intro m k a b
        induction k generalizing b with
        | zero => intro _; rfl
        | succ k ih =>
          intro hk
          rw [be, be, ih _ (by omega)]
          congr 1
          have e : a * 256 ^ m = 256 ^ k * (a * 256 ^ (m - k)) := by
            rw [show m = k + (m - k) by omega, Nat.pow_add, show k + (m - k) - k = m - k by omega, ← Nat.mul_assoc, ← Nat.mul_assoc, Nat.mul_comm a]
          rw [e, Nat.mul_add_div (Nat.pow_pos (by decide))]
          apply UInt8.toNat_inj.1
          simp only [UInt8.toNat_ofNat']
          obtain ⟨j, hj⟩ : ∃ j, m - k = j + 1 := ⟨m - k - 1, by omega⟩
          rw [hj, Nat.pow_succ, ← Nat.mul_assoc]
          obtain ⟨y, hy⟩ : ∃ y, y = a * 256 ^ j := ⟨_, rfl⟩
          rw [← hy]
          omega
      exact key n n _ _ (Nat.le_refl _)
    rw [h1, h2, be_val n l hl]
    simp
theorem nx_ok {n : Nat} {s : Rs} (h : (nx n s).2 = true) : s.2 = true ∧ s.1 = be n (vl n s) ++ (nx n s).1 ∧ vl n s < 256 ^ n := by
  simp [nx] at h
  obtain ⟨h1, h2⟩ := h
  have hl : (s.1.take n).length = n := by rw [List.length_take]; omega
  refine ⟨h1, ?_, ?_⟩
  · simp only [nx, vl, if_pos h2, be_val n _ hl, List.take_append_drop]
  · simp only [vl, if_pos h2]
    exact val_lt n _ hl
theorem nx_tv {n : Nat} {s : Rs} (h : (nx n s).2 = true) : s.2 = true ∧ s.1 = tv n s ++ (nx n s).1 ∧ (tv n s).length = n := by
  simp [nx] at h
  obtain ⟨h1, h2⟩ := h
  refine ⟨h1, ?_, ?_⟩
  · simp only [nx, tv, if_pos h2, List.take_append_drop]
  · simp only [tv, if_pos h2]
    rw [List.length_take]; omega
theorem vl_lt (n : Nat) (s : Rs) : vl n s < 256 ^ n := by
  unfold vl
  split
  · exact val_lt n _ (by rw [List.length_take]; omega)
  · exact Nat.pow_pos (by decide)
theorem tv_len (n : Nat) (s : Rs) : (tv n s).length ≤ n := by
  unfold tv
  split
  · rw [List.length_take]; omega
  · simp
theorem nx_app {n : Nat} {a l : List UInt8} {b : Bool} (h : a.length = n) : nx n (a ++ l, b) = (l, b) ∧ tv n (a ++ l, b) = a := by
  have hl : n ≤ (a ++ l).length := by rw [List.length_append]; omega
  simp only [nx, tv, if_pos hl, decide_eq_true hl, Bool.and_true]
  rw [← h]
  simp
theorem vl_app {n v : Nat} {l : List UInt8} {b : Bool} (h : v < 256 ^ n) : nx n (be n v ++ l, b) = (l, b) ∧ vl n (be n v ++ l, b) = v := by
  have h1 := nx_app (l := l) (b := b) (be_len n v)
  refine ⟨h1.1, ?_⟩
  have hl : n ≤ (be n v ++ l).length := by rw [List.length_append, be_len]; omega
  have h2 := h1.2
  simp only [tv, if_pos hl] at h2
  simp only [vl, if_pos hl]
  rw [h2, val_be_lt h]
/-- A text with its length ahead. -/
def xv (s : Rs) : List UInt8 := tv (vl 1 s) (nx 1 s)
def xn (s : Rs) : Rs := nx (vl 1 s) (nx 1 s)
theorem xv_len (s : Rs) : (xv s).length < 256 := by
  have := vl_lt 1 s
  have := tv_len (vl 1 s) (nx 1 s)
  unfold xv; omega
theorem xn_ok {s : Rs} (h : (xn s).2 = true) : s.2 = true ∧ s.1 = txtB (xv s) ++ (xn s).1 := by
  obtain ⟨h1, h2, h3⟩ := nx_tv h
  obtain ⟨k1, k2, k3⟩ := nx_ok h1
  refine ⟨k1, ?_⟩
  rw [k2, h2]
  unfold txtB xv xn
  rw [h3, List.append_assoc]
theorem xn_app {t l : List UInt8} {b : Bool} (h : t.length < 256) : xn (txtB t ++ l, b) = (l, b) ∧ xv (txtB t ++ l, b) = t := by
  unfold xn xv txtB
  rw [List.append_assoc]
  have h1 := vl_app (n := 1) (v := t.length) (l := t ++ l) (b := b) (by omega)
  rw [h1.1, h1.2]
  exact nx_app rfl
/-- A prefix. -/
def pv (s : Rs) : Pfx := ⟨(vl 1 s : Nat), vl 8 (nx 1 s), tv (sizeN (vl 1 s : Nat)) (nx 1 (nx 8 (nx 1 s))), (vl 1 (nx 8 (nx 1 s)) : Nat)⟩
def pn (s : Rs) : Rs := nx (sizeN (vl 1 s : Nat)) (nx 1 (nx 8 (nx 1 s)))
theorem pn_ok {s : Rs} (h : (pn s).2 = true) : s.2 = true ∧ s.1 = pfxB (pv s) ++ (pn s).1 := by
  obtain ⟨h1, h2, h3⟩ := nx_tv h
  obtain ⟨k1, k2, k3⟩ := nx_ok h1
  obtain ⟨l1, l2, l3⟩ := nx_ok k1
  obtain ⟨m1, m2, m3⟩ := nx_ok l1
  refine ⟨m1, ?_⟩
  rw [m2, l2, k2, h2]
  unfold pfxB pv pn
  simp
theorem pn_app {p : Pfx} {l : List UInt8} {b : Bool} (f : PfxFit p) (ha : p.addr.length = sizeN p.fam) : pn (pfxB p ++ l, b) = (l, b) ∧ pv (pfxB p ++ l, b) = p := by
  obtain ⟨fam, rd, addr, len⟩ := p
  obtain ⟨⟨f1, f2⟩, f3, ⟨f4, f5⟩, f6⟩ := f
  simp only at f1 f2 f3 f4 f5 f6 ha
  obtain ⟨x, rfl⟩ := Int.eq_ofNat_of_zero_le f1
  obtain ⟨y, rfl⟩ := Int.eq_ofNat_of_zero_le f4
  have e : pfxB ⟨(x : Int), rd, addr, (y : Int)⟩ ++ l = be 1 x ++ (be 8 rd ++ (be 1 y ++ (addr ++ l))) := by simp [pfxB]
  unfold pn pv
  rw [e]
  have h1 := vl_app (n := 1) (v := x) (l := be 8 rd ++ (be 1 y ++ (addr ++ l))) (b := b) (by omega)
  have h2 := vl_app (n := 8) (v := rd) (l := be 1 y ++ (addr ++ l)) (b := b) (by omega)
  have h3 := vl_app (n := 1) (v := y) (l := addr ++ l) (b := b) (by omega)
  have h4 := nx_app (n := sizeN (x : Int)) (a := addr) (l := l) (b := b) ha
  rw [h1.1, h1.2, h2.1, h2.2, h3.1, h3.2, h4.1, h4.2]
  exact ⟨rfl, rfl⟩
/-! ### The taker -/
structure Tk (h : H) (c d i : Nat) (s : Rs) : Prop where
  c : h.get c = some (.row [.ptr i 2 0])
  i : h.get i = some (rdr s.1)
  d : h.get d = some (.row [.bool s.2])
def setT (h : H) (i d : Nat) (s : Rs) : H := (h.set i (rdr s.1)).set d (.row [.bool s.2])
theorem Tk.ne {h : H} {c d i : Nat} {s : Rs} (t : Tk h c d i s) : c ≠ d ∧ c ≠ i ∧ i ≠ d := by
  refine ⟨fun e => ?_, fun e => ?_, fun e => ?_⟩
  · have h1 := t.c; rw [e, t.d] at h1; simp at h1
  · have h1 := t.c; rw [e, t.i] at h1; simp [rdr] at h1
  · have h1 := t.i; rw [e, t.d] at h1; simp [rdr] at h1
theorem Tk.set {h : H} {c d i : Nat} {s : Rs} (t : Tk h c d i s) (s' : Rs) : Tk (setT h i d s') c d i s' := by
  obtain ⟨h1, h2, h3⟩ := t.ne
  unfold setT
  refine ⟨?_, ?_, ?_⟩
  · rw [H.get_set, if_neg h1, H.get_set, if_neg h2]; exact t.c
  · rw [H.get_set, if_neg h3, H.get_set, if_pos rfl]
  · rw [H.get_set, if_pos rfl]
theorem Tk.same {h : H} {c d i : Nat} {s : Rs} (t : Tk h c d i s) : setT h i d s = h := by
  unfold setT
  refine H.ext' rfl fun j => ?_
  rw [H.get_set, H.get_set]
  split
  · rename_i e; rw [e, t.d]
  · split
    · rename_i e; rw [e, t.i]
    · rfl
theorem setT_set {h : H} {i d : Nat} (hne : i ≠ d) (s s' : Rs) : setT (setT h i d s) i d s' = setT h i d s' := by
  unfold setT
  refine H.ext' rfl fun j => ?_
  simp only [H.get_set]
  split
  · rfl
  · split <;> rfl
theorem setT_next (h : H) (i d : Nat) (s : Rs) : (setT h i d s).next = h.next := rfl
theorem setT_get {h : H} {i d : Nat} {s : Rs} {j : Nat} (h1 : j ≠ i) (h2 : j ≠ d) : (setT h i d s).get j = h.get j := by
  unfold setT; rw [H.get_set, if_neg h2, H.get_set, if_neg h1]
theorem numT_ct {h : H} {c d i : Nat} {s : Rs} (t : Tk h c d i s) {z : Int} (n : Nat) (ez : z = n) (hn : 1 ≤ n ∧ n ≤ 8) {Q : V → H → Prop} (q : Q (.int .u64 (vl n s : Nat)) (setT h i d (nx n s))) : Acalls Tryd.prog 24 [.int .i64 z, .ptr c 1 0, .ptr d 1 0] h Q := by
  refine acalls_to Tryd.func24 S.rpc_taking_1_code S.rpc_taking_1_enter (Nat.le_of_ble_eq_true rfl) fun wf => ?_; simp only [S.rpc_taking_1]
  obtain ⟨n1, n2, n3⟩ := t.ne
  obtain ⟨l, b⟩ := s
  have ca : cellsAt h.get c 1 = some [.ptr i 2 0] := (cellsAt_of (n := 1) t.c rfl).trans rfl
  have cd : cellsAt h.get d 1 = some [.bool b] := (cellsAt_of (n := 1) t.d rfl).trans rfl
  have gd : h.get d = some (.row [.bool b]) := t.d
  simp [ca]
  by_cases hl : n ≤ l.length
  · refine number_yes t.i n ez hn hl ?_
    have hv : vl n (l, b) = val (l.take n) := by simp only [vl, if_pos hl]
    have hx : nx n (l, b) = (l.drop n, b) := by simp only [nx, if_pos hl, decide_eq_true hl, Bool.and_true]
    rw [hv, hx] at q
    cases b
    · simp [cd, gd, Ne.symm n3]
      exact q
    · simp [cd, gd, Ne.symm n3]
      exact q
  · refine number_no t.i n ez hn (by simp; omega) _ ?_
    have hv : vl n (l, b) = 0 := by simp only [vl, if_neg hl]
    have hx : nx n (l, b) = (l, false) := by simp only [nx, if_neg hl, decide_eq_false hl, Bool.and_false]
    rw [hv, hx] at q
    have hs : setT h i d (l, false) = h.set d (.row [.bool false]) := by
      unfold setT
      refine H.ext' rfl fun j => ?_
      rw [H.get_set, H.get_set, H.get_set]
      split
      · rfl
      · split
        · rename_i e; rw [e, t.i]
        · rfl
    rw [hs] at q
    cases b
    · simp [cd, gd]
      exact q
    · simp [cd, gd]
      exact q
theorem takT_ct {h : H} {c d i : Nat} {s : Rs} (t : Tk h c d i s) {z : Int} (n : Nat) (ez : z = n) {Q : V → H → Prop} (q : Q (.str (tv n s)) (setT h i d (nx n s))) : Acalls Tryd.prog 26 [.int .i64 z, .ptr c 1 0, .ptr d 1 0] h Q := by
  refine acalls_to Tryd.func26 S.rpc_taking_2_code S.rpc_taking_2_enter (Nat.le_of_ble_eq_true rfl) fun wf => ?_; simp only [S.rpc_taking_2]
  obtain ⟨n1, n2, n3⟩ := t.ne
  obtain ⟨l, b⟩ := s
  have ca : cellsAt h.get c 1 = some [.ptr i 2 0] := (cellsAt_of (n := 1) t.c rfl).trans rfl
  have cd : cellsAt h.get d 1 = some [.bool b] := (cellsAt_of (n := 1) t.d rfl).trans rfl
  have gd : h.get d = some (.row [.bool b]) := t.d
  simp [ca]
  by_cases hl : n ≤ l.length
  · refine take_yes t.i n ez hl ?_
    have hv : tv n (l, b) = l.take n := by simp only [tv, if_pos hl]
    have hx : nx n (l, b) = (l.drop n, b) := by simp only [nx, if_pos hl, decide_eq_true hl, Bool.and_true]
    rw [hv, hx] at q
    cases b
    · simp [cd, gd, Ne.symm n3]
      exact q
    · simp [cd, gd, Ne.symm n3]
      exact q
  · refine take_no t.i (.inr (by simp; omega)) _ ?_
    have hv : tv n (l, b) = [] := by simp only [tv, if_neg hl]
    have hx : nx n (l, b) = (l, false) := by simp only [nx, if_neg hl, decide_eq_false hl, Bool.and_false]
    rw [hv, hx] at q
    have hs : setT h i d (l, false) = h.set d (.row [.bool false]) := by
      unfold setT
      refine H.ext' rfl fun j => ?_
      rw [H.get_set, H.get_set, H.get_set]
      split
      · rfl
      · split
        · rename_i e; rw [e, t.i]
        · rfl
    rw [hs] at q
    cases b
    · simp [cd, gd]
      exact q
    · simp [cd, gd]
      exact q
theorem doneT_ct {h : H} {c d i : Nat} {s : Rs} (t : Tk h c d i s) : Pure Tryd.prog 28 [.ptr d 1 0, .ptr c 1 0] h (.bool (s.2 && decide (s.1 = []))) := by
  refine pure_to Tryd.func28 S.rpc_taking_3_code S.rpc_taking_3_enter rfl (Nat.le_of_ble_eq_true rfl) fun wf => ?_; simp only [S.rpc_taking_3]
  obtain ⟨l, b⟩ := s
  have ca : cellsAt h.get c 1 = some [.ptr i 2 0] := (cellsAt_of (n := 1) t.c rfl).trans rfl
  have cd : cellsAt h.get d 1 = some [.bool b] := (cellsAt_of (n := 1) t.d rfl).trans rfl
  cases b
  · simp [cd]
  · simp [cd, ca]
    refine left_ct t.i _ ?_
    have : ((l.length : Int) == 0) = decide (l = []) := by cases l <;> simp; omega
    simp [this]
end Go.Am

/-
  Texts and prefixes taken; the taker made.
-/
namespace Go.Am
open Go.Proofs

set_option maxRecDepth 100000
/-- The taker's three functions. -/
def tkr (c d : Nat) : List V := [.func (.func 24) [] [.ptr c 1 0, .ptr d 1 0], .func (.func 26) [] [.ptr c 1 0, .ptr d 1 0], .func (.func 28) [] [.ptr d 1 0, .ptr c 1 0]]
theorem setT_live {h : H} {c d i : Nat} {s : Rs} (t : Tk h c d i s) (s' : Rs) : ∀ k, (∃ o, h.get k = some o) → ∃ o, (setT h i d s').get k = some o := fun k ⟨o, hk⟩ => by
  unfold setT
  rw [H.get_set, H.get_set]
  split
  · exact ⟨_, rfl⟩
  · split
    · exact ⟨_, rfl⟩
    · exact ⟨o, hk⟩
theorem setT_refs {h : H} {c d i : Nat} {s : Rs} (t : Tk h c d i s) (s' : Rs) : ∀ k o, (setT h i d s').get k = some o → h.get k = some o ∨ ((∃ o, h.get k = some o) ∧ o.ids = []) := fun k o hk => by
  unfold setT at hk
  rw [H.get_set, H.get_set] at hk
  split at hk
  · rename_i e; cases hk; exact .inr ⟨⟨_, by rw [e]; exact t.d⟩, rfl⟩
  · split at hk
    · rename_i e; cases hk; exact .inr ⟨⟨_, by rw [e]; exact t.i⟩, rfl⟩
    · exact .inl hk
/-- What lay there lies there, but for the taker's two. -/
structure Fr (h g : H) (i d : Nat) : Prop where
  next : h.next ≤ g.next
  get : ∀ j, j < h.next → j ≠ i → j ≠ d → g.get j = h.get j
theorem Fr.ge {h g : H} {c d i : Nat} {s s' : Rs} (f : Fr h g i d) (t : Tk h c d i s) (t' : Tk g c d i s') : Ge (setT h i d s') g := ⟨f.next, fun j hj => by
  unfold setT
  rw [H.get_set, H.get_set]
  split
  · rename_i e; rw [e, t'.d]
  · rename_i e1
    split
    · rename_i e; rw [e, t'.i]
    · rename_i e2; exact f.get j hj e2 e1⟩
theorem Tk.push {h : H} {c d i : Nat} {s : Rs} (t : Tk h c d i s) (wf : h.WF) (o : O) : Tk (h.push o) c d i s := by
  have h1 := wf.lt t.c
  have h2 := wf.lt t.i
  have h3 := wf.lt t.d
  refine ⟨?_, ?_, ?_⟩ <;> rw [H.get_push, if_neg (by omega)]
  · exact t.c
  · exact t.i
  · exact t.d
theorem setT_wf {h : H} {c d i : Nat} {s s' : Rs} (t : Tk h c d i s) (wf : h.WF) : (setT h i d s').WF := (wf.set (wf.lt t.i) _).set (wf.lt t.d) _
theorem textT_ct {h : H} {c d i : Nat} {s : Rs} (t : Tk h c d i s) {Q : V → H → Prop} (q : Q (.str (xv s)) (setT h i d (xn s))) : Acalls Tryd.prog 15 [.agg (tkr c d)] h Q := by
  refine Acalls.settle (setT h i d (xn s)) rfl (setT_live t _) (setT_refs t _) (fun wf => ?_) (by kernel_rfl)
  refine acalls_to Tryd.func15 S.rpc_taker_text_code S.rpc_taker_text_enter (Nat.le_of_ble_eq_true rfl) fun wf => ?_; simp only [S.rpc_taker_text]
  have lc := wf.lt t.c
  have li := wf.lt t.i
  have ld := wf.lt t.d
  obtain ⟨n1, n2, n3⟩ := t.ne
  obtain ⟨h1, hh1⟩ : ∃ h1, h1 = h.push (.row (tkr c d)) := ⟨_, rfl⟩
  have t1 : Tk h1 c d i s := by rw [hh1]; exact t.push wf _
  have c1 : cellsAt h1.get h.next 3 = some (tkr c d) := by rw [hh1]; simp [tkr]
  have k1 : Keep [h.next] h1 (setT h1 i d (nx 1 s)) := fun j hj => by
    simp only [List.mem_cons, List.not_mem_nil, or_false] at hj
    subst hj
    exact setT_get (by omega) (by omega)
  have e0 : (tkr c d)[0]? = some (.func (.func 24) [] [.ptr c 1 0, .ptr d 1 0]) := rfl
  have e1 : (tkr c d)[1]? = some (.func (.func 26) [] [.ptr c 1 0, .ptr d 1 0]) := rfl
  have bx : ∀ n, boxV n (.agg (tkr c d)) = some (.ptr n 3 0, .push (.row (tkr c d))) := fun n => rfl
  have w1 : IntKind.i64.wrap (vl 1 s : Int) = (vl 1 s : Nat) := by have := vl_lt 1 s; exact wrap_i64_id (by omega) (by omega)
  simp [bx, ← hh1]
  refine dreg_awp [h.next] [0, 2, 0, 0, 1, 0, 0, 0] rfl (by rfl) ?_
  simp [c1, e0, e1, I.foot, refOf]
  refine acall_of (v := .int .u64 (vl 1 s : Nat)) (h' := setT h1 i d (nx 1 s)) (fun Q q => numT_ct t1 1 rfl (by omega) q) (by decide) (fun _ => k1) ?_
  simp [w1]
  refine acall_of (v := .str (xv s)) (h' := setT h1 i d (xn s)) (fun Q q => takT_ct (t1.set (nx 1 s)) (vl 1 s) rfl (by rw [setT_set n3]; exact q)) (by decide) (fun h => by cases h) ?_
  simp
  exact ⟨Fr.ge ⟨by rw [setT_next, hh1]; simp, fun j hj h1' h2' => by rw [setT_get h1' h2', hh1, H.get_push, if_neg (by omega)]⟩ t (t1.set _), rfl, q⟩
theorem prefixT_ct {h : H} {c d i : Nat} {s : Rs} (t : Tk h c d i s) {Q : V → H → Prop} (q : Q (.agg (pfxC (pv s))) (setT h i d (pn s))) : Acalls Tryd.prog 16 [.agg (tkr c d)] h Q := by
  refine Acalls.settle (setT h i d (pn s)) rfl (setT_live t _) (setT_refs t _) (fun wf => ?_) (by kernel_rfl)
  refine acalls_to Tryd.func16 S.rpc_taker_prefix_code S.rpc_taker_prefix_enter (Nat.le_of_ble_eq_true rfl) fun wf => ?_; simp only [S.rpc_taker_prefix]
  have lc := wf.lt t.c
  have li := wf.lt t.i
  have ld := wf.lt t.d
  obtain ⟨n1, n2, n3⟩ := t.ne
  have e0 : (tkr c d)[0]? = some (.func (.func 24) [] [.ptr c 1 0, .ptr d 1 0]) := rfl
  have e1 : (tkr c d)[1]? = some (.func (.func 26) [] [.ptr c 1 0, .ptr d 1 0]) := rfl
  have bx : ∀ n, boxV n (.agg (tkr c d)) = some (.ptr n 3 0, .push (.row (tkr c d))) := fun n => rfl
  obtain ⟨v1, hv1⟩ : ∃ v, v = vl 1 s := ⟨_, rfl⟩
  obtain ⟨v2, hv2⟩ : ∃ v, v = vl 8 (nx 1 s) := ⟨_, rfl⟩
  obtain ⟨v3, hv3⟩ : ∃ v, v = vl 1 (nx 8 (nx 1 s)) := ⟨_, rfl⟩
  have w1 : IntKind.i64.wrap (v1 : Int) = (v1 : Nat) := by have := vl_lt 1 s; exact wrap_i64_id (by omega) (by omega)
  have w3 : IntKind.i64.wrap (v3 : Int) = (v3 : Nat) := by have := vl_lt 1 (nx 8 (nx 1 s)); exact wrap_i64_id (by omega) (by omega)
  obtain ⟨h1, hh1⟩ : ∃ h1, h1 = (h.push (.row (tkr c d))).push (.row [.int .i64 0, .int .u64 0, .str [], .int .i64 0]) := ⟨_, rfl⟩
  have wf1 : h1.WF := by rw [hh1]; exact (wf.push _).push _
  have N1 : h1.next = h.next + 2 := by rw [hh1]; simp
  have t1 : Tk h1 c d i s := by rw [hh1]; exact (t.push wf _).push (wf.push _) _
  have x0 : h1.get h.next = some (.row (tkr c d)) := by rw [hh1]; simp
  have x1 : h1.get (h.next + 1) = some (.row [.int .i64 0, .int .u64 0, .str [], .int .i64 0]) := by rw [hh1]; simp
  have xj : ∀ j, j < h.next → h1.get j = h.get j := fun j hj => by rw [hh1, H.get_push, if_neg (by simp; omega), H.get_push, if_neg (by omega)]
  have c1 : cellsAt h1.get h.next 3 = some (tkr c d) := (cellsAt_of (n := 3) x0 rfl).trans rfl
  simp [bx, ← hh1, c1, e0]
  refine numT_ct t1 1 rfl (by omega) ?_
  rw [← hv1]
  -- the prefix begun
  obtain ⟨h2, hh2⟩ : ∃ h2, h2 = (setT h1 i d (nx 1 s)).push (.row [.int .i64 (v1 : Nat), .int .u64 0, .str [], .int .i64 0]) := ⟨_, rfl⟩
  have ws1 : (setT h1 i d (nx 1 s)).WF := setT_wf t1 wf1
  have t2 : Tk h2 c d i (nx 1 s) := by rw [hh2]; exact (t1.set _).push ws1 _
  have N2 : h2.next = h.next + 3 := by rw [hh2]; simp [setT_next, N1]
  have y0 : h2.get h.next = some (.row (tkr c d)) := by rw [hh2, H.get_push, if_neg (by simp [setT_next]; omega), setT_get (by omega) (by omega)]; exact x0
  have y1 : h2.get (h.next + 1) = some (.row [.int .i64 0, .int .u64 0, .str [], .int .i64 0]) := by rw [hh2, H.get_push, if_neg (by simp [setT_next]; omega), setT_get (by omega) (by omega)]; exact x1
  have y2 : h2.get (h.next + 2) = some (.row [.int .i64 (v1 : Nat), .int .u64 0, .str [], .int .i64 0]) := by rw [hh2, H.get_push, if_pos (by simp [setT_next]; omega)]
  have yj : ∀ j, j < h.next → j ≠ i → j ≠ d → h2.get j = h.get j := fun j hj a b => by rw [hh2, H.get_push, if_neg (by simp [setT_next]; omega), setT_get a b]; exact xj j hj
  have c2 : cellsAt h2.get h.next 3 = some (tkr c d) := (cellsAt_of (n := 3) y0 rfl).trans rfl
  have sn : (setT h1 i d (nx 1 s)).next = h.next + 2 := N1
  have hp2 : ∀ o o', ((setT h1 i d (nx 1 s)).push o).set (h.next + 2) o' = (setT h1 i d (nx 1 s)).push o' := fun o o' => by rw [← sn]; exact H.push_set _ _ _
  have c1' : cellsAt (setT h1 i d (nx 1 s)).get h.next 3 = some (tkr c d) := by
    unfold cellsAt; rw [setT_get (by omega) (by omega), x0]; rfl
  simp [w1, sn, hp2, ← hh2, c2, e0]
  refine numT_ct t2 8 rfl (by omega) ?_
  rw [← hv2]
  obtain ⟨h3, hh3⟩ : ∃ h3, h3 = (setT h2 i d (nx 8 (nx 1 s))).set (h.next + 2) (.row [.int .i64 (v1 : Nat), .int .u64 (v2 : Nat), .str [], .int .i64 0]) := ⟨_, rfl⟩
  have nd : h.next + 2 ≠ d := by omega
  have ni : h.next + 2 ≠ i := by omega
  have nc : h.next + 2 ≠ c := by omega
  have tset : ∀ {g : H} {s' : Rs} (o : O), Tk g c d i s' → Tk (g.set (h.next + 2) o) c d i s' := fun o t' =>
    ⟨by rw [H.get_set, if_neg (Ne.symm nc)]; exact t'.c, by rw [H.get_set, if_neg (Ne.symm ni)]; exact t'.i, by rw [H.get_set, if_neg (Ne.symm nd)]; exact t'.d⟩
  have t3 : Tk h3 c d i (nx 8 (nx 1 s)) := by rw [hh3]; exact tset _ (t2.set _)
  have z0 : h3.get h.next = some (.row (tkr c d)) := by rw [hh3, H.get_set, if_neg (by omega), setT_get (by omega) (by omega)]; exact y0
  have z1 : h3.get (h.next + 1) = some (.row [.int .i64 0, .int .u64 0, .str [], .int .i64 0]) := by rw [hh3, H.get_set, if_neg (by omega), setT_get (by omega) (by omega)]; exact y1
  have z2 : h3.get (h.next + 2) = some (.row [.int .i64 (v1 : Nat), .int .u64 (v2 : Nat), .str [], .int .i64 0]) := by rw [hh3, H.get_set, if_pos rfl]
  have zj : ∀ j, j < h.next → j ≠ i → j ≠ d → h3.get j = h.get j := fun j hj a b => by rw [hh3, H.get_set, if_neg (by omega), setT_get a b]; exact yj j hj a b
  have N3 : h3.next = h.next + 3 := by rw [hh3]; exact N2
  have c3 : cellsAt h3.get h.next 3 = some (tkr c d) := (cellsAt_of (n := 3) z0 rfl).trans rfl
  have y2' : (setT h2 i d (nx 8 (nx 1 s))).get (h.next + 2) = some (.row [.int .i64 (v1 : Nat), .int .u64 0, .str [], .int .i64 0]) := by rw [setT_get ni nd]; exact y2
  have c2' : cellsAt (setT h2 i d (nx 8 (nx 1 s))).get h.next 3 = some (tkr c d) := by
    unfold cellsAt; rw [setT_get (by omega) (by omega), y0]; rfl
  simp [y2', ← hh3, c3, e0]
  refine numT_ct t3 1 rfl (by omega) ?_
  rw [← hv3]
  obtain ⟨h4, hh4⟩ : ∃ h4, h4 = (setT h3 i d (nx 1 (nx 8 (nx 1 s)))).set (h.next + 2) (.row [.int .i64 (v1 : Nat), .int .u64 (v2 : Nat), .str [], .int .i64 (v3 : Nat)]) := ⟨_, rfl⟩
  have t4 : Tk h4 c d i (nx 1 (nx 8 (nx 1 s))) := by rw [hh4]; exact tset _ (t3.set _)
  have u0 : h4.get h.next = some (.row (tkr c d)) := by rw [hh4, H.get_set, if_neg (by omega), setT_get (by omega) (by omega)]; exact z0
  have u1 : h4.get (h.next + 1) = some (.row [.int .i64 0, .int .u64 0, .str [], .int .i64 0]) := by rw [hh4, H.get_set, if_neg (by omega), setT_get (by omega) (by omega)]; exact z1
  have u2 : h4.get (h.next + 2) = some (.row [.int .i64 (v1 : Nat), .int .u64 (v2 : Nat), .str [], .int .i64 (v3 : Nat)]) := by rw [hh4, H.get_set, if_pos rfl]
  have uj : ∀ j, j < h.next → j ≠ i → j ≠ d → h4.get j = h.get j := fun j hj a b => by rw [hh4, H.get_set, if_neg (by omega), setT_get a b]; exact zj j hj a b
  have N4 : h4.next = h.next + 3 := by rw [hh4]; exact N3
  have c4 : cellsAt h4.get h.next 3 = some (tkr c d) := (cellsAt_of (n := 3) u0 rfl).trans rfl
  have c42 : cellsAt h4.get (h.next + 2) 4 = some [.int .i64 (v1 : Nat), .int .u64 (v2 : Nat), .str [], .int .i64 (v3 : Nat)] := (cellsAt_of (n := 4) u2 rfl).trans rfl
  have z2' : (setT h3 i d (nx 1 (nx 8 (nx 1 s)))).get (h.next + 2) = some (.row [.int .i64 (v1 : Nat), .int .u64 (v2 : Nat), .str [], .int .i64 0]) := by rw [setT_get ni nd]; exact z2
  simp [w3, z2', ← hh4]
  refine dreg_awp [h.next] [0, 2, 0, 0, 1, 0, 0, 0] rfl (by rfl) ?_
  simp [c4, c42, e1, I.foot, refOf]
  refine acall_of (v := .int .i64 (sizeN (v1 : Nat) : Nat)) (h' := h4) (fun Q q => psize_ct _ q) (by decide) (fun _ => Keep.refl _ _) ?_
  simp
  obtain ⟨h5, hh5⟩ : ∃ h5, h5 = setT h4 i d (pn s) := ⟨_, rfl⟩
  have ep : nx (sizeN (v1 : Nat)) (nx 1 (nx 8 (nx 1 s))) = pn s := by rw [hv1]; rfl
  have t5 : Tk h5 c d i (pn s) := by rw [hh5]; exact t4.set _
  have p1 : h5.get (h.next + 1) = some (.row [.int .i64 0, .int .u64 0, .str [], .int .i64 0]) := by rw [hh5, setT_get (by omega) (by omega)]; exact u1
  have p2 : h5.get (h.next + 2) = some (.row [.int .i64 (v1 : Nat), .int .u64 (v2 : Nat), .str [], .int .i64 (v3 : Nat)]) := by rw [hh5, setT_get ni nd]; exact u2
  refine acall_of (v := .str (tv (sizeN (v1 : Nat)) (nx 1 (nx 8 (nx 1 s))))) (h' := h5) (fun Q q => takT_ct t4 (sizeN (v1 : Nat)) rfl (by rw [ep, ← hh5]; exact q)) (by decide) (fun h => by cases h) ?_
  have c52 : ∀ j, h.next + 2 = j → cellsAt h5.get j 4 = some [.int .i64 (v1 : Nat), .int .u64 (v2 : Nat), .str [], .int .i64 (v3 : Nat)] := fun j hj => by subst hj; exact (cellsAt_of (n := 4) p2 rfl).trans rfl
  simp [p1, p2]
  refine ⟨?_, rfl, ?_⟩
  · refine Fr.ge (c := c) (s := s) (s' := pn s) ⟨by simp [hh5, setT_next]; omega, fun j hj a b => ?_⟩ t ?_
    · rw [H.get_set, if_neg (by omega), H.get_set, if_neg (by omega), hh5, setT_get a b]
      exact uj j hj a b
    · have := tset (.row [.int .i64 (v1 : Nat), .int .u64 (v2 : Nat), .str (tv (sizeN (v1 : Nat)) (nx 1 (nx 8 (nx 1 s)))), .int .i64 (v3 : Nat)]) t5
      exact ⟨by rw [H.get_set, if_neg (by omega)]; exact this.c, by rw [H.get_set, if_neg (by omega)]; exact this.i, by rw [H.get_set, if_neg (by omega)]; exact this.d⟩
  · have : pfxC (pv s) = [.int .i64 (v1 : Nat), .int .u64 (v2 : Nat), .str (tv (sizeN (v1 : Nat)) (nx 1 (nx 8 (nx 1 s)))), .int .i64 (v3 : Nat)] := by
      rw [hv1, hv2, hv3]; rfl
    rw [← this]
    exact q
end Go.Am
