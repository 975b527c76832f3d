/-
  N10, N11, N12, in one text.
-/
import Derived.Test.YtcokdbloajhapaaDoorN9
import Derived.Test.YtcokdbloajhapaaDoorNW
import Derived.Test.YtcokdbloajhapaaDoorN3c
/-
  NlriTaken answers true.
-/
namespace Go.Am
open Go.Proofs

set_option maxRecDepth 100000
def nlTS : TS := .st [(0, 4, true, (TS.st [(0, 1, false, TS.int), (1, 1, false, TS.int), (2, 1, false, TS.str), (3, 1, false, TS.int)])), (4, 1, false, TS.int), (5, 1, false, TS.int)]
theorem nl_same (n : Nl) : eqV (TS.st [(0, 4, true, (TS.st [(0, 1, false, TS.int), (1, 1, false, TS.int), (2, 1, false, TS.str), (3, 1, false, TS.int)])), (4, 1, false, TS.int), (5, 1, false, TS.int)]) (.agg (nlC n)) (.agg (nlC n)) = some true := by
  simp [nlC, eqV, eqFs]
theorem fam_of {x : Int} (h : 0 ≤ x) : 1 ≤ 1 + x.tmod 5 ∧ 1 + x.tmod 5 ≤ 5 := by
  rw [Int.tmod_eq_emod_of_nonneg h]; omega
theorem size_fam {f : Int} (h : 1 ≤ f ∧ f ≤ 5) : sizeN f ≠ 0 := by
  unfold sizeN
  split
  · omega
  · rw [if_pos (by omega)]; omega
theorem NlOk.fit {fam : Int} {add : Bool} {n : Nl} (h : NlOk fam add n) : NlFit n := ⟨h.idb, h.rdb⟩
theorem NlOk.enc {fam : Int} {add : Bool} {n : Nl} (h : NlOk fam add n) : encOk fam add n = true := by
  simp only [encOk, h.may, h.fam, Bool.true_and, beq_self_eq_true, Bool.or_eq_true, decide_eq_true_eq]
  cases ha : add with
  | true => exact .inr rfl
  | false => exact .inl (h.id0 ha)
theorem encS_ok {fam : Int} {add : Bool} {l : List Nl} (z : sizeN fam ≠ 0) (h : ∀ n ∈ l, NlOk fam add n) : encS l fam add = some (encL add l) := by
  unfold encS
  rw [if_neg z, if_pos (List.all_eq_true.2 fun n hn => (h n hn).enc)]
theorem gl_sls {h : H} {lo : Nat} {v : V} {l : List Nl} (g : Gl h lo 6 v (l.map nlC)) (hl : l.length ≤ 100000000) : Sls h.get 6 v (l.map nlC) :=
  g.sls (fun e he => by obtain ⟨x, _, rfl⟩ := List.mem_map.1 he; rfl) (by simp; omega)
theorem encL_ge {add : Bool} : ∀ l : List Nl, l.length ≤ (encL add l).length
  | [] => by simp
  | n :: l => by
    have h1 := enc1_pos add n
    have h2 := encL_ge (add := add) l
    simp only [encL, List.flatMap_cons, List.length_append, List.length_cons] at h2 ⊢
    omega
theorem taken_ct {h : H} {s : List UInt8} {x : Int} {add : Bool} (hx : 0 ≤ x) (hx2 : x < 256) : Pure Tryd.prog 3 [.str s, .int .u8 x, .bool add] h (.bool true) := by
  refine pure_to Tryd.func3 S.Hlaw07_NlriTaken_code S.Hlaw07_NlriTaken_enter rfl (Nat.le_of_ble_eq_true rfl) fun wf => ?_; simp only [S.Hlaw07_NlriTaken]
  have hfam := fam_of hx
  obtain ⟨f, hf⟩ : ∃ f, f = 1 + x.tmod 5 := ⟨_, rfl⟩
  rw [← hf] at hfam
  have z := size_fam hfam
  have e0 : intV .rem .u8 x 5 = some (.int .u8 (x.tmod 5)) := rfl
  have e1 : IntKind.i64.wrap (x.tmod 5) = x.tmod 5 := wrap_i64_id (by omega) (by omega)
  have e2 : IntKind.i64.wrap (1 + x.tmod 5) = f := by rw [← hf]; exact wrap_i64_id (by omega) (by omega)
  obtain ⟨m, hm⟩ : ∃ m : Nat, m = min s.length 2000 := ⟨_, rfl⟩
  have e3 : (if (2000 : Int) < (s.length : Nat) then (2000 : Int) else (s.length : Nat)) = (m : Nat) := by rw [hm]; split <;> omega
  have e4 : m ≤ s.length := by omega
  obtain ⟨s1, hs1⟩ : ∃ s1, s1 = s.take m := ⟨_, rfl⟩
  have hl1 : s1.length = m := by rw [hs1, List.length_take]; omega
  simp [e0, e1, e2, e3, e4]
  rw [← hs1]
  refine decode_ct (by omega) (fun hz => absurd hz z) (fun _ _ h2 g2 w2 => ?_) (fun _ l hl v h2 g2 w2 gl => ?_)
  · simp
    refine works_ct _ _ ?_
    simp
    exact g2
  obtain ⟨hall, hlen⟩ := decL_ok z _ s1 l (Nat.le_refl _) hl
  have hll := encL_ge (add := add) l
  have hs := gl_sls gl (by omega)
  have hln := hs.lenG w2 (n := l.length) (by simp)
  simp
  refine loop_up (fun i t h' => (t 0 = .str s ∧ t 2 = .bool add ∧ t 7 = .int .i64 f ∧ t 8 = v ∧ t 10 = .int .i64 (i : Nat)) ∧ Ge h2 h') l.length ⟨by simp, Ge.refl _⟩ ?_
  rintro i t h' hi ⟨⟨t0, t2, t7, t8, t10⟩, hg⟩ K hK
  by_cases hlt : i < l.length
  · obtain ⟨p, q, o, cs, a1, a2, a3, a4, a5, a6⟩ := hs.atG w2 (k := i) (by simpa using hlt)
    have hok := hall l[i] (List.getElem_mem _)
    have a5' : (cs.drop o).take 6 = nlC l[i] := by rw [a5]; simp
    have a7 : cs[o]? = some (.int .i64 f) := by have := a6 0 (by omega); simpa [nlC, hok.fam] using this
    have hw := wrap_succ hlt (by omega)
    simp [t8, t10, hln _ hg, hlt, a1, a3 _ hg, a4, a5']
    refine ncheck_ct (n := l[i]) _ ?_
    have a8 : cs[o]'(by omega) = .int .i64 f := by rw [List.getElem?_eq_getElem (by omega)] at a7; exact Option.some.inj a7
    have hlo : o < cs.length := by omega
    simp [hok.may, t7, t8, t10, a1, a3 _ hg, hlo, a8, hw]
    exact hK _ _ hlt ⟨by simp [t0, t2, t7, t8], hg⟩
  have hi2 : i = l.length := by omega
  subst hi2
  simp [t7, t8, t10, hln _ hg]
  simp [t2]
  refine encode_ct (hs.ge w2 hg) (by omega) (fun n hn => (hall n hn).fit) _ ?_
  rw [encS_ok z hall]
  simp [t2, t7]
  have hd := decL_back z l hall
  refine decode_ct (by omega) (fun hz => absurd hz z) (fun _ he => by rw [hd] at he; cases he) (fun _ l2 hl2 v2 h3 g3 w3 gl2 => ?_)
  have : l2 = l := by rw [hd] at hl2; exact (Option.some.inj hl2).symm
  subst this
  have hs3 := gl_sls gl2 (by omega)
  have hln2 := hs3.lenG w3 (n := l2.length) (by simp)
  have hg3 := hg.trans g3
  have e5 : ((encL add l2).length : Int) = (m : Nat) := by omega
  simp [hln2 _ (Ge.refl _), t0, t8, hln _ hg3, e5, e3]
  refine loop_up (fun i t h' => (t 8 = v ∧ t 12 = v2 ∧ t 14 = .int .i64 (i : Nat)) ∧ Ge h3 h') l2.length ⟨by simp [t8], Ge.refl _⟩ ?_
  clear t0 t2 t7 t8 t10
  rintro i t h' hi ⟨⟨t8, t12, t14⟩, hg4⟩ K hK
  have hg5 := hg3.trans hg4
  by_cases hlt : i < l2.length
  · obtain ⟨p, q, o, cs, a1, a2, a3, a4, a5, a6⟩ := hs.atG w2 (k := i) (by simpa using hlt)
    obtain ⟨p2, q2, o2, cs2, b1, b2, b3, b4, b5, b6⟩ := hs3.atG w3 (k := i) (by simpa using hlt)
    have a5' : (cs.drop o).take 6 = nlC l2[i] := by rw [a5]; simp
    have b5' : (cs2.drop o2).take 6 = nlC l2[i] := by rw [b5]; simp
    have hw := wrap_succ hlt (by omega)
    have hns := nl_same l2[i]
    simp [t8, t14, hln _ hg5, hlt]
    refine dreg_of ?_
    simp [t8, t12, t14, a1, b1, a3 _ hg5, b3 _ hg4, a4, b4, a5', b5', hns, hw]
    exact hK _ _ hlt ⟨by simp [t8, t12], hg4⟩
  have hi2 : i = l2.length := by omega
  subst hi2
  simp [t8, t14, hln _ hg5]
  refine works_ct _ _ ?_
  simp
  exact g2.trans hg5
end Go.Am

/-
  NlriBack's told prefixes: what 'made' makes.
-/
namespace Go.Am
open Go.Proofs

set_option maxRecDepth 100000
structure Raw where
  rd : Nat
  addr : List UInt8
  len : Nat
  id : Nat
  label : Nat
structure Raw.Ok (r : Raw) : Prop where
  rd : r.rd < 18446744073709551616
  addr : r.addr.length = 16
  len : r.len < 256
  id : r.id < 4294967296
  label : r.label < 4294967296
def rawC (r : Raw) : List V := .int .u64 (r.rd : Nat) :: (r.addr.map byteV ++ [.int .u8 (r.len : Nat), .int .u32 (r.id : Nat), .int .u32 (r.label : Nat)])
def lenM (r : Raw) (fam : Int) : Nat := r.len % (8 * sizeN fam + 1)
def fullP (r : Raw) (fam : Int) : Pfx := ⟨fam, if 4 ≤ fam then r.rd else 0, r.addr.take (sizeN fam), 8 * (sizeN fam : Int)⟩
def madeN (r : Raw) (fam : Int) (add : Bool) : Nl := ⟨⟨fam, if 4 ≤ fam then r.rd else 0, maskL (r.addr.take (sizeN fam)) (lenM r fam : Nat), (lenM r fam : Nat)⟩, if add = true then r.id else 0, if 3 ≤ fam then r.label % 1048576 else 0⟩
theorem maskL_all : ∀ (l : List UInt8) (n : Int), 8 * (l.length : Int) ≤ n → maskL l n = l
  | [], _, _ => rfl
  | b :: l, n, h => by
    simp only [List.length_cons] at h
    rw [maskL, maskL_all l (n - 8) (by omega), maskN_big (by omega)]
    simp
theorem fam5 {fam : Int} (h : 1 ≤ fam ∧ fam ≤ 5) : fam = 1 ∨ fam = 2 ∨ fam = 3 ∨ fam = 4 ∨ fam = 5 := by omega
theorem apart4 {fam : Int} (h : 1 ≤ fam ∧ fam ≤ 5) : apartF fam = decide (4 ≤ fam) := by
  rcases fam5 h with rfl | rfl | rfl | rfl | rfl <;> rfl
theorem label3 {fam : Int} (h : 1 ≤ fam ∧ fam ≤ 5) : labelF fam = decide (3 ≤ fam) := by
  rcases fam5 h with rfl | rfl | rfl | rfl | rfl <;> rfl
theorem full_may {r : Raw} {fam : Int} (h : 1 ≤ fam ∧ fam ≤ 5) (ok : r.Ok) : mayP (fullP r fam) = true := by
  have z := size_fam h
  have sl := size_le fam
  have hl : (r.addr.take (sizeN fam)).length = sizeN fam := by rw [List.length_take, ok.addr]; omega
  simp only [mayP, fullP, Bool.and_eq_true, Bool.or_eq_true, decide_eq_true_eq, apart4 h]
  refine ⟨⟨⟨⟨⟨decide_eq_true z, decide_eq_true hl⟩, decide_eq_true (by omega)⟩, decide_eq_true (by omega)⟩, ?_⟩, decide_eq_true (maskL_all _ _ (by rw [hl]; omega))⟩
  split <;> simp_all
theorem made_ok {r : Raw} {fam : Int} {add : Bool} (h : 1 ≤ fam ∧ fam ≤ 5) (ok : r.Ok) : NlOk fam add (madeN r fam add) := by
  have z := size_fam h
  have sl := size_le fam
  have hl : (r.addr.take (sizeN fam)).length = sizeN fam := by rw [List.length_take, ok.addr]; omega
  have hm : lenM r fam < 8 * sizeN fam + 1 := Nat.mod_lt _ (by omega)
  refine ⟨?_, rfl, fun h => by subst h; rfl, ?_, ?_⟩
  · simp only [mayN, mayP, madeN, Bool.and_eq_true, Bool.or_eq_true, decide_eq_true_eq, apart4 h, label3 h, maskL_len, maskL_idem, hl, and_true]
    refine ⟨⟨⟨⟨⟨decide_eq_true z, decide_eq_true (by omega)⟩, decide_eq_true (by omega)⟩, ?_⟩, ?_⟩, ?_⟩
    · split <;> simp_all
    · split <;> exact decide_eq_true (by omega)
    · split <;> simp_all
  · simp only [madeN]; have := ok.id; split <;> omega
  · simp only [madeN]; have := ok.rd; split <;> omega
theorem list16 {l : List UInt8} (h : l.length = 16) : ∃ a0 a1 a2 a3 a4 a5 a6 a7 a8 a9 a10 a11 a12 a13 a14 a15, l = [a0, a1, a2, a3, a4, a5, a6, a7, a8, a9, a10, a11, a12, a13, a14, a15] := by
  match l, h with
  | [a0, a1, a2, a3, a4, a5, a6, a7, a8, a9, a10, a11, a12, a13, a14, a15], _ => exact ⟨_, _, _, _, _, _, _, _, _, _, _, _, _, _, _, _, rfl⟩
theorem u8_byte (b : UInt8) : u8Of (byteV b) = some b := by simp [u8Of, byteV]
theorem made_ct {h : H} {r : Raw} {fam : Int} {add : Bool} (hf : 1 ≤ fam ∧ fam ≤ 5) (ok : r.Ok) : Pure Tryd.prog 9 [.agg (rawC r), .int .i64 fam, .bool add] h (.agg (nlC (madeN r fam add))) := by
  have hm := full_may hf ok
  have hln : lenM r fam < 8 * sizeN fam + 1 := Nat.mod_lt _ (by omega)
  obtain ⟨m, e⟩ : ∃ m, m = madeN r fam add := ⟨_, rfl⟩
  rw [← e]
  obtain ⟨rd, addr, len, id, label⟩ := r
  obtain ⟨a0, a1, a2, a3, a4, a5, a6, a7, a8, a9, a10, a11, a12, a13, a14, a15, rfl⟩ := list16 ok.addr
  obtain ⟨_, _, o3, o4, o5⟩ := ok
  simp only at o3 o4 o5
  have n1 : ¬ h.next = h.next + 1 + 1 := by omega
  have n2 : ¬ h.next = h.next + 1 + 1 + 1 := by omega
  have n3 : ¬ h.next + 1 = h.next + 1 + 1 + 1 := by omega
  rcases fam5 hf with rfl | rfl | rfl | rfl | rfl
  · refine pure_to Tryd.func9 S.Hlaw07_made_code S.Hlaw07_made_enter rfl (Nat.le_of_ble_eq_true rfl) fun wf => ?_; simp only [S.Hlaw07_made]
    have sa : sliceArrV 16 1 none (some (.int .i64 4)) none (.ptr h.next 20 1) = some (.sl h.next 20 1 4 (some 16)) := rfl
    have w1 : IntKind.i64.wrap (len : Int) = len := wrap_i64_id (by omega) (by omega)
    have w2 : IntKind.i64.wrap 32 = 32 := by decide
    have w3 : IntKind.i64.wrap (32 + 1) = 33 := by decide
    have hl : (len : Int).tmod 33 = (len % 33 : Nat) := by rw [Int.tmod_eq_emod_of_nonneg (by omega)]; omega
    have hw : IntKind.i64.wrap ((len : Int).tmod 33) = (len % 33 : Nat) := by rw [hl]; exact wrap_i64_id (by omega) (by omega)
    have e5 : intV .rem .i64 (len : Int) 33 = some (.int .i64 (len % 33 : Nat)) := by rw [← hl]; simp [intV]
    have e6 : intV .rem .u32 (label : Int) 1048576 = some (.int .u32 (label % 1048576 : Nat)) := by
      have : (label : Int).tmod 1048576 = (label % 1048576 : Nat) := by rw [Int.tmod_eq_emod_of_nonneg (by omega)]; omega
      simp [intV, this]
    simp [rawC]
    refine psize_ct _ ?_
    simp [sizeN, sa, elemsV_sl, u8_byte, w2]
    cases add <;> simp [n1, n2] <;> refine dreg_of ?_ <;> simp [w1, w2, n1, n2] <;>
      refine scall_of (cut_ct (p := fullP ⟨rd, [a0, a1, a2, a3, a4, a5, a6, a7, a8, a9, a10, a11, a12, a13, a14, a15], len, id, label⟩ 1) (n := (len % 33 : Nat)) hm (by omega) (by simp [fullP, sizeN]; omega)) ?_ <;>
      subst e <;> simp [fullP, pfxC, sizeN, madeN, lenM, nlC] <;> repeat (first | exact Ge.refl _ | refine Ge.push ?_ _ | refine Ge.set ?_ (by omega) _)
  · refine pure_to Tryd.func9 S.Hlaw07_made_code S.Hlaw07_made_enter rfl (Nat.le_of_ble_eq_true rfl) fun wf => ?_; simp only [S.Hlaw07_made]
    have sa : sliceArrV 16 1 none (some (.int .i64 16)) none (.ptr h.next 20 1) = some (.sl h.next 20 1 16 (some 16)) := rfl
    have w1 : IntKind.i64.wrap (len : Int) = len := wrap_i64_id (by omega) (by omega)
    have w2 : IntKind.i64.wrap 128 = 128 := by decide
    have w3 : IntKind.i64.wrap (128 + 1) = 129 := by decide
    have hl : (len : Int).tmod 129 = (len % 129 : Nat) := by rw [Int.tmod_eq_emod_of_nonneg (by omega)]; omega
    have hw : IntKind.i64.wrap ((len : Int).tmod 129) = (len % 129 : Nat) := by rw [hl]; exact wrap_i64_id (by omega) (by omega)
    have e5 : intV .rem .i64 (len : Int) 129 = some (.int .i64 (len % 129 : Nat)) := by rw [← hl]; simp [intV]
    have e6 : intV .rem .u32 (label : Int) 1048576 = some (.int .u32 (label % 1048576 : Nat)) := by
      have : (label : Int).tmod 1048576 = (label % 1048576 : Nat) := by rw [Int.tmod_eq_emod_of_nonneg (by omega)]; omega
      simp [intV, this]
    simp [rawC]
    refine psize_ct _ ?_
    simp [sizeN, sa, elemsV_sl, u8_byte, w2]
    cases add <;> simp [n1, n2] <;> refine dreg_of ?_ <;> simp [w1, w2, n1, n2] <;>
      refine scall_of (cut_ct (p := fullP ⟨rd, [a0, a1, a2, a3, a4, a5, a6, a7, a8, a9, a10, a11, a12, a13, a14, a15], len, id, label⟩ 2) (n := (len % 129 : Nat)) hm (by omega) (by simp [fullP, sizeN]; omega)) ?_ <;>
      subst e <;> simp [fullP, pfxC, sizeN, madeN, lenM, nlC] <;> repeat (first | exact Ge.refl _ | refine Ge.push ?_ _ | refine Ge.set ?_ (by omega) _)
  · refine pure_to Tryd.func9 S.Hlaw07_made_code S.Hlaw07_made_enter rfl (Nat.le_of_ble_eq_true rfl) fun wf => ?_; simp only [S.Hlaw07_made]
    have sa : sliceArrV 16 1 none (some (.int .i64 4)) none (.ptr h.next 20 1) = some (.sl h.next 20 1 4 (some 16)) := rfl
    have w1 : IntKind.i64.wrap (len : Int) = len := wrap_i64_id (by omega) (by omega)
    have w2 : IntKind.i64.wrap 32 = 32 := by decide
    have w3 : IntKind.i64.wrap (32 + 1) = 33 := by decide
    have hl : (len : Int).tmod 33 = (len % 33 : Nat) := by rw [Int.tmod_eq_emod_of_nonneg (by omega)]; omega
    have hw : IntKind.i64.wrap ((len : Int).tmod 33) = (len % 33 : Nat) := by rw [hl]; exact wrap_i64_id (by omega) (by omega)
    have e5 : intV .rem .i64 (len : Int) 33 = some (.int .i64 (len % 33 : Nat)) := by rw [← hl]; simp [intV]
    have e6 : intV .rem .u32 (label : Int) 1048576 = some (.int .u32 (label % 1048576 : Nat)) := by
      have : (label : Int).tmod 1048576 = (label % 1048576 : Nat) := by rw [Int.tmod_eq_emod_of_nonneg (by omega)]; omega
      simp [intV, this]
    simp [rawC]
    refine psize_ct _ ?_
    simp [sizeN, sa, elemsV_sl, u8_byte, w2, e6, n1, n2]
    cases add <;> simp [n1, n2] <;> refine dreg_of ?_ <;> simp [w1, w2, n1, n2] <;>
      refine scall_of (cut_ct (p := fullP ⟨rd, [a0, a1, a2, a3, a4, a5, a6, a7, a8, a9, a10, a11, a12, a13, a14, a15], len, id, label⟩ 3) (n := (len % 33 : Nat)) hm (by omega) (by simp [fullP, sizeN]; omega)) ?_ <;>
      subst e <;> simp [fullP, pfxC, sizeN, madeN, lenM, nlC] <;> repeat (first | exact Ge.refl _ | refine Ge.push ?_ _ | refine Ge.set ?_ (by omega) _)
  · refine pure_to Tryd.func9 S.Hlaw07_made_code S.Hlaw07_made_enter rfl (Nat.le_of_ble_eq_true rfl) fun wf => ?_; simp only [S.Hlaw07_made]
    have sa : sliceArrV 16 1 none (some (.int .i64 4)) none (.ptr h.next 20 1) = some (.sl h.next 20 1 4 (some 16)) := rfl
    have w1 : IntKind.i64.wrap (len : Int) = len := wrap_i64_id (by omega) (by omega)
    have w2 : IntKind.i64.wrap 32 = 32 := by decide
    have w3 : IntKind.i64.wrap (32 + 1) = 33 := by decide
    have hl : (len : Int).tmod 33 = (len % 33 : Nat) := by rw [Int.tmod_eq_emod_of_nonneg (by omega)]; omega
    have hw : IntKind.i64.wrap ((len : Int).tmod 33) = (len % 33 : Nat) := by rw [hl]; exact wrap_i64_id (by omega) (by omega)
    have e5 : intV .rem .i64 (len : Int) 33 = some (.int .i64 (len % 33 : Nat)) := by rw [← hl]; simp [intV]
    have e6 : intV .rem .u32 (label : Int) 1048576 = some (.int .u32 (label % 1048576 : Nat)) := by
      have : (label : Int).tmod 1048576 = (label % 1048576 : Nat) := by rw [Int.tmod_eq_emod_of_nonneg (by omega)]; omega
      simp [intV, this]
    simp [rawC]
    refine psize_ct _ ?_
    simp [sizeN, sa, elemsV_sl, u8_byte, w2, e6, n1, n2]
    cases add <;> simp [n1, n2] <;> refine dreg_of ?_ <;> simp [w1, w2, n1, n2] <;>
      refine scall_of (cut_ct (p := fullP ⟨rd, [a0, a1, a2, a3, a4, a5, a6, a7, a8, a9, a10, a11, a12, a13, a14, a15], len, id, label⟩ 4) (n := (len % 33 : Nat)) hm (by omega) (by simp [fullP, sizeN]; omega)) ?_ <;>
      subst e <;> simp [fullP, pfxC, sizeN, madeN, lenM, nlC] <;> repeat (first | exact Ge.refl _ | refine Ge.push ?_ _ | refine Ge.set ?_ (by omega) _)
  · refine pure_to Tryd.func9 S.Hlaw07_made_code S.Hlaw07_made_enter rfl (Nat.le_of_ble_eq_true rfl) fun wf => ?_; simp only [S.Hlaw07_made]
    have sa : sliceArrV 16 1 none (some (.int .i64 16)) none (.ptr h.next 20 1) = some (.sl h.next 20 1 16 (some 16)) := rfl
    have w1 : IntKind.i64.wrap (len : Int) = len := wrap_i64_id (by omega) (by omega)
    have w2 : IntKind.i64.wrap 128 = 128 := by decide
    have w3 : IntKind.i64.wrap (128 + 1) = 129 := by decide
    have hl : (len : Int).tmod 129 = (len % 129 : Nat) := by rw [Int.tmod_eq_emod_of_nonneg (by omega)]; omega
    have hw : IntKind.i64.wrap ((len : Int).tmod 129) = (len % 129 : Nat) := by rw [hl]; exact wrap_i64_id (by omega) (by omega)
    have e5 : intV .rem .i64 (len : Int) 129 = some (.int .i64 (len % 129 : Nat)) := by rw [← hl]; simp [intV]
    have e6 : intV .rem .u32 (label : Int) 1048576 = some (.int .u32 (label % 1048576 : Nat)) := by
      have : (label : Int).tmod 1048576 = (label % 1048576 : Nat) := by rw [Int.tmod_eq_emod_of_nonneg (by omega)]; omega
      simp [intV, this]
    simp [rawC]
    refine psize_ct _ ?_
    simp [sizeN, sa, elemsV_sl, u8_byte, w2, e6, n1, n2]
    cases add <;> simp [n1, n2] <;> refine dreg_of ?_ <;> simp [w1, w2, n1, n2] <;>
      refine scall_of (cut_ct (p := fullP ⟨rd, [a0, a1, a2, a3, a4, a5, a6, a7, a8, a9, a10, a11, a12, a13, a14, a15], len, id, label⟩ 5) (n := (len % 129 : Nat)) hm (by omega) (by simp [fullP, sizeN]; omega)) ?_ <;>
      subst e <;> simp [fullP, pfxC, sizeN, madeN, lenM, nlC] <;> repeat (first | exact Ge.refl _ | refine Ge.push ?_ _ | refine Ge.set ?_ (by omega) _)
end Go.Am

/-
  NlriBack answers true.
-/
namespace Go.Am
open Go.Proofs

set_option maxRecDepth 100000
theorem encL_snoc {add : Bool} (l : List Nl) (n : Nl) : encL add (l ++ [n]) = encL add l ++ enc1 add n := by simp [encL]
theorem enc1_32 {fam : Int} {add : Bool} {n : Nl} (h : NlOk fam add n) : (enc1 add n).length ≤ 32 := enc1_le h.may
theorem back_ct {h : H} {sl : V} {l : List Raw} {x : Int} {add : Bool} (hx : 0 ≤ x) (hx2 : x < 256) (hs : Sls h.get 20 sl (l.map rawC)) (hr : ∀ r ∈ l, r.Ok) (hll : l.length < 9223372036854775808) :
    Pure Tryd.prog 4 [sl, .int .u8 x, .bool add] h (.bool true) := by
  refine pure_to Tryd.func4 S.Hlaw07_NlriBack_code S.Hlaw07_NlriBack_enter rfl (Nat.le_of_ble_eq_true rfl) fun wf => ?_; simp only [S.Hlaw07_NlriBack]
  have hfam := fam_of hx
  obtain ⟨f, hf⟩ : ∃ f, f = 1 + x.tmod 5 := ⟨_, rfl⟩
  rw [← hf] at hfam
  have z := size_fam hfam
  have e0 : intV .rem .u8 x 5 = some (.int .u8 (x.tmod 5)) := rfl
  have e1 : IntKind.i64.wrap (x.tmod 5) = x.tmod 5 := wrap_i64_id (by omega) (by omega)
  have e2 : IntKind.i64.wrap (1 + x.tmod 5) = f := by rw [← hf]; exact wrap_i64_id (by omega) (by omega)
  have hlen := hs.lenG wf (n := l.length) (by simp)
  simp [e0, e1, e2]
  refine loop_up (fun i t h' => ∃ acc v, acc = (l.take i).map (madeN · f add) ∧ i ≤ 30 ∧ (t 0 = sl ∧ t 2 = .bool add ∧ t 7 = .int .i64 f ∧ t 8 = v ∧ t 9 = .int .i64 (encL add acc).length ∧ t 10 = .int .i64 (i : Nat)) ∧ Ge h h' ∧ h'.WF ∧ Gl h' h.next 6 v (acc.map nlC)) l.length ⟨[], .nilsl, by simp, by omega, by simp [encL], Ge.refl _, wf, Gl.nil _ _ _⟩ ?_
  rintro i t h1 hi ⟨acc, v, hacc, hi30, ⟨t0, t2, t7, t8, t9, t10⟩, g1, w1, gl⟩ K hK
  have hal : acc.length = i := by rw [hacc]; simp; omega
  have hok : ∀ n ∈ acc, NlOk f add n := fun n hn => by
    rw [hacc] at hn
    obtain ⟨r, hr1, rfl⟩ := List.mem_map.1 hn
    exact made_ok hfam (hr r (List.mem_of_mem_take hr1))
  have hel := encL_le (add := add) (l := acc) (fun n hn => (hok n hn).may)
  by_cases hc : i < l.length ∧ i < 30
  · obtain ⟨hlt, h30⟩ := hc
    obtain ⟨p, q, o, cs, a1, a2, a3, a4, a5, a6⟩ := hs.atG wf (k := i) (by simpa using hlt)
    have hrk := hr l[i] (List.getElem_mem _)
    have a5' : (cs.drop o).take 20 = rawC l[i] := by rw [a5]; simp
    have hw := wrap_succ hlt (by omega)
    have h30' : (i : Int) < 30 := by omega
    simp [t0, t10, hlen _ g1, hlt, h30', a1, a3 _ g1, a4, a5', t2, t7]
    refine made_ct hfam hrk _ ?_
    obtain ⟨n, hn⟩ : ∃ n, n = madeN l[i] f add := ⟨_, rfl⟩
    have hnk : NlOk f add n := by rw [hn]; exact made_ok hfam hrk
    have he := enc1_32 hnk
    rw [← hn]
    obtain ⟨h2, hh2⟩ : ∃ h2, h2 = (h1.push (.row [.int .i64 0, .int .u64 0, .str [], .int .i64 0, .int .u32 0, .int .u32 0])).set h1.next (.row (nlC n)) := ⟨_, rfl⟩
    have c2 : cellsAt h2.get h1.next 6 = some (nlC n) := by rw [hh2]; simp [nlC]
    have hcs : (V.agg (nlC n)).cells = nlC n := rfl
    have hso : (V.agg (nlC n)).solid = true := rfl
    have hnl : (nlC n).length = 6 := rfl
    have hnt : (nlC n).take 6 = nlC n := rfl
    simp [hcs, hso, hnl, hnt, t2]
    rw [← hh2]
    refine size_ct _ ?_
    simp [hnk.may, c2, hnt]
    refine ncheck_ct _ ?_
    have hel3 := hel
    have hw2 : IntKind.i64.wrap ((encL add acc).length + (enc1 add n).length : Int) = ((encL add acc).length + (enc1 add n).length : Nat) := by rw [← Int.natCast_add]; exact wrap_nat (by omega)
    have hno : ∀ x, x ∈ nlC n → x.one = true := by simp [nlC]
    simp [hnk.may, t9, c2, hnt, t8, hw2, hnl, if_pos hno]
    have g2 : Ge h1 h2 := by rw [hh2]; exact ((Ge.refl _).push _).set (Nat.le_refl _) _
    have w2 : h2.WF := by rw [hh2]; exact (w1.push _).set (by simp) _
    have n2 : h2.next = h1.next + 1 := by rw [hh2]; simp
    obtain ⟨h3, hh3⟩ : ∃ h3, h3 = h2.push (.row (nlC n)) := ⟨_, rfl⟩
    have gl3 : Gl h3 h.next 6 v (acc.map nlC) := by
      refine gl.keep (by rw [hh3]; simp; omega) (fun j hj => ?_)
      have := (gl.lo j hj).2
      rw [hh3, H.get_push, if_neg (by omega), g2.2 j this]
    have w3 : h3.WF := by rw [hh3]; exact w2.push _
    have n3 : h3.next = h2.next + 1 := by rw [hh3]; simp
    have g8 : h3.get h2.next = some (.row (nlC n)) := by rw [hh3]; simp
    rw [← hh3, ← n3]
    have hx : elemsV h3.get 6 (.sl h2.next 6 0 1 (some 1)) = some (1, nlC n) := by
      rw [elemsV_sl, if_neg (by omega), cellsAt_of g8 (by simp [nlC])]
      simp [nlC]
    have gn := g1.1
    obtain ⟨v', d, f1, f2, f3, f4, f5⟩ := gl3.append (bytes := 48) (e := nlC n) (by omega) (by
      intro x hx'
      obtain ⟨y, _, rfl⟩ := List.mem_map.1 hx'
      rfl) rfl hx rfl (by omega) (by simp; omega) (by simp; omega)
    simp [f1, t10, hw]
    have hid : ∀ i, i < h.next → i ∉ v.ids := fun i hi hm => by have := (gl.lo i hm).1; omega
    have g3 : Ge h (h3.app d) := ⟨by omega, fun j hj => by
      rw [f4 j (hid j hj) (by omega), hh3, H.get_push, if_neg (by omega), g2.2 j (by omega)]
      exact g1.2 j hj⟩
    refine hK _ _ hlt ⟨acc ++ [n], v', by rw [hacc, hn, List.take_succ_eq_append_getElem hlt, List.map_append]; rfl, by omega, ?_, g3, f5 w3, by simpa using f2⟩
    simp [t0, t2, t7, encL_snoc]
  obtain ⟨in', hin⟩ : ∃ n : Nat, n = i := ⟨_, rfl⟩
  have hs6 := gl_sls gl (by omega)
  have hln6 := hs6.lenG w1 (n := acc.length) (by simp)
  have hd := decL_back z acc hok
  have hfit : ∀ n ∈ acc, NlFit n := fun n hn => (hok n hn).fit
  have hle1 : acc.length ≤ 30 := by omega
  rcases (by omega : ¬ i < l.length ∨ (i < l.length ∧ ¬ (i : Int) < 30)) with hlt | ⟨hlt, h30⟩
  all_goals
    first
      | simp [t0, t10, hlen _ g1, hlt, h30, t8, t7, t2]
      | simp [t0, t10, hlen _ g1, hlt, t8, t7, t2]
    refine encode_ct hs6 (by omega) hfit _ ?_
    rw [encS_ok z hok]
    simp [t2, t7]
    refine decode_ct (by omega) (fun hz => absurd hz z) (fun _ he => by rw [hd] at he; cases he) (fun _ l2 hl2 v2 h3 g3 w3 gl2 => ?_)
    have hl2' : l2 = acc := by rw [hd] at hl2; exact (Option.some.inj hl2).symm
    subst hl2'
    have hs3 := gl_sls gl2 (by omega)
    have hln2 := hs3.lenG w3 (n := l2.length) (by simp)
    simp [hln2 _ (Ge.refl _), t8, hln6 _ g3, t9]
    refine loop_up (fun i t h' => (t 2 = .bool add ∧ t 7 = .int .i64 f ∧ t 8 = v ∧ t 14 = .str (encL add l2) ∧ t 16 = v2 ∧ t 18 = .int .i64 (i : Nat)) ∧ Ge h3 h' ∧ h'.WF) l2.length ⟨by simp [t2, t7, t8], Ge.refl _, w3⟩ ?_
    clear t0 t2 t7 t8 t9 t10
    rintro i t h' hi ⟨⟨t2, t7, t8, t14, t16, t18⟩, hg4, w4⟩ K hK
    have hg5 := g3.trans hg4
    by_cases hlt : i < l2.length
    · obtain ⟨p, q, o, cs, a1, a2, a3, a4, a5, a6⟩ := hs6.atG w1 (k := i) (by simpa using hlt)
      obtain ⟨p2, q2, o2, cs2, b1, b2, b3, b4, b5, b6⟩ := hs3.atG w3 (k := i) (by simpa using hlt)
      have a5' : (cs.drop o).take 6 = nlC l2[i] := by rw [a5]; simp
      have b5' : (cs2.drop o2).take 6 = nlC l2[i] := by rw [b5]; simp
      have hw := wrap_succ hlt (by omega)
      have hns := nl_same l2[i]
      simp [t8, t18, hln6 _ hg5, hlt]
      refine dreg_of ?_
      simp [t8, t16, t18, a1, b1, a3 _ hg5, b3 _ hg4, a4, b4, a5', b5', hns, hw]
      exact hK _ _ hlt ⟨by simp [t2, t7, t8, t14, t16], hg4, w4⟩
    have hi2 : i = l2.length := by omega
    subst hi2
    simp [t8, t18, hln6 _ hg5, t14]
    by_cases hnil : l2 = []
    · have e3 : encL add l2 = [] := by rw [hnil]; rfl
      simp [e3]
      refine works_ct _ _ ?_
      simp
      exact g1.trans hg5
    · obtain ⟨l', n, hln⟩ : ∃ l' n, l2 = l' ++ [n] := ⟨_, _, (List.dropLast_concat_getLast hnil).symm⟩
      have hpos : 0 < l2.length := List.length_pos_iff.2 hnil
      have hep : 0 < (encL add l2).length := by have := encL_ge (add := add) l2; omega
      have hnk : NlOk f add n := hok n (by rw [hln]; simp)
      have e4 : IntKind.i64.wrap ((l2.length : Int) - 1) = ((l2.length - 1 : Nat) : Int) := by rw [wrap_i64_id (by omega) (by omega)]; omega
      obtain ⟨p, q, o, cs, a1, a2, a3, a4, a5, a6⟩ := hs6.atG w1 (k := l2.length - 1) (by simp; omega)
      have a5' : (cs.drop o).take 6 = nlC n := by rw [a5]; simp [hln]
      have hne1 := enc1_pos add n
      simp [t8, hln6 _ hg5, hpos, hep, e4, a1, a3 _ hg5, a4, a5', t2]
      refine size_ct _ ?_
      by_cases h1n : 1 < (enc1 add n).length
      · have h1i : (1 : Int) < ((enc1 add n).length : Int) := by omega
        have e6 : IntKind.i64.wrap (((encL add l2).length : Int) - 1) = (((encL add l2).length - 1 : Nat) : Int) := by rw [wrap_i64_id (by omega) (by omega)]; omega
        have e7 : (encL add l2).length - 1 ≤ (encL add l2).length := by omega
        have hcut : decL f add ((encL add l2).take ((encL add l2).length - 1)) = none := by rw [hln]; exact decL_cut z l' n (by rw [← hln]; exact hok) h1n
        simp [hnk.may, h1i, e6, e7, t14, t7, t2]
        refine decode_ct (by simp; omega) (fun hz => absurd hz z) (fun _ _ h6 g6 w6 => ?_) (fun _ l3 hl3 => by rw [hcut] at hl3; cases hl3)
        simp
        refine works_ct _ _ ?_
        simp
        exact (g1.trans hg5).trans g6
      · have h1i : ¬ (1 : Int) < ((enc1 add n).length : Int) := by omega
        simp [hnk.may, h1i]
        refine works_ct _ _ ?_
        simp
        exact g1.trans hg5
end Go.Am
