/-
  R1, R2, R3, R4, R5, R6, R7, in one text.
-/
import Derived.Test.YtapokdcbhpdceaaWA
import Derived.Test.YtapokdcbhpdceaaO30
import Derived.Test.YtapokdcbhpdceaaAm29
import Derived.Test.YtapokdcbhpdceaaAm30
/-
  Contracts of the reference: numbers, families, a family at its place.
-/
namespace Go.Am
open Go.Proofs

set_option maxRecDepth 100000
theorem rValue_ct {h : H} {l : List UInt8} (hl : l.length ≤ 7) : Pure Try.prog 86 [.str l] h (.int .u64 (val l : Nat)) := by
  refine pure_to Try.func86 S.Href02_Value_code S.Href02_Value_enter rfl (Nat.le_of_ble_eq_true rfl) fun wf => ?_; simp only [S.Href02_Value]
  simp
  refine loop_up (fun i t h' => (t 0 = .str l ∧ t 3 = .int .u64 (val (l.take i) : Nat) ∧ t 4 = .int .i64 i) ∧ h = h') l.length ⟨by simp [val], rfl⟩ ?_
  rintro i t _ hi ⟨⟨t0, t3, t4⟩, rfl⟩ K hK
  by_cases hlt : i < l.length
  · have hw := wrap_succ hlt (by omega)
    have hs : val (l.take (i + 1)) = val (l.take i) * 256 + (l[i]).toNat := by rw [← val_snoc, List.take_append_getElem hlt]
    have hv : val (l.take i) * 256 + (l[i]).toNat < 18446744073709551616 := by rw [← hs]; exact val_lt8 (by rw [List.length_take]; omega)
    have hb : (l[i]).toNat < 256 := (l[i]).toNat_lt
    have w1 : IntKind.u64.wrap ((val (l.take i) : Int) * 256) = ((val (l.take i) * 256 : Nat) : Int) := by simp [IntKind.wrap, IntKind.bits, IntKind.signed]; omega
    have w2 : IntKind.u64.wrap ((l[i]).toNat : Int) = ((l[i]).toNat : Int) := u64_id (by omega)
    have w3 : IntKind.u64.wrap (((val (l.take i) * 256 : Nat) : Int) + ((l[i]).toNat : Int)) = ((val (l.take i) * 256 + (l[i]).toNat : Nat) : Int) := by
      have := u64_id hv
      simpa using this
    simp [t0, t3, t4, hlt, hw]
    rw [w1, w2, w3, ← hs]
    exact hK _ _ hlt ⟨by simp [t0], rfl⟩
  · have hle : l.take i = l := List.take_of_length_le (by omega)
    simp [t0, t3, t4, hlt, hle]
theorem rvalue_ct {h : H} {l : List UInt8} (hl : l.length ≤ 7) : Pure Try.prog 64 [.str l] h (.int .i64 (val l : Nat)) := by
  refine pure_to Try.func64 S.Href10_value_code S.Href10_value_enter rfl (Nat.le_of_ble_eq_true rfl) fun wf => ?_; simp only [S.Href10_value]
  have hv : val l < 9223372036854775808 := Nat.lt_of_lt_of_le (val_lt _ l rfl) (by
    have := Nat.pow_le_pow_right (show 0 < 256 by omega) hl
    have e : 256 ^ 7 = 72057594037927936 := by decide
    omega)
  have w := wrap_nat hv
  simp
  refine rValue_ct hl _ ?_
  simp [w]
theorem famB_cases (a b : Int) : famB a b = if a = 1 ∧ b = 1 then 1 else if a = 2 ∧ b = 1 then 2 else if a = 1 ∧ b = 4 then 3 else if a = 1 ∧ b = 128 then 4 else if a = 2 ∧ b = 128 then 5 else 0 := by
  unfold famB rws
  simp only [idxI, Bool.and_eq_true, beq_iff_eq]
  have e : ∀ x y : Int, (x = a ∧ y = b) = (a = x ∧ b = y) := fun x y => propext ⟨fun h => ⟨h.1.symm, h.2.symm⟩, fun h => ⟨h.1.symm, h.2.symm⟩⟩
  simp only [e]
  repeat' split
  all_goals first | rfl | omega
theorem famB_afi_iff {a b : Int} {f : Int} (hf : fam5 f) : (((afi f).1 : Int) = a ∧ ((afi f).2 : Int) = b) ↔ famB a b = f := by
  constructor
  · rintro ⟨rfl, rfl⟩; exact famB_afi hf
  · intro h
    rw [famB_cases] at h
    repeat' split at h
    all_goals first
      | (rename_i hc; subst h; obtain ⟨rfl, rfl⟩ := hc; exact ⟨rfl, rfl⟩)
      | (subst h; exact absurd hf (by unfold fam5; omega))
theorem rFam_ct {h : H} {a b : Int} : Pure Try.prog 113 [.int .u16 a, .int .u8 b] h (.int .i64 (famB a b)) := by
  refine pure_to Try.func113 S.Href08_Fam_code S.Href08_Fam_enter rfl (Nat.le_of_ble_eq_true rfl) fun wf => ?_; simp only [S.Href08_Fam]
  simp
  refine loop_up (fun i t h' => (t 0 = .int .u16 a ∧ t 1 = .int .u8 b ∧ t 5 = .int .i64 ((i + 1 : Nat) : Int)) ∧ h = h' ∧ ∀ f : Int, 1 ≤ f → f ≤ i → famB a b ≠ f) 5 ⟨by simp, rfl, fun f h1 h2 => by omega⟩ ?_
  rintro i t _ hi ⟨⟨t0, t1, t5⟩, rfl, hno⟩ K hK
  have bd := famB_bd a b
  obtain ⟨f, hf⟩ : ∃ f : Int, f = ((i + 1 : Nat) : Int) := ⟨_, rfl⟩
  rw [← hf] at t5
  by_cases hlt : i < 5
  · have hle : f ≤ 5 := by omega
    have h5 : fam5 f := by unfold fam5; omega
    have hw : IntKind.i64.wrap (f + 1) = ((i + 1 + 1 : Nat) : Int) := by rw [wrap_i64_id (by omega) (by omega)]; omega
    simp [t5, hle]
    refine rafi_ct h5 _ ?_
    simp [t0]
    have key := famB_afi_iff (a := a) (b := b) h5
    cases e1 : (((afi f).1 : Int) == a) with
    | false =>
      simp [t5, hw]
      refine hK _ _ hlt ⟨by simp [t0, t1], rfl, fun g g1 g2 e => ?_⟩
      by_cases hg : g = f
      · subst hg
        have := (key.2 e).1
        simp [this] at e1
      · exact hno g g1 (by omega) e
    | true =>
      simp [t1]
      cases e2 : (((afi f).2 : Int) == b) with
      | false =>
        simp [t5, hw]
        refine hK _ _ hlt ⟨by simp [t0, t1], rfl, fun g g1 g2 e => ?_⟩
        by_cases hg : g = f
        · subst hg
          have := (key.2 e).2
          simp [this] at e2
        · exact hno g g1 (by omega) e
      | true =>
        simp only [beq_iff_eq] at e1 e2
        have := key.1 ⟨e1, e2⟩
        simp [t5, this]
  · have hgt : ¬ f ≤ 5 := by omega
    have hz : famB a b = 0 := by
      by_cases h0 : famB a b = 0
      · exact h0
      · exact absurd rfl (hno (famB a b) (by omega) (by omega))
    simp [t5, hgt, hz]
theorem rfamOf_ct {h : H} {l : List UInt8} (hl : l.length = 3) : Pure Try.prog 96 [.str l] h (.int .i64 (fam3 l)) := by
  refine pure_to Try.func96 S.Href10_famOf_code S.Href10_famOf_enter rfl (Nat.le_of_ble_eq_true rfl) fun wf => ?_; simp only [S.Href10_famOf]
  obtain ⟨x, y, z, rfl⟩ : ∃ x y z, l = [x, y, z] := by
    match l, hl with
    | [x, y, z], _ => exact ⟨x, y, z, rfl⟩
  have w1 := u16_id (val_lt2 (l := [x, y]) (by simp))
  have hz : (z.toNat : Int) = (val [z] : Nat) := by simp [val]
  simp
  refine dreg_quiet wf ?_
  simp
  refine qcall_of (v := .int .i64 (val [x, y] : Nat)) rfl (fun h2 g => rvalue_ct (by simp)) ?_
  simp [w1]
  refine qcall_of (v := .int .i64 (fam3 [x, y, z])) rfl (fun h2 g => ?_) ?_
  · simp
    rw [hz]
    exact rFam_ct
  · simp
/-- A family at its place: a fresh list. -/
theorem rwith_ct {h : H} {v : V} {l : List Int} {f : Int} (hs : Ints h.get v l) {Q : V → H → Prop} (q : ∀ v' h2, Ge h h2 → h2.WF → Gl h2 h.next 1 v' ((withB l f).map fun x => [.int .i64 x]) → Q v' h2) : Acalls Try.prog 97 [v, .int .i64 f] h Q := by
  refine acalls_to Try.func97 S.Href10_with_code S.Href10_with_enter (Nat.le_of_ble_eq_true rfl) fun wf => ?_; simp only [S.Href10_with]
  have hbd := hs.bound
  have hln := hs.lenG wf (n := l.length) (by simp)
  simp
  refine loop_up (fun i t h' => ∃ w : V, (t 0 = v ∧ t 1 = .int .i64 f ∧ t 5 = w ∧ t 6 = .int .i64 ((i + 1 : Nat) : Int)) ∧ Ge h h' ∧ h'.WF ∧ Gl h' h.next 1 w (((fr i).filter fun x => x == f || l.contains x).map fun x => [.int .i64 x])) 5 ⟨.nilsl, by simp, Ge.refl _, wf, Gl.nil _ _ _⟩ ?_
  rintro i t h1 hi ⟨w, ⟨t0, t1, t5, t6⟩, g1, w1, gw⟩ K hK
  obtain ⟨fi, hfi⟩ : ∃ fi : Int, fi = ((i + 1 : Nat) : Int) := ⟨_, rfl⟩
  rw [← hfi] at t6
  have wone := gw.one
  by_cases hlt : i < 5
  · have hle : fi ≤ 5 := by omega
    have hw : IntKind.i64.wrap (fi + 1) = ((i + 1 + 1 : Nat) : Int) := by rw [wrap_i64_id (by omega) (by omega)]; omega
    simp [t1, t6, hle]
    refine loop_up (fun j t h' => (t 0 = v ∧ t 1 = .int .i64 f ∧ t 5 = w ∧ t 6 = .int .i64 fi ∧ t 7 = .bool (fi == f || decide (fi ∈ l.take j)) ∧ t 8 = .int .i64 j) ∧ h1 = h') l.length ⟨by simp [t0, t1, t5, t6], rfl⟩ ?_
    clear t0 t1 t5 t6
    rintro j t _ hj ⟨⟨t0, t1, t5, t6, t7, t8⟩, rfl⟩ K2 hK2
    by_cases hjl : j < l.length
    · obtain ⟨p, qq, o, cs, e1, _, e2, e3⟩ := hs.at1G wf hjl
      have hwj := wrap_succ hjl (by simpa using hbd)
      have htk : decide (fi ∈ l.take (j + 1)) = (decide (fi ∈ l.take j) || (l[j] == fi)) := by
        have mem : fi ∈ l.take (j + 1) ↔ fi ∈ l.take j ∨ fi = l[j] := by rw [← List.take_append_getElem hjl, List.mem_append, List.mem_singleton]
        rw [decide_eq_decide.2 mem, Bool.decide_or]
        congr 1
        rw [Bool.eq_iff_iff, decide_eq_true_iff, beq_iff_eq]
        exact eq_comm
      have htk' : (fi == f || decide (fi ∈ l.take (j + 1))) = ((fi == f || decide (fi ∈ l.take j)) || (l[j] == fi)) := by rw [htk, Bool.or_assoc]
      simp [t0, t7, t8, hln _ g1, hjl]
      cases hb : (fi == f || decide (fi ∈ l.take j)) with
      | true =>
        simp [t8, hwj]
        refine hK2 _ _ hjl ⟨by rw [htk', hb]; simp [t0, t1, t5, t6], rfl⟩
      | false =>
        simp [t0, t6, t8, e1, e2 _ g1, e3, hwj]
        refine hK2 _ _ hjl ⟨by rw [htk', hb]; simp [t0, t1, t5, t6], rfl⟩
    · have htk : l.take j = l := List.take_of_length_le (by omega)
      rw [htk] at t7
      simp [t0, t7, t8, hln _ g1, hjl]
      have hfr : (fr (i + 1)).filter (fun x => x == f || l.contains x) = if (fi == f || l.contains fi) = true then (fr i).filter (fun x => x == f || l.contains x) ++ [fi] else (fr i).filter fun x => x == f || l.contains x := by
        rw [fr_succ, ← hfi, List.filter_append, List.filter_cons]
        split <;> simp
      refine cond_split ?_ ?_
      · intro e
        obtain ⟨h3, hh3⟩ : ∃ h3, h3 = h1.push (.row [.int .i64 fi]) := ⟨_, rfl⟩
        have n3 : h3.next = h1.next + 1 := by rw [hh3]; rfl
        have g3 : Ge h1 h3 := by rw [hh3]; simp
        have w3 : h3.WF := by rw [hh3]; exact w1.push _
        have n1 := g1.1
        have lfr : ((fr i).filter fun x => x == f || l.contains x).length ≤ 5 := Nat.le_trans (List.length_filter_le _ _) (by simp [fr]; omega)
        have gw3 := gw.keep (h' := h3) (by omega) (fun j hj => by rw [g3.2 j (gw.lo j hj).2])
        obtain ⟨v', d, ea, gl', nn, kk, wk⟩ := gw3.append (bytes := 8) (x := .sl h1.next 1 0 1 (some 1)) (e := [.int .i64 fi]) (by omega) (fun a ha => by obtain ⟨x, _, rfl⟩ := List.mem_map.1 ha; rfl) rfl (by rw [hh3]; simp [elemsV_sl]) (by simp) (by omega) (by rw [List.length_map]; omega) (by rw [List.length_map]; omega)
        rw [n3] at ea
        simp [t5, t6]
        rw [← hh3, ea]
        simp [t6, hw]
        refine hK _ _ hlt ⟨v', by simp [t0, t1], ⟨by omega, fun k hk => ?_⟩, wk w3, ?_⟩
        · rw [kk k (fun hm => by have := (gw3.lo k hm).1; omega) (by omega), g3.2 k (by omega), g1.2 k hk]
        · rw [hfr, if_pos (by simpa using e), List.map_append]
          exact gl'
      · intro e
        simp [t6, hw]
        refine hK _ _ hlt ⟨w, by simp [t0, t1, t5], g1, w1, ?_⟩
        rw [hfr, if_neg (by simpa using e)]
        exact gw
  · have h5 : i = 5 := by omega
    subst h5
    have hgt : ¬ fi ≤ 5 := by omega
    simp [t5, t6, hgt]
    exact q w h1 g1 w1 gw
end Go.Am

/-
  Contracts of the reference: kept, adds.
-/
namespace Go.Am
open Go.Proofs

set_option maxRecDepth 100000
def arrAt (w : Nat → Option Nat) (es : List (Int × Nat)) (i : Nat) : Nat := (arrB w es).getD i 0
theorem arrAt_snoc {w : Nat → Option Nat} {es : List (Int × Nat)} {g : Int} {b i : Nat} (hg : 1 ≤ g ∧ g ≤ 5) : arrAt w (es ++ [(g, b)]) i = if g.toNat = i then (match w b with | some v => v | none => arrAt w es i) else arrAt w es i := by
  have hl := arr_len w es
  have e : arrB w (es ++ [(g, b)]) = (match w b with | some v => (arrB w es).set g.toNat v | none => arrB w es) := by
    unfold arrB; rw [List.foldl_append]; rfl
  unfold arrAt
  rw [e]
  cases w b with
  | none => simp
  | some v =>
    simp only
    split
    · rename_i h; subst h
      rw [List.getD_eq_getElem?_getD, List.getElem?_set_self (by omega)]; rfl
    · rename_i h
      rw [List.getD_eq_getElem?_getD, List.getElem?_set_ne h, ← List.getD_eq_getElem?_getD]
theorem and_128 : ∀ n : Nat, n < 256 → n &&& 128 = if 128 ≤ n then 128 else 0 := by decide +kernel
theorem u8_and {n : Nat} (h : n < 256) : intV .and .u8 (n : Int) 128 = some (.int .u8 (if 128 ≤ n then 128 else 0)) := by
  show some (V.int .u8 (IntKind.u8.wrap ((BitVec.ofInt 8 (n : Int) &&& BitVec.ofInt 8 128).toNat : Int))) = _
  have h1 : (BitVec.ofInt 8 (n : Int)).toNat = n := by simp; omega
  have h2 : (BitVec.ofInt 8 128).toNat = 128 := by decide
  rw [BitVec.toNat_and, h1, h2, and_128 n h]
  split
  · rw [u8_id (by omega)]; rfl
  · rw [u8_id (by omega)]; rfl
theorem drop4 {s : List UInt8} {i : Nat} (h4 : s.length % 4 = 0) (hi : i % 4 = 0) (hlt : i < s.length) : ∃ a b c d l, s.drop i = a :: b :: c :: d :: l ∧ (s.take (i + 3)).drop i = [a, b, c] ∧ s[i + 3]? = some d ∧ s.drop (i + 4) = l ∧ i + 4 ≤ s.length := by
  have hl : (s.drop i).length = s.length - i := List.length_drop ..
  obtain ⟨r, hr⟩ : ∃ r, r = s.drop i := ⟨_, rfl⟩
  rw [← hr] at hl
  match r, hl, hr with
  | a :: b :: c :: d :: l, hl, hr =>
    refine ⟨a, b, c, d, l, hr.symm, ?_, ?_, ?_, by simp at hl; omega⟩
    · rw [List.drop_take, show i + 3 - i = 3 by omega, ← hr]; rfl
    · have : (s.drop i)[3]? = s[i + 3]? := List.getElem?_drop ..
      rw [← this, ← hr]; rfl
    · rw [← List.drop_drop, ← hr]; rfl
  | [], hl, _ => simp at hl; omega
  | [_], hl, _ => simp at hl; omega
  | [_, _], hl, _ => simp at hl; omega
  | [_, _, _], hl, _ => simp at hl; omega
theorem ents_step (a b c d : UInt8) (l : List UInt8) (dn : List (Int × Nat)) : dn ++ ents (a :: b :: c :: d :: l) = (if 0 < fam3 [a, b, c] then dn ++ [(fam3 [a, b, c], d.toNat)] else dn) ++ ents l := by
  simp only [ents]
  split <;> simp
theorem rkept_ct {h : H} {s : List UInt8} (h4 : s.length % 4 = 0) (hs : s.length < 256) {Q : V → H → Prop} (q : ∀ v' h2, Ge h h2 → h2.WF → Gl h2 h.next 2 v' ((keptOf (arrB w64 (ents s)) 6).map restC) → Q v' h2) : Acalls Try.prog 98 [.str s] h Q := by
  refine acalls_to Try.func98 S.Href10_kept_code S.Href10_kept_enter (Nat.le_of_ble_eq_true rfl) fun wf => ?_; simp only [S.Href10_kept]
  obtain ⟨ks, hks⟩ : ∃ ks, ks = arrB w64 (ents s) := ⟨_, rfl⟩
  rw [← hks] at q
  have k0 : ks.getD 0 0 = 0 := by rw [hks]; exact arr0 w64 (ents s) _ (fun x hx => (ents_lt s x hx).2.1) rfl
  have hinit : keptOf ks (0 + 1) = [] := by rw [keptOf_succ, k0]; rfl
  simp
  refine loop_up (fun i t h' => ∃ w : V, (t 0 = .str s ∧ t 3 = w ∧ t 4 = .int .i64 ((i + 1 : Nat) : Int)) ∧ Ge h h' ∧ h'.WF ∧ Gl h' h.next 2 w ((keptOf ks (i + 1)).map restC)) 5 ⟨.nilsl, by simp, Ge.refl _, wf, by rw [hinit]; exact Gl.nil _ _ _⟩ ?_
  rintro i t h1 hi ⟨w, ⟨t0, t3, t4⟩, g1, w1, gw⟩ K hK
  obtain ⟨fi, hfi⟩ : ∃ fi : Int, fi = ((i + 1 : Nat) : Int) := ⟨_, rfl⟩
  rw [← hfi] at t4
  have wone := gw.one
  have lk := keptOf_len ks (i + 1)
  by_cases hlt : i < 5
  · have hle : fi ≤ 5 := by omega
    have hw : IntKind.i64.wrap (fi + 1) = ((i + 1 + 1 : Nat) : Int) := by rw [wrap_i64_id (by omega) (by omega)]; omega
    have az : arrAt w64 [] (i + 1) = 0 := by
      have : i = 0 ∨ i = 1 ∨ i = 2 ∨ i = 3 ∨ i = 4 := by omega
      rcases this with rfl | rfl | rfl | rfl | rfl <;> rfl
    simp [t4, hle]
    refine loop_up (fun j t h' => ∃ dn, dn ++ ents (s.drop (4 * j)) = ents s ∧ (t 0 = .str s ∧ t 3 = w ∧ t 4 = .int .i64 fi ∧ t 5 = .bool (decide (0 < arrAt w64 dn (i + 1))) ∧ t 6 = .bool (arrAt w64 dn (i + 1) == 2) ∧ t 7 = .int .i64 ((4 * j : Nat) : Int)) ∧ h1 = h') (s.length / 4) ⟨[], by simp, by simp [t0, t3, t4, az], rfl⟩ ?_
    clear t0 t3 t4
    rintro j t _ hj ⟨dn, hdn, ⟨t0, t3, t4, t5, t6, t7⟩, rfl⟩ K2 hK2
    obtain ⟨x, hx⟩ : ∃ x : Nat, x = 4 * j := ⟨_, rfl⟩
    rw [← hx] at hdn t7
    have w4 : IntKind.i64.wrap ((x : Int) + 4) = (x : Int) + 4 := wrap_i64_id (by omega) (by omega)
    have w3 : IntKind.i64.wrap ((x : Int) + 3) = (x : Int) + 3 := wrap_i64_id (by omega) (by omega)
    have c0 : 0 ≤ (x : Int) + 3 := by omega
    have tn : ((x : Int) + 3).toNat = x + 3 := by omega
    have x4 : ((4 * (j + 1) : Nat) : Int) = (x : Int) + 4 := by omega
    by_cases hjl : x < s.length
    · obtain ⟨a, b, c, d, l, e1, e2, e3, e4, e5⟩ := drop4 (i := x) h4 (by omega) hjl
      have hdl : d.toNat < 256 := d.toNat_lt
      rw [e1, ents_step] at hdn
      have e4' : s.drop (4 * (j + 1)) = l := by rw [show 4 * (j + 1) = x + 4 by omega, e4]
      rw [← e4'] at hdn
      have bd := famB_bd (val ([a, b, c].take 2)) (val (([a, b, c].drop 2).take 1))
      have hf3 : 0 ≤ fam3 [a, b, c] ∧ fam3 [a, b, c] ≤ 5 := bd
      have c4 : (x : Int) + 4 ≤ (s.length : Int) := by omega
      have c3 : x + 3 ≤ s.length := by omega
      have c5 : (x : Int) + 3 ≤ (s.length : Int) := by omega
      have c6 : (x : Int) + 3 < (s.length : Int) := by omega
      have c3' : x + 3 < s.length := by omega
      have cx : x ≤ x + 3 := by omega
      have ed : s[x + 3]'c3' = d := by
        have := e3
        rw [List.getElem?_eq_getElem c3'] at this
        exact Option.some.inj this
      simp [t0, t7, w3, w4, c4, c0, c5, tn, cx, e2]
      refine rfamOf_ct (l := [a, b, c]) rfl _ ?_
      have hst : ∀ g : Int, fam3 [a, b, c] = g → 0 < g → arrAt w64 (dn ++ [(g, d.toNat)]) (i + 1) = if g = fi then 1 + d.toNat / 128 else arrAt w64 dn (i + 1) := fun g hg hg0 => by
        rw [arrAt_snoc (by omega)]
        by_cases hgf : g = fi
        · rw [if_pos (by omega), if_pos hgf]; rfl
        · rw [if_neg (by omega), if_neg hgf]
      simp [t4]
      cases hc : (fam3 [a, b, c] == fi) with
      | true =>
        simp only [beq_iff_eq] at hc
        have hs1 := hst fi hc (by omega)
        rw [if_pos rfl] at hs1
        rw [hc, if_pos (by omega)] at hdn
        simp [t0, t7, w3, w4, c0, tn, c3', ed, u8_and hdl]
        refine hK2 _ _ (by omega) ⟨_, hdn, ?_, rfl⟩
        rw [hs1, x4]
        simp [t0, t3, t4]
        refine ⟨by omega, ?_⟩
        by_cases hd : 128 ≤ d.toNat
        · have : d.toNat / 128 = 1 := by omega
          rw [if_pos hd, this]; rfl
        · have : d.toNat / 128 = 0 := by omega
          rw [if_neg hd, this]; rfl
      | false =>
        have hne : fam3 [a, b, c] ≠ fi := by simpa using hc
        simp [t7, w4]
        refine hK2 _ _ (by omega) ⟨_, hdn, ?_, rfl⟩
        have : arrAt w64 (if 0 < fam3 [a, b, c] then dn ++ [(fam3 [a, b, c], d.toNat)] else dn) (i + 1) = arrAt w64 dn (i + 1) := by
          split
          · rename_i h0
            rw [hst _ rfl h0, if_neg hne]
          · rfl
        rw [this, x4]
        simp [t0, t3, t4, t5, t6]
    · have hdr : s.drop x = [] := List.drop_of_length_le (by omega)
      rw [hdr, show ents [] = [] by simp [ents], List.append_nil] at hdn
      subst hdn
      have c4 : ¬ (x : Int) + 4 ≤ (s.length : Int) := by omega
      have hkk : arrAt w64 (ents s) (i + 1) = ks.getD (i + 1) 0 := by rw [hks]; rfl
      rw [hkk] at t5 t6
      obtain ⟨kn, hkn⟩ : ∃ kn, kn = ks.getD (i + 1) 0 := ⟨_, rfl⟩
      rw [← hkn] at t5 t6
      have hks1 := keptOf_succ ks (i + 1)
      rw [← hkn] at hks1
      simp [t0, t5, t7, w4, c4]
      refine cond_split ?_ ?_
      · intro e
        have e' : 0 < kn := by simpa using e
        rw [if_pos e'] at hks1
        obtain ⟨h3, hh3⟩ : ∃ h3, h3 = h1.push (.row [.int .i64 fi, .bool (kn == 2)]) := ⟨_, rfl⟩
        have n3 : h3.next = h1.next + 1 := by rw [hh3]; rfl
        have g3 : Ge h1 h3 := by rw [hh3]; simp
        have w3' : h3.WF := by rw [hh3]; exact w1.push _
        have n1 := g1.1
        have gw3 := gw.keep (h' := h3) (by omega) (fun j hj => by rw [g3.2 j (gw.lo j hj).2])
        obtain ⟨v', dd, ea, gl', nn, kk, wk⟩ := gw3.append (bytes := 16) (x := .sl h1.next 2 0 1 (some 1)) (e := restC ⟨fi, kn == 2⟩) (by omega) (fun a ha => by obtain ⟨x, _, rfl⟩ := List.mem_map.1 ha; rfl) rfl (by rw [hh3]; simp [elemsV_sl]) (by simp) (by omega) (by rw [List.length_map]; omega) (by rw [List.length_map]; omega)
        rw [n3] at ea
        simp [t3, t4, t6]
        rw [← hh3, ea]
        simp [t4, hw]
        refine hK _ _ hlt ⟨v', by simp [t0], ⟨by omega, fun k hk => ?_⟩, wk w3', ?_⟩
        · rw [kk k (fun hm => by have := (gw3.lo k hm).1; omega) (by omega), g3.2 k (by omega), g1.2 k hk]
        · rw [hks1, List.map_append, ← hfi]
          exact gl'
      · intro e
        have e' : ¬ 0 < kn := by simp at e; omega
        rw [if_neg e'] at hks1
        simp [t4, hw]
        refine hK _ _ hlt ⟨w, by simp [t0, t3], g1, w1, ?_⟩
        rw [hks1]
        exact gw
  · have h5 : i = 5 := by omega
    subst h5
    have hgt : ¬ fi ≤ 5 := by omega
    simp [t3, t4, hgt]
    exact q w h1 g1 w1 gw
theorem radds_ct {h : H} {s : List UInt8} (h4 : s.length % 4 = 0) (hs : s.length < 256) {Q : V → H → Prop} (q : ∀ v' h2, Ge h h2 → h2.WF → Gl h2 h.next 3 v' ((addsOf (arrB w69 (ents s)) 6).map addC) → Q v' h2) : Acalls Try.prog 99 [.str s] h Q := by
  refine acalls_to Try.func99 S.Href10_adds_code S.Href10_adds_enter (Nat.le_of_ble_eq_true rfl) fun wf => ?_; simp only [S.Href10_adds]
  obtain ⟨ks, hks⟩ : ∃ ks, ks = arrB w69 (ents s) := ⟨_, rfl⟩
  rw [← hks] at q
  have k0 : ks.getD 0 0 = 0 := by rw [hks]; exact arr0 w69 (ents s) _ (fun x hx => (ents_lt s x hx).2.1) rfl
  have hinit : addsOf ks (0 + 1) = [] := by rw [addsOf_succ, k0]; rfl
  simp
  refine loop_up (fun i t h' => ∃ w : V, (t 0 = .str s ∧ t 3 = w ∧ t 4 = .int .i64 ((i + 1 : Nat) : Int)) ∧ Ge h h' ∧ h'.WF ∧ Gl h' h.next 3 w ((addsOf ks (i + 1)).map addC)) 5 ⟨.nilsl, by simp, Ge.refl _, wf, by rw [hinit]; exact Gl.nil _ _ _⟩ ?_
  rintro i t h1 hi ⟨w, ⟨t0, t3, t4⟩, g1, w1, gw⟩ K hK
  obtain ⟨fi, hfi⟩ : ∃ fi : Int, fi = ((i + 1 : Nat) : Int) := ⟨_, rfl⟩
  rw [← hfi] at t4
  have wone := gw.one
  have lk := addsOf_len ks (i + 1)
  by_cases hlt : i < 5
  · have hle : fi ≤ 5 := by omega
    have hw : IntKind.i64.wrap (fi + 1) = ((i + 1 + 1 : Nat) : Int) := by rw [wrap_i64_id (by omega) (by omega)]; omega
    have az : arrAt w69 [] (i + 1) = 0 := by
      have : i = 0 ∨ i = 1 ∨ i = 2 ∨ i = 3 ∨ i = 4 := by omega
      rcases this with rfl | rfl | rfl | rfl | rfl <;> rfl
    simp [t4, hle]
    refine loop_up (fun j t h' => ∃ dn, dn ++ ents (s.drop (4 * j)) = ents s ∧ (t 0 = .str s ∧ t 3 = w ∧ t 4 = .int .i64 fi ∧ t 5 = .int .u8 (arrAt w69 dn (i + 1) : Nat) ∧ t 6 = .int .i64 ((4 * j : Nat) : Int)) ∧ h1 = h') (s.length / 4) ⟨[], by simp, by simp [t0, t3, t4, az], rfl⟩ ?_
    clear t0 t3 t4
    rintro j t _ hj ⟨dn, hdn, ⟨t0, t3, t4, t5, t6⟩, rfl⟩ K2 hK2
    obtain ⟨x, hx⟩ : ∃ x : Nat, x = 4 * j := ⟨_, rfl⟩
    rw [← hx] at hdn t6
    have w4 : IntKind.i64.wrap ((x : Int) + 4) = (x : Int) + 4 := wrap_i64_id (by omega) (by omega)
    have w3 : IntKind.i64.wrap ((x : Int) + 3) = (x : Int) + 3 := wrap_i64_id (by omega) (by omega)
    have c0 : 0 ≤ (x : Int) + 3 := by omega
    have tn : ((x : Int) + 3).toNat = x + 3 := by omega
    have x4 : ((4 * (j + 1) : Nat) : Int) = (x : Int) + 4 := by omega
    by_cases hjl : x < s.length
    · obtain ⟨a, b, c, d, l, e1, e2, e3, e4, e5⟩ := drop4 (i := x) h4 (by omega) hjl
      have hdl : d.toNat < 256 := d.toNat_lt
      rw [e1, ents_step] at hdn
      have e4' : s.drop (4 * (j + 1)) = l := by rw [show 4 * (j + 1) = x + 4 by omega, e4]
      rw [← e4'] at hdn
      have bd := famB_bd (val ([a, b, c].take 2)) (val (([a, b, c].drop 2).take 1))
      have hf3 : 0 ≤ fam3 [a, b, c] ∧ fam3 [a, b, c] ≤ 5 := bd
      have c4 : (x : Int) + 4 ≤ (s.length : Int) := by omega
      have c3 : x + 3 ≤ s.length := by omega
      have c5 : (x : Int) + 3 ≤ (s.length : Int) := by omega
      have c6 : (x : Int) + 3 < (s.length : Int) := by omega
      have c3' : x + 3 < s.length := by omega
      have cx : x ≤ x + 3 := by omega
      have ed : s[x + 3]'c3' = d := by
        have := e3
        rw [List.getElem?_eq_getElem c3'] at this
        exact Option.some.inj this
      simp [t0, t6, w3, w4, c4, c0, c5, tn, cx, e2]
      refine rfamOf_ct (l := [a, b, c]) rfl _ ?_
      have hst : ∀ g : Int, fam3 [a, b, c] = g → 0 < g → arrAt w69 (dn ++ [(g, d.toNat)]) (i + 1) = if g = fi ∧ 1 ≤ d.toNat ∧ d.toNat ≤ 3 then d.toNat else arrAt w69 dn (i + 1) := fun g hg hg0 => by
        rw [arrAt_snoc (by omega)]
        by_cases hgf : g = fi
        · rw [if_pos (by omega)]
          unfold w69
          by_cases hd : 1 ≤ d.toNat ∧ d.toNat ≤ 3
          · rw [if_pos hd, if_pos ⟨hgf, hd⟩]
          · rw [if_neg hd, if_neg (fun h => hd h.2)]
        · rw [if_neg (by omega), if_neg (fun h => hgf h.1)]
      have hkeep : ∀ n : Nat, ¬ (fam3 [a, b, c] = fi ∧ 1 ≤ d.toNat ∧ d.toNat ≤ 3) → arrAt w69 (if 0 < fam3 [a, b, c] then dn ++ [(fam3 [a, b, c], d.toNat)] else dn) (i + 1) = arrAt w69 dn (i + 1) := fun _ hn => by
        split
        · rename_i h0
          rw [hst _ rfl h0, if_neg hn]
        · rfl
      simp [t4]
      cases hc : (fam3 [a, b, c] == fi) with
      | true =>
        simp only [beq_iff_eq] at hc
        simp [t0, t6, w3, c0, tn, c3', ed]
        by_cases d1 : 1 ≤ d.toNat
        · have d1' : (1 : Int) ≤ d.toNat := by omega
          simp [d1', t0, t6, w3, c0, tn, c3', ed]
          by_cases d3 : d.toNat ≤ 3
          · have d3' : (d.toNat : Int) ≤ 3 := by omega
            have hs1 := hst fi hc (by omega)
            rw [if_pos ⟨rfl, d1, d3⟩] at hs1
            rw [hc, if_pos (by omega)] at hdn
            simp [d3', t0, t6, w3, w4, c0, tn, c3', ed]
            refine hK2 _ _ (by omega) ⟨_, hdn, ?_, rfl⟩
            rw [hs1, x4]
            simp [t0, t3, t4]
          · have d3' : ¬ (d.toNat : Int) ≤ 3 := by omega
            have := hkeep 0 (fun h => d3 h.2.2)
            simp [d3', t6, w4]
            refine hK2 _ _ (by omega) ⟨_, hdn, ?_, rfl⟩
            rw [this, x4]
            simp [t0, t3, t4, t5]
        · have d1' : ¬ (1 : Int) ≤ d.toNat := by omega
          have := hkeep 0 (fun h => d1 h.2.1)
          simp [d1', t6, w4]
          refine hK2 _ _ (by omega) ⟨_, hdn, ?_, rfl⟩
          rw [this, x4]
          simp [t0, t3, t4, t5]
      | false =>
        have hne : fam3 [a, b, c] ≠ fi := by simpa using hc
        have := hkeep 0 (fun h => hne h.1)
        simp [t6, w4]
        refine hK2 _ _ (by omega) ⟨_, hdn, ?_, rfl⟩
        rw [this, x4]
        simp [t0, t3, t4, t5]
    · have hdr : s.drop x = [] := List.drop_of_length_le (by omega)
      rw [hdr, show ents [] = [] by simp [ents], List.append_nil] at hdn
      subst hdn
      have c4 : ¬ (x : Int) + 4 ≤ (s.length : Int) := by omega
      have hkk : arrAt w69 (ents s) (i + 1) = ks.getD (i + 1) 0 := by rw [hks]; rfl
      rw [hkk] at t5
      obtain ⟨kn, hkn⟩ : ∃ kn, kn = ks.getD (i + 1) 0 := ⟨_, rfl⟩
      rw [← hkn] at t5
      have hks1 := addsOf_succ ks (i + 1)
      rw [← hkn] at hks1
      simp [t0, t5, t6, w4, c4]
      refine cond_split ?_ ?_
      · intro e
        have e' : 0 < kn := by simp at e; omega
        rw [if_pos e'] at hks1
        have hk3 : kn ≤ 3 := by rw [hkn, hks]; exact arr69_le s (i + 1)
        have kcs : kn = 1 ∨ kn = 2 ∨ kn = 3 := by omega
        obtain ⟨b2, hb2⟩ : ∃ b, b = (kn &&& 2 != 0) := ⟨_, rfl⟩
        obtain ⟨b1, hb1⟩ : ∃ b, b = (kn &&& 1 != 0) := ⟨_, rfl⟩
        have hk2 : decide ((2 : Int) ≤ (kn : Int)) = b2 := by rw [hb2]; rcases kcs with e | e | e <;> rw [e] <;> rfl
        have hk1 : ((kn : Int) != 2) = b1 := by rw [hb1]; rcases kcs with e | e | e <;> rw [e] <;> rfl
        rw [← hb2, ← hb1] at hks1
        obtain ⟨h3, hh3⟩ : ∃ h3, h3 = h1.push (.row [.int .i64 fi, .bool b2, .bool b1]) := ⟨_, rfl⟩
        have n3 : h3.next = h1.next + 1 := by rw [hh3]; rfl
        have g3 : Ge h1 h3 := by rw [hh3]; simp
        have w3' : h3.WF := by rw [hh3]; exact w1.push _
        have n1 := g1.1
        have gw3 := gw.keep (h' := h3) (by omega) (fun j hj => by rw [g3.2 j (gw.lo j hj).2])
        obtain ⟨v', dd, ea, gl', nn, kk, wk⟩ := gw3.append (bytes := 16) (x := .sl h1.next 3 0 1 (some 1)) (e := addC ⟨fi, b2, b1⟩) (by omega) (fun a ha => by obtain ⟨x, _, rfl⟩ := List.mem_map.1 ha; rfl) rfl (by rw [hh3]; simp [elemsV_sl]) (by simp) (by omega) (by rw [List.length_map]; omega) (by rw [List.length_map]; omega)
        rw [n3] at ea
        simp [t3, t4, t5, hk2, hk1]
        rw [← hh3, ea]
        simp [t4, hw]
        refine hK _ _ hlt ⟨v', by simp [t0], ⟨by omega, fun k hk => ?_⟩, wk w3', ?_⟩
        · rw [kk k (fun hm => by have := (gw3.lo k hm).1; omega) (by omega), g3.2 k (by omega), g1.2 k hk]
        · rw [hks1, List.map_append, ← hfi]
          exact gl'
      · intro e
        have e' : ¬ 0 < kn := by simp at e; omega
        rw [if_neg e'] at hks1
        simp [t4, hw]
        refine hK _ _ hlt ⟨w, by simp [t0, t3], g1, w1, ?_⟩
        rw [hks1]
        exact gw
  · have h5 : i = 5 := by omega
    subst h5
    have hgt : ¬ fi ≤ 5 := by omega
    simp [t3, t4, hgt]
    exact q w h1 g1 w1 gw
end Go.Am

/-
  Contracts of the reference: a capability, put into an open.
-/
namespace Go.Am
open Go.Proofs

set_option maxRecDepth 100000
def oneS (o : Opn) (code : Nat) (s : List UInt8) : Option Opn :=
  if code = 1 then
    if s.length = 4 then some (if 0 < fam3 (s.take 2 ++ s.drop 3) then { o with fams := withB o.fams (fam3 (s.take 2 ++ s.drop 3)) } else o) else none
  else if code = 2 then some { o with refresh := true }
  else if code = 64 then
    if s.length < 2 ∨ s.length % 4 ≠ 2 then none
    else some { o with hasgr := true, again := decide (32768 ≤ val (s.take 2)), time := ((val (s.take 2) % 4096 : Nat) : Int), kept := keptOf (arrB w64 (ents (s.drop 2))) 6 }
  else if code = 65 then
    if s.length = 4 then some { o with four := true, asn := (val s : Nat) } else none
  else if code = 69 then
    if s.length % 4 = 0 then some { o with adds := addsOf (arrB w69 (ents s)) 6 } else none
  else some o
theorem capS_one' (o : Opn) (code : Nat) (s : List UInt8) : capS o code s = match oneS o code s with | none => .error 0 | some o' => if code = 65 ∧ o'.asn = 0 then .error 2 else .ok o' := by
  unfold capS oneS
  by_cases e1 : code = 1
  · subst e1; simp; split <;> simp
  by_cases e2 : code = 2
  · subst e2; simp
  by_cases e3 : code = 64
  · subst e3; simp; split <;> simp
  by_cases e4 : code = 65
  · subst e4; simp
    split
    · by_cases hv : val s = 0 <;> simp [hv]
    · simp
  by_cases e5 : code = 69
  · subst e5; simp; split <;> simp
  simp [e1, e2, e3, e4, e5]
/-- Which lists a capability makes afresh. -/
def flagF (code : Nat) (s : List UInt8) : Bool := decide (code = 1) && decide (0 < fam3 (s.take 2 ++ s.drop 3))
def oneI (o' : Opn) (f a k : V) (tf ta tk : Bool) : List It := [⟨tf, 1, f, o'.fams.map fun x => [.int .i64 x]⟩, ⟨ta, 3, a, o'.adds.map addC⟩, ⟨tk, 2, k, o'.kept.map restC⟩]
theorem made3 {h1 : H} {lo : Nat} {o' : Opn} {f a k f' a' k' : V} {tf ta tk : Bool} : Made h1 lo (oneI o' f a k tf ta tk) [f', a', k'] ↔ (if tf = true then Gl h1 lo 1 f' (o'.fams.map fun x => [.int .i64 x]) else f' = f) ∧ (if ta = true then Gl h1 lo 3 a' (o'.adds.map addC) else a' = a) ∧ (if tk = true then Gl h1 lo 2 k' (o'.kept.map restC) else k' = k) := by
  constructor
  · rintro ⟨v, vs', e, h1, v2, vs2, e2, h2, v3, vs3, e3, h3, _⟩
    cases e; cases e2; cases e3; exact ⟨h1, h2, h3⟩
  · exact fun h => ⟨f', [a', k'], rfl, h.1, a', [k'], rfl, h.2.1, k', [], rfl, h.2.2, rfl⟩
theorem rone_ct {h : H} {o : Opn} {f a k : V} (of : f.one = true) (oa : a.one = true) (ok : k.one = true) (hsf : Ints h.get f o.fams) {code : Nat} (hcode : code < 256) {s : List UInt8} (hs : s.length < 256) {Q : V → H → Prop}
    (qn : oneS o code s = none → ∀ h2, Ge h h2 → h2.WF → Q (.tup [opnV o f a k, .bool false]) h2)
    (qs : ∀ o', oneS o code s = some o' → ∀ f' a' k' h2, Ge h h2 → h2.WF → Made h2 h.next (oneI o' f a k (flagF code s) (decide (code = 69)) (decide (code = 64))) [f', a', k'] → f'.one = true → a'.one = true → k'.one = true → Q (.tup [opnV o' f' a' k', .bool true]) h2) :
    Acalls Try.prog 87 [opnV o f a k, .int .u8 (code : Nat), .str s] h Q := by
  refine acalls_to Try.func87 S.Href10_one_code S.Href10_one_enter (Nat.le_of_ble_eq_true rfl) fun wf => ?_; simp only [S.Href10_one]
  simp only [opnV]
  simp [of, oa, ok]
  obtain ⟨h1, hh1⟩ : ∃ h1, h1 = (h.push (.row (opnC o f a k))).push (.row [.int .u32 0, .int .i64 0, .int .u32 0, .nilsl, .bool false, .bool false, .nilsl, .bool false, .bool false, .int .i64 0, .nilsl]) := ⟨_, rfl⟩
  have g1 : Ge h h1 := by rw [hh1]; exact ((Ge.refl _).push _).push _
  have w1 : h1.WF := by rw [hh1]; exact (wf.push _).push _
  have n1 : h1.next = h.next + 2 := by rw [hh1]; rfl
  have x3 : h1.get h.next = some (.row (opnC o f a k)) := by rw [hh1]; simp
  have x6 : h1.get (h.next + 1) = some (.row [.int .u32 0, .int .i64 0, .int .u32 0, .nilsl, .bool false, .bool false, .nilsl, .bool false, .bool false, .int .i64 0, .nilsl]) := by rw [hh1]; simp
  have c3 : cellsAt h1.get h.next 11 = some (opnC o f a k) := by rw [cellsAt_of x3 (by simp [opnC])]; rfl
  simp only [opnC] at hh1 x3 c3
  rw [← hh1]
  by_cases e1 : code = 1
  · subst e1
    simp
    cases hL : ((s.length : Int) != 4) with
    | true =>
      have hl : ¬ s.length = 4 := by intro e; simp [e] at hL
      simp [c3, x6, of, oa, ok]
      exact qn (by simp [oneS, hl]) _ (g1.set (by omega) _) (w1.set (by omega) _)
    | false =>
      have hl4 : s.length = 4 := by simp at hL; omega
      obtain ⟨a0, b0, c0, d0, rfl⟩ : ∃ a b c d, s = [a, b, c, d] := by
        match s, hl4 with
        | [a, b, c, d], _ => exact ⟨a, b, c, d, rfl⟩
      obtain ⟨fm, hfm⟩ : ∃ fm, fm = fam3 [a0, b0, d0] := ⟨_, rfl⟩
      have hone : oneS o 1 [a0, b0, c0, d0] = some (if 0 < fm then { o with fams := withB o.fams fm } else o) := by rw [hfm]; rfl
      have hfl : flagF 1 [a0, b0, c0, d0] = decide (0 < fm) := by rw [hfm]; rfl
      simp
      refine dreg_quiet w1 ?_
      simp
      refine qcall_of (v := .int .i64 fm) rfl (fun h2 g => by rw [hfm]; exact rfamOf_ct rfl) ?_
      simp
      by_cases hf : 0 < fm
      · rw [if_pos hf] at hone
        simp [hf, c3]
        refine rwith_ct (hsf.ge wf g1) fun v' h2 g2 w2 gl => ?_
        have y3 := (g2.2 _ (by omega)).trans x3
        have y6 := (g2.2 _ (by omega)).trans x6
        have vo := gl.one
        have n2 := g2.1
        simp [y3, y6, vo, cells_of_one vo, solid_of_one vo, oa, ok]
        refine qs _ hone v' a k _ (((g1.trans g2).set (Nat.le_refl _) _).set (by omega) _) ((w2.set (by omega) _).set (by simp; omega) _) (made3.2 ?_) vo oa ok
        rw [hfl, decide_eq_true hf]
        refine ⟨?_, by simp, by simp⟩
        rw [if_pos rfl]
        exact (gl.keep (by simp) (fun j hj => by have := gl.lo j hj; rw [H.get_set, if_neg (by omega), H.get_set, if_neg (by omega)])).lower (by omega)
      · rw [if_neg hf] at hone
        simp [hf, c3, x6, of, oa, ok]
        refine qs o hone f a k _ (g1.set (by omega) _) (w1.set (by omega) _) (made3.2 ?_) of oa ok
        rw [hfl, decide_eq_false hf]
        simp
  have hf1 : flagF code s = false := by simp [flagF, e1]
  have rem4 : ∀ z : Int, 0 ≤ z → intV .rem .i64 z 4 = some (.int .i64 (z % 4)) := fun z hz => by
    show (if (4 : Int) = 0 then none else some (V.int .i64 (z.tmod 4))) = _
    rw [if_neg (by decide), Int.tmod_eq_emod_of_nonneg hz]
  have rem40 : ∀ z : Int, 0 ≤ z → intV .rem .i64 z 4096 = some (.int .i64 (z % 4096)) := fun z hz => by
    show (if (4096 : Int) = 0 then none else some (V.int .i64 (z.tmod 4096))) = _
    rw [if_neg (by decide), Int.tmod_eq_emod_of_nonneg hz]
  -- what is left of the walk: the open's box, the result's cell
  have nofr : ∀ (o' : Opn) (h2 : H), oneS o code s = some o' → Ge h h2 → h2.WF → code ≠ 69 → code ≠ 64 → Q (.tup [opnV o' f a k, .bool true]) h2 := fun o' h2 he g w n1 n2 =>
    qs o' he f a k h2 g w (made3.2 (by rw [hf1, decide_eq_false n1, decide_eq_false n2]; simp)) of oa ok
  by_cases e2 : code = 2
  · subst e2
    have := nofr { o with refresh := true } ((h1.set h.next (.row (opnC { o with refresh := true } f a k))).set (h.next + 1) (.row (opnC { o with refresh := true } f a k))) (by simp [oneS]) ((g1.set (Nat.le_refl _) _).set (by omega) _) ((w1.set (by omega) _).set (by simp; omega) _) (by omega) (by omega)
    simp [x3, x6, of, oa, ok]
    exact this
  by_cases e3 : code = 64
  · subst e3
    simp
    by_cases hl2 : s.length < 2
    · have hl2' : (s.length : Int) < 2 := by omega
      simp [hl2', c3, x6, of, oa, ok]
      exact qn (by simp [oneS, hl2]) _ (g1.set (by omega) _) (w1.set (by omega) _)
    · have hl2' : ¬ (s.length : Int) < 2 := by omega
      have w2 : IntKind.i64.wrap ((s.length : Int) - 2) = (s.length : Int) - 2 := wrap_i64_id (by omega) (by omega)
      have r4 := rem4 ((s.length : Int) - 2) (by omega)
      simp [hl2', w2, r4]
      cases hM : (((s.length : Int) - 2) % 4 != 0) with
      | true =>
        have hm : ¬ s.length % 4 = 2 := by simp at hM; omega
        simp [c3, x6, of, oa, ok]
        exact qn (by simp [oneS, hm]) _ (g1.set (by omega) _) (w1.set (by omega) _)
      | false =>
        have hm : s.length % 4 = 2 := by simp at hM; omega
        obtain ⟨x, y, r, rfl⟩ : ∃ x y r, s = x :: y :: r := by
          match s, hl2 with
          | x :: y :: r, _ => exact ⟨x, y, r, rfl⟩
          | [], h => simp at h
          | [_], h => simp at h
        have hxl : x.toNat < 256 := x.toNat_lt
        have hyl : y.toNat < 256 := y.toNat_lt
        have hvv : val [x, y] = x.toNat * 256 + y.toNat := by simp [val]
        have hr4 : r.length % 4 = 0 := by simp at hm; omega
        have hone : oneS o 64 (x :: y :: r) = some { o with hasgr := true, again := decide (32768 ≤ val [x, y]), time := ((val [x, y] % 4096 : Nat) : Int), kept := keptOf (arrB w64 (ents r)) 6 } := by
          unfold oneS
          rw [if_neg (by omega), if_neg (by omega), if_pos rfl, if_neg (by omega)]
          rfl
        have hag : ((if 128 ≤ x.toNat then (128 : Int) else 0) != 0) = decide (32768 ≤ val [x, y]) := by
          rw [hvv]
          by_cases h : 128 ≤ x.toNat
          · rw [if_pos h, decide_eq_true (show 32768 ≤ x.toNat * 256 + y.toNat by omega)]; rfl
          · rw [if_neg h, decide_eq_false (show ¬ 32768 ≤ x.toNat * 256 + y.toNat by omega)]; rfl
        have q2 : (2 : Int) ≤ (r.length : Int) + 1 + 1 := by omega
        simp [x3, u8_and hxl, hag, q2]
        refine rvalue_ct (l := [x, y]) (Nat.le_of_ble_eq_true rfl) _ ?_
        obtain ⟨o2, ho2⟩ : ∃ o2 : Opn, o2 = { o with hasgr := true, again := decide (32768 ≤ val [x, y]), time := ((val [x, y] % 4096 : Nat) : Int) } := ⟨_, rfl⟩
        have r40 := rem40 (val [x, y] : Nat) (by omega)
        simp [r40, q2]
        refine rkept_ct hr4 (by simp at hs; omega) fun v' h2 g2 w2' gl => ?_
        have y3 := g2.2 h.next (by simp; omega)
        have y6 := (g2.2 (h.next + 1) (by simp; omega))
        rw [H.get_set, if_pos rfl] at y3
        rw [H.get_set, if_neg (by omega), x6] at y6
        have vo := gl.one
        have n2 := g2.1
        simp only [H.next_set] at n2
        have hd : decide ((64 : Nat) = 64) = true := rfl
        simp [y3, y6, vo, cells_of_one vo, solid_of_one vo, of, oa]
        refine qs _ hone f a v' _ ((((g1.set (Nat.le_refl _) _).trans g2).set (Nat.le_refl _) _).set (by omega) _) ((w2'.set (by omega) _).set (by simp; omega) _) (made3.2 ?_) of oa vo
        rw [hf1]
        refine ⟨by simp, by simp, ?_⟩
        rw [if_pos hd]
        exact (gl.keep (by simp) (fun j hj => by have := gl.lo j hj; simp only [H.next_set] at this; rw [H.get_set, if_neg (by omega), H.get_set, if_neg (by omega)])).lower (by simp; omega)
  by_cases e4 : code = 65
  · subst e4
    simp
    cases hL : ((s.length : Int) != 4) with
    | true =>
      have hl : ¬ s.length = 4 := by intro e; simp [e] at hL
      simp [c3, x6, of, oa, ok]
      exact qn (by simp [oneS, hl]) _ (g1.set (by omega) _) (w1.set (by omega) _)
    | false =>
      have hl4 : s.length = 4 := by simp at hL; omega
      have hone : oneS o 65 s = some { o with four := true, asn := (val s : Nat) } := by simp [oneS, hl4]
      have hv4 := val_lt4 (l := s) (by omega)
      have w5 : IntKind.u32.wrap (val s : Int) = (val s : Nat) := u32_id hv4
      have := nofr _ ((h1.set h.next (.row (opnC { o with four := true, asn := (val s : Nat) } f a k))).set (h.next + 1) (.row (opnC { o with four := true, asn := (val s : Nat) } f a k))) hone ((g1.set (Nat.le_refl _) _).set (by omega) _) ((w1.set (by omega) _).set (by simp; omega) _) (by omega) (by omega)
      simp [x3]
      refine rvalue_ct (l := s) (by omega) _ ?_
      simp [w5, x6, of, oa, ok]
      exact this
  by_cases e5 : code = 69
  · subst e5
    have r4 := rem4 (s.length : Int) (by omega)
    simp [r4]
    cases hM : ((s.length : Int) % 4 != 0) with
    | true =>
      have hm : ¬ s.length % 4 = 0 := by simp at hM; omega
      simp [c3, x6, of, oa, ok]
      exact qn (by simp [oneS, hm]) _ (g1.set (by omega) _) (w1.set (by omega) _)
    | false =>
      have hm : s.length % 4 = 0 := by simp at hM; omega
      have hone : oneS o 69 s = some { o with adds := addsOf (arrB w69 (ents s)) 6 } := by simp [oneS, hm]
      simp
      refine radds_ct hm hs fun v' h2 g2 w2' gl => ?_
      have y3 := (g2.2 _ (by omega)).trans x3
      have y6 := (g2.2 _ (by omega)).trans x6
      have vo := gl.one
      have n2 := g2.1
      have hd : decide ((69 : Nat) = 69) = true := rfl
      simp [y3, y6, vo, cells_of_one vo, solid_of_one vo, of, ok]
      refine qs _ hone f v' k _ (((g1.trans g2).set (Nat.le_refl _) _).set (by omega) _) ((w2'.set (by omega) _).set (by simp; omega) _) (made3.2 ?_) of vo ok
      rw [hf1]
      refine ⟨by simp, ?_, by simp⟩
      rw [if_pos hd]
      exact (gl.keep (by simp) (fun j hj => by have := gl.lo j hj; rw [H.get_set, if_neg (by omega), H.get_set, if_neg (by omega)])).lower (by omega)
  have i1 : ((code : Int) == 1) = false := by rw [beq_eq_false_iff_ne]; omega
  have i2 : ((code : Int) == 2) = false := by rw [beq_eq_false_iff_ne]; omega
  have i3 : ((code : Int) == 64) = false := by rw [beq_eq_false_iff_ne]; omega
  have i4 : ((code : Int) == 65) = false := by rw [beq_eq_false_iff_ne]; omega
  have i5 : ((code : Int) == 69) = false := by rw [beq_eq_false_iff_ne]; omega
  have := nofr o (h1.set (h.next + 1) (.row (opnC o f a k))) (by simp [oneS, e1, e2, e3, e4, e5]) (g1.set (by omega) _) (w1.set (by omega) _) e5 e3
  simp [i1, i2, i3, i4, i5, c3, x6, of, oa, ok]
  exact this
end Go.Am

/-
  The reference's parse: its state, told by lists that are fresh or old.
-/
namespace Go.Am
open Go.Proofs

set_option maxRecDepth 100000
/-- A state: the open so far, and which of its lists were made here. -/
structure PS where
  o : Opn
  tf : Bool
  ta : Bool
  tk : Bool
def stepP (st : PS) (code : Nat) (s : List UInt8) (o' : Opn) : PS := ⟨o', st.tf || flagF code s, st.ta || decide (code = 69), st.tk || decide (code = 64)⟩
def parB (st : PS) (l : List UInt8) : PS × Option Nat :=
  match l with
  | [] => (st, none)
  | [_] => (st, some 0)
  | c :: n :: l => if n.toNat ≤ l.length then (match oneS st.o c.toNat (l.take n.toNat) with | none => (st, some 0) | some o' => if c.toNat = 65 ∧ o'.asn = 0 then (st, some 2) else parB (stepP st c.toNat (l.take n.toNat) o') (l.drop n.toNat)) else (st, some 0)
termination_by l.length
decreasing_by simp; omega
theorem parB_each : ∀ (n : Nat) (l : List UInt8) (st : PS), l.length ≤ n → eachB capS st.o l = match (parB st l).2 with | none => .ok (parB st l).1.o | some e => .error e
  | n, [], st, _ => by rw [eachB, parB]
  | n, [c], st, _ => by rw [eachB, parB]
  | 0, c :: m :: l, st, h => by simp at h
  | n + 1, c :: m :: l, st, h => by
    rw [eachB, parB]
    by_cases hm : m.toNat ≤ l.length
    · rw [if_pos hm, if_pos hm, capS_one']
      cases he : oneS st.o c.toNat (l.take m.toNat) with
      | none => rfl
      | some o' =>
        simp only
        by_cases h2 : c.toNat = 65 ∧ o'.asn = 0
        · rw [if_pos h2, if_pos h2]
        · rw [if_neg h2, if_neg h2]
          exact parB_each n _ (stepP st c.toNat (l.take m.toNat) o') (by simp at h ⊢; omega)
    · rw [if_neg hm, if_neg hm]
theorem one_same {o o' : Opn} {code : Nat} {s : List UInt8} (e : oneS o code s = some o') : (flagF code s = false → o'.fams = o.fams) ∧ (¬ code = 69 → o'.adds = o.adds) ∧ (¬ code = 64 → o'.kept = o.kept) := by
  unfold oneS at e
  refine ⟨fun h => ?_, fun h => ?_, fun h => ?_⟩
  · repeat' split at e
    all_goals first
      | (cases e; done)
      | (rename_i h1 _ h2; exfalso; subst h1; simp only [flagF, decide_true, Bool.true_and, decide_eq_false_iff_not] at h; exact h h2)
      | (cases e; rfl)
  all_goals
    repeat' split at e
    all_goals first
      | (cases e; done)
      | (cases e; rfl)
      | omega
def Live (h : H) (v : V) : Prop := ∀ j ∈ v.ids, j < h.next ∧ ∃ o, h.get j = some o
theorem Live.ge {h h' : H} {v : V} (l : Live h v) (g : Ge h h') : Live h' v := fun j hj => by
  obtain ⟨a, o, ho⟩ := l j hj
  exact ⟨by have := g.1; omega, o, by rw [g.2 j a]; exact ho⟩
theorem Gl.live {h : H} {lo sz : Nat} {v : V} {es : List (List V)} (g : Gl h lo sz v es) : Live h v := by
  rcases g with ⟨_, rfl⟩ | ⟨_, j, _, h2, rfl, h3⟩
  · intro j hj; cases hj
  · intro i hi
    simp only [V.ids, List.mem_cons, List.not_mem_nil, or_false] at hi
    subst hi
    exact ⟨h2, _, h3⟩
theorem oneI_ok {h : H} {o : Opn} {f a k : V} (lf : Live h f) (la : Live h a) (lk : Live h k) (tf ta tk : Bool) : ∀ i ∈ oneI o f a k tf ta tk, ItOk h i := by
  intro i hi
  simp only [oneI, List.mem_cons, List.not_mem_nil, or_false] at hi
  rcases hi with rfl | rfl | rfl
  · exact ⟨fun _ => by simp, fun _ e he => by obtain ⟨x, _, rfl⟩ := List.mem_map.1 he; rfl, fun _ e he v hv => by
      obtain ⟨x, _, rfl⟩ := List.mem_map.1 he
      simp only [List.mem_cons, List.not_mem_nil, or_false] at hv; subst hv; rfl, fun _ => lf⟩
  · exact ⟨fun _ => by simp, fun _ e he => by obtain ⟨x, _, rfl⟩ := List.mem_map.1 he; rfl, fun _ e he v hv => by
      obtain ⟨x, _, rfl⟩ := List.mem_map.1 he
      simp only [addC, List.mem_cons, List.not_mem_nil, or_false] at hv; rcases hv with rfl | rfl | rfl <;> rfl, fun _ => la⟩
  · exact ⟨fun _ => by simp, fun _ e he => by obtain ⟨x, _, rfl⟩ := List.mem_map.1 he; rfl, fun _ e he v hv => by
      obtain ⟨x, _, rfl⟩ := List.mem_map.1 he
      simp only [restC, List.mem_cons, List.not_mem_nil, or_false] at hv; rcases hv with rfl | rfl <;> rfl, fun _ => lk⟩
/-- What an open comes as. -/
structure Begin (h0 : H) (f0 a0 k0 : V) : Prop where
  wf : h0.WF
  of : f0.one = true
  oa : a0.one = true
  ok : k0.one = true
  lf : Live h0 f0
  la : Live h0 a0
  lk : Live h0 k0
theorem famsInts {h : H} {lo : Nat} {v : V} {l : List Int} (g : Gl h lo 1 v (l.map fun x => [.int .i64 x])) (hb : l.length ≤ 1048576) : Ints h.get v l := g.sls (by simp) (by rw [List.length_map]; omega)
/-- The lists of a state, in the heap. -/
structure LS (h0 : H) (f0 a0 k0 : V) (h : H) (st : PS) (f a k : V) : Prop where
  pf : if st.tf = true then Gl h h0.next 1 f (st.o.fams.map fun x => [.int .i64 x]) else f = f0
  pa : if st.ta = true then Gl h h0.next 3 a (st.o.adds.map addC) else a = a0
  pk : if st.tk = true then Gl h h0.next 2 k (st.o.kept.map restC) else k = k0
  d1 : st.tf = true → st.ta = true → ∀ j ∈ f.ids, j ∉ a.ids
  d2 : st.tf = true → st.tk = true → ∀ j ∈ f.ids, j ∉ k.ids
  d3 : st.ta = true → st.tk = true → ∀ j ∈ a.ids, j ∉ k.ids
  fl : if st.tf = true then st.o.fams.length ≤ 1048576 else Ints h0.get f0 st.o.fams
theorem Gl.kept {h h' : H} {lo sz : Nat} {v : V} {es : List (List V)} (g : Gl h lo sz v es) (hn : h.next ≤ h'.next) (k : ∀ j sz l, lo ≤ j → h.get j = some (.grow sz l) → h'.get j = h.get j) : Gl h' lo sz v es := by
  refine g.keep hn fun j hj => ?_
  rcases g with ⟨_, rfl⟩ | ⟨_, i, h1, h2, rfl, h3⟩
  · cases hj
  · simp only [V.ids, List.mem_cons, List.not_mem_nil, or_false] at hj
    subst hj
    exact k _ _ _ h1 h3
theorem LS.turn {h0 h h' : H} {f0 a0 k0 f a k : V} {st : PS} (L : LS h0 f0 a0 k0 h st f a k) (hn : h.next ≤ h'.next) (kp : ∀ j sz l, h0.next ≤ j → h.get j = some (.grow sz l) → h'.get j = h.get j) : LS h0 f0 a0 k0 h' st f a k where
  pf := by
    have := L.pf
    split
    · rename_i e; rw [if_pos e] at this; exact this.kept hn kp
    · rename_i e; rw [if_neg e] at this; exact this
  pa := by
    have := L.pa
    split
    · rename_i e; rw [if_pos e] at this; exact this.kept hn kp
    · rename_i e; rw [if_neg e] at this; exact this
  pk := by
    have := L.pk
    split
    · rename_i e; rw [if_pos e] at this; exact this.kept hn kp
    · rename_i e; rw [if_neg e] at this; exact this
  d1 := L.d1
  d2 := L.d2
  d3 := L.d3
  fl := L.fl
theorem LS.step {h0 h h' : H} {f0 a0 k0 f a k : V} {st : PS} (L : LS h0 f0 a0 k0 h st f a k) (w : h.WF) (g : Ge h h') : LS h0 f0 a0 k0 h' st f a k := L.turn g.1 fun _ _ _ _ e => g.2 _ (w.lt e)
theorem LS.ints {h0 h : H} {f0 a0 k0 f a k : V} {st : PS} (L : LS h0 f0 a0 k0 h st f a k) (B : Begin h0 f0 a0 k0) (g : Ge h0 h) : Ints h.get f st.o.fams := by
  have pf := L.pf
  have fl := L.fl
  split at pf
  · rename_i e; rw [if_pos e] at fl; exact famsInts pf fl
  · rename_i e; rw [if_neg e] at fl; rw [pf]; exact fl.ge B.wf g
theorem LS.of {h0 h : H} {f0 a0 k0 f a k : V} {st : PS} (L : LS h0 f0 a0 k0 h st f a k) (B : Begin h0 f0 a0 k0) : f.one = true := by
  have := L.pf
  split at this
  · exact this.one
  · rw [this]; exact B.of
theorem LS.oa {h0 h : H} {f0 a0 k0 f a k : V} {st : PS} (L : LS h0 f0 a0 k0 h st f a k) (B : Begin h0 f0 a0 k0) : a.one = true := by
  have := L.pa
  split at this
  · exact this.one
  · rw [this]; exact B.oa
theorem LS.ok {h0 h : H} {f0 a0 k0 f a k : V} {st : PS} (L : LS h0 f0 a0 k0 h st f a k) (B : Begin h0 f0 a0 k0) : k.one = true := by
  have := L.pk
  split at this
  · exact this.one
  · rw [this]; exact B.ok
theorem LS.lf {h0 h : H} {f0 a0 k0 f a k : V} {st : PS} (L : LS h0 f0 a0 k0 h st f a k) (B : Begin h0 f0 a0 k0) (g : Ge h0 h) : Live h f := by
  have := L.pf
  split at this
  · exact this.live
  · rw [this]; exact B.lf.ge g
theorem LS.la {h0 h : H} {f0 a0 k0 f a k : V} {st : PS} (L : LS h0 f0 a0 k0 h st f a k) (B : Begin h0 f0 a0 k0) (g : Ge h0 h) : Live h a := by
  have := L.pa
  split at this
  · exact this.live
  · rw [this]; exact B.la.ge g
theorem LS.lk {h0 h : H} {f0 a0 k0 f a k : V} {st : PS} (L : LS h0 f0 a0 k0 h st f a k) (B : Begin h0 f0 a0 k0) (g : Ge h0 h) : Live h k := by
  have := L.pk
  split at this
  · exact this.live
  · rw [this]; exact B.lk.ge g
theorem LS.made {h0 h : H} {f0 a0 k0 f a k : V} {st : PS} (L : LS h0 f0 a0 k0 h st f a k) : Made h h0.next (oneI st.o f0 a0 k0 st.tf st.ta st.tk) [f, a, k] := made3.2 ⟨L.pf, L.pa, L.pk⟩
theorem Gl.ids1 {h : H} {lo sz : Nat} {v : V} {es : List (List V)} (g : Gl h lo sz v es) : v.ids.Nodup := by
  rcases g with ⟨_, rfl⟩ | ⟨_, j, _, h2, rfl, h3⟩ <;> simp [V.ids]
theorem nd3 {o : Opn} {f0 a0 k0 f a k : V} {tf ta tk : Bool} (n1 : tf = true → f.ids.Nodup) (n2 : ta = true → a.ids.Nodup) (n3 : tk = true → k.ids.Nodup) (d1 : tf = true → ta = true → ∀ j ∈ f.ids, j ∉ a.ids) (d2 : tf = true → tk = true → ∀ j ∈ f.ids, j ∉ k.ids) (d3 : ta = true → tk = true → ∀ j ∈ a.ids, j ∉ k.ids) :
    (freshIds (oneI o f0 a0 k0 tf ta tk) [f, a, k]).Nodup := by
  have e : freshIds (oneI o f0 a0 k0 tf ta tk) [f, a, k] = (if tf = true then f.ids else []) ++ ((if ta = true then a.ids else []) ++ ((if tk = true then k.ids else []) ++ [])) := rfl
  rw [e, List.append_nil]
  have y1 : ∀ {b : Bool} {l : List Nat}, (b = true → l.Nodup) → (if b = true then l else []).Nodup := fun {b l} h => by
    split
    · rename_i e; exact h e
    · exact List.nodup_nil
  have y2 : ∀ {b : Bool} {l : List Nat} {x : Nat}, x ∈ (if b = true then l else []) → b = true ∧ x ∈ l := fun {b l x} h => by
    split at h
    · rename_i e; exact ⟨e, h⟩
    · cases h
  refine List.nodup_append.2 ⟨y1 n1, List.nodup_append.2 ⟨y1 n2, y1 n3, fun x hx y hy exy => ?_⟩, fun x hx y hy exy => ?_⟩
  · subst exy
    obtain ⟨b1, m1⟩ := y2 hx
    obtain ⟨b2, m2⟩ := y2 hy
    exact d3 b1 b2 x m1 m2
  · subst exy
    obtain ⟨b1, m1⟩ := y2 hx
    rcases List.mem_append.1 hy with hy | hy
    · obtain ⟨b2, m2⟩ := y2 hy
      exact d1 b1 b2 x m1 m2
    · obtain ⟨b2, m2⟩ := y2 hy
      exact d2 b1 b2 x m1 m2
theorem LS.nodup {h0 h : H} {f0 a0 k0 f a k : V} {st : PS} (L : LS h0 f0 a0 k0 h st f a k) : (freshIds (oneI st.o f0 a0 k0 st.tf st.ta st.tk) [f, a, k]).Nodup :=
  nd3 (fun e => by have := L.pf; rw [if_pos e] at this; exact this.ids1) (fun e => by have := L.pa; rw [if_pos e] at this; exact this.ids1) (fun e => by have := L.pk; rw [if_pos e] at this; exact this.ids1) L.d1 L.d2 L.d3
/-- One step. -/
theorem LS.next {h0 h H : H} {f0 a0 k0 f a k f2 a2 k2 : V} {st : PS} (L : LS h0 f0 a0 k0 h st f a k) (B : Begin h0 f0 a0 k0) (g0 : Ge h0 h) (w : h.WF) (g : Ge h H) {o' : Opn} {code : Nat} {s : List UInt8} (e : oneS st.o code s = some o') (hb : flagF code s = true → o'.fams.length ≤ 1048576)
    (m : Made H h.next (oneI o' f a k (flagF code s) (decide (code = 69)) (decide (code = 64))) [f2, a2, k2]) : LS h0 f0 a0 k0 H (stepP st code s o') f2 a2 k2 := by
  obtain ⟨mf, ma, mk⟩ := made3.1 m
  obtain ⟨e1, e2, e3⟩ := one_same e
  have L2 := L.step w g
  have h0n := g0.1
  have ex1 : flagF code s = true → code = 1 := fun h => by simp [flagF] at h; exact h.1
  have vf : (flagF code s = true ∧ Gl H h.next 1 f2 (o'.fams.map fun x => [.int .i64 x])) ∨ (flagF code s = false ∧ f2 = f) := by
    cases h : flagF code s with
    | true => rw [h] at mf; exact .inl ⟨rfl, by simpa using mf⟩
    | false => rw [h] at mf; exact .inr ⟨rfl, by simpa using mf⟩
  have va : (code = 69 ∧ Gl H h.next 3 a2 (o'.adds.map addC)) ∨ (¬ code = 69 ∧ a2 = a) := by
    by_cases h : code = 69
    · rw [if_pos (by simpa using h)] at ma; exact .inl ⟨h, ma⟩
    · rw [if_neg (by simpa using h)] at ma; exact .inr ⟨h, ma⟩
  have vk : (code = 64 ∧ Gl H h.next 2 k2 (o'.kept.map restC)) ∨ (¬ code = 64 ∧ k2 = k) := by
    by_cases h : code = 64
    · rw [if_pos (by simpa using h)] at mk; exact .inl ⟨h, mk⟩
    · rw [if_neg (by simpa using h)] at mk; exact .inr ⟨h, mk⟩
  clear mf ma mk m
  have sl : ∀ {sz : Nat} {v : V} {es : List (List V)}, Gl H h.next sz v es → ∀ j ∈ v.ids, h.next ≤ j := fun gl j hj => (gl.lo j hj).1
  have oldf := fun j hj => (L.lf B g0 j hj).1
  have olda := fun j hj => (L.la B g0 j hj).1
  have oldk := fun j hj => (L.lk B g0 j hj).1
  have hs0 : ∀ b : Bool, (b || false) = b := fun b => by simp
  refine ⟨?_, ?_, ?_, ?_, ?_, ?_, ?_⟩
  · rcases vf with ⟨t, gl⟩ | ⟨t, rfl⟩
    · simp only [stepP, t, Bool.or_true, if_true]
      exact gl.lower h0n
    · simp only [stepP, t, Bool.or_false, e1 t]
      exact L2.pf
  · rcases va with ⟨t, gl⟩ | ⟨t, rfl⟩
    · simp only [stepP, t, decide_true, Bool.or_true, if_true]
      exact gl.lower h0n
    · simp only [stepP, t, decide_false, Bool.or_false, e2 t]
      exact L2.pa
  · rcases vk with ⟨t, gl⟩ | ⟨t, rfl⟩
    · simp only [stepP, t, decide_true, Bool.or_true, if_true]
      exact gl.lower h0n
    · simp only [stepP, t, decide_false, Bool.or_false, e3 t]
      exact L2.pk
  · intro t1 t2 j hj hj2
    rcases vf with ⟨t, gl⟩ | ⟨t, rfl⟩ <;> rcases va with ⟨u, gl2⟩ | ⟨u, rfl⟩
    · have := ex1 t; omega
    · have := sl gl j hj; have := olda j hj2; omega
    · have := sl gl2 j hj2; have := oldf j hj; omega
    · exact L.d1 (by simpa [stepP, t] using t1) (by simpa [stepP, u] using t2) j hj hj2
  · intro t1 t2 j hj hj2
    rcases vf with ⟨t, gl⟩ | ⟨t, rfl⟩ <;> rcases vk with ⟨u, gl2⟩ | ⟨u, rfl⟩
    · have := ex1 t; omega
    · have := sl gl j hj; have := oldk j hj2; omega
    · have := sl gl2 j hj2; have := oldf j hj; omega
    · exact L.d2 (by simpa [stepP, t] using t1) (by simpa [stepP, u] using t2) j hj hj2
  · intro t1 t2 j hj hj2
    rcases va with ⟨t, gl⟩ | ⟨t, rfl⟩ <;> rcases vk with ⟨u, gl2⟩ | ⟨u, rfl⟩
    · omega
    · have := sl gl j hj; have := oldk j hj2; omega
    · have := sl gl2 j hj2; have := olda j hj; omega
    · exact L.d3 (by simpa [stepP, t] using t1) (by simpa [stepP, u] using t2) j hj hj2
  · rcases vf with ⟨t, gl⟩ | ⟨t, rfl⟩
    · simp only [stepP, t, Bool.or_true, if_true]
      exact hb t
    · simp only [stepP, t, Bool.or_false, e1 t]
      exact L2.fl
end Go.Am

/-
  Contracts of the reference: a parameter's capabilities, put into an open.
-/
namespace Go.Am
open Go.Proofs

set_option maxRecDepth 100000
def oneR (st : PS) (code : Nat) (s : List UInt8) : PS × Bool := match oneS st.o code s with | some o' => (⟨o', flagF code s, decide (code = 69), decide (code = 64)⟩, true) | none => (⟨st.o, false, false, false⟩, false)
def oneMk (o2 : Opn) (b : Bool) : List V → V
  | [f, a, k] => .tup [opnV o2 f a k, .bool b]
  | _ => .tup []
theorem oneMk_ren (o2 : Opn) (b : Bool) (σ : Nat → Nat) (vs : List V) : (oneMk o2 b vs).ren σ = oneMk o2 b (vs.map (V.ren σ)) := by
  match vs with
  | [f, a, k] => rfl
  | [] => rfl
  | [_] => rfl
  | [_, _] => rfl
  | _ :: _ :: _ :: _ :: _ => rfl
theorem oneMk_ids (o2 : Opn) (b : Bool) (vs : List V) : ∀ i ∈ (oneMk o2 b vs).ids, i ∈ V.idss vs := by
  match vs with
  | [f, a, k] => simp [oneMk, opnV, V.ids, V.idss]
  | [] => simp [oneMk, V.ids, V.idss]
  | [_] => simp [oneMk, V.ids, V.idss]
  | [_, _] => simp [oneMk, V.ids, V.idss]
  | _ :: _ :: _ :: _ :: _ => simp [oneMk, V.ids, V.idss]
theorem fam_len {o o' : Opn} {code : Nat} {s : List UInt8} (e : oneS o code s = some o') (hf : flagF code s = true) : o'.fams.length ≤ 5 := by
  simp only [flagF, Bool.and_eq_true, decide_eq_true_eq] at hf
  obtain ⟨rfl, hf⟩ := hf
  unfold oneS at e
  rw [if_pos rfl] at e
  split at e
  · cases e
    exact (withB_ok _ _).len
  · cases e
theorem one_ev {h : H} {st : PS} {f a k : V} (of : f.one = true) (oa : a.one = true) (ok : k.one = true) (hsf : Ints h.get f st.o.fams) (lf : Live h f) (la : Live h a) (lk : Live h k) {code : Nat} (hcode : code < 256) {s : List UInt8} (hs : s.length < 256) (w : h.WF)
    {get : Nat → Option O} {kk e : Nat} (hk : kk + room ≤ e) (hn : h.next ≤ kk) (hg : ∀ i, i < h.next → get i = h.get i) :
    callEv Try.prog (.func (.func 87) [] []) [opnV st.o f a k, .int .u8 (code : Nat), .str s] get kk e
      (oneMk (oneR st code s).1.o (oneR st code s).2 (canonV kk (oneI (oneR st code s).1.o f a k (oneR st code s).1.tf (oneR st code s).1.ta (oneR st code s).1.tk))) (List.range h.next)
      (canonO (oneI (oneR st code s).1.o f a k (oneR st code s).1.tf (oneR st code s).1.ta (oneR st code s).1.tk)) := by
  refine callEv_lists (h := h) (oneMk_ren _ _) (oneMk_ids _ _) (oneI_ok lf la lk _ _ _) (by simp [oneI, room]) hk hn hg (fun h2 g => ?_)
  refine (?_ : Acalls Try.prog 87 [opnV st.o f a k, .int .u8 (code : Nat), .str s] h2 _)
  refine rone_ct of oa ok (hsf.ge w g) hcode hs (fun he h3 g3 w3 => ?_) (fun o' he f' a' k' h3 g3 w3 m of' oa' ok' => ?_)
  · have : oneR st code s = (⟨st.o, false, false, false⟩, false) := by unfold oneR; rw [he]
    rw [this]
    refine ⟨g3, [f, a, k], rfl, made3.2 ⟨by simp, by simp, by simp⟩, ?_⟩
    exact nd3 (by simp) (by simp) (by simp) (by simp) (by simp) (by simp)
  · have : oneR st code s = (⟨o', flagF code s, decide (code = 69), decide (code = 64)⟩, true) := by unfold oneR; rw [he]
    rw [this]
    obtain ⟨m1, m2, m3⟩ := made3.1 m
    have ex1 : flagF code s = true → code = 1 := fun h => by simp [flagF] at h; exact h.1
    refine ⟨g3, [f', a', k'], rfl, m, nd3 (fun e => ?_) (fun e => ?_) (fun e => ?_) (fun e1 e2 => ?_) (fun e1 e2 => ?_) (fun e1 e2 => ?_)⟩
    · simp only at e; rw [if_pos e] at m1; exact m1.ids1
    · simp only at e; rw [if_pos e] at m2; exact m2.ids1
    · simp only at e; rw [if_pos e] at m3; exact m3.ids1
    · simp only [decide_eq_true_eq] at e1 e2; have := ex1 e1; omega
    · simp only [decide_eq_true_eq] at e1 e2; have := ex1 e1; omega
    · simp only [decide_eq_true_eq] at e1 e2; omega
theorem canon3 (kk : Nat) (o : Opn) (f a k : V) (tf ta tk : Bool) (of : f.one = true) (oa : a.one = true) (ok : k.one = true) : ∃ f2 a2 k2, canonV kk (oneI o f a k tf ta tk) = [f2, a2, k2] ∧ f2.one = true ∧ a2.one = true ∧ k2.one = true ∧ (canonO (oneI o f a k tf ta tk)).length ≤ 3 := by
  have hl : ∀ {sz : Nat} {l : List V}, (glO sz l).length ≤ 1 := fun {sz l} => by unfold glO; split <;> simp
  have h1 := @hl 1 (o.fams.map fun x => [V.int .i64 x]).flatten
  have h2 := @hl 3 (o.adds.map addC).flatten
  have h3 := @hl 2 (o.kept.map restC).flatten
  cases tf <;> cases ta <;> cases tk <;> refine ⟨_, _, _, rfl, ?_, ?_, ?_, ?_⟩ <;> first | assumption | exact glV_one | (simp only [canonO, oneI, List.length_append, if_true, Bool.false_eq_true, if_false, List.length_nil]; omega)
theorem one_ev2 {h : H} {st : PS} {f a k : V} (of : f.one = true) (oa : a.one = true) (ok : k.one = true) (hsf : Ints h.get f st.o.fams) (lf : Live h f) (la : Live h a) (lk : Live h k) {code : Nat} (hcode : code < 256) {s : List UInt8} (hs : s.length < 256) (w : h.WF) {kk e : Nat} (hk : kk + room ≤ e) (hn : h.next ≤ kk) :
    ∃ o2 b f2 a2 k2 os, callEv Try.prog (.func (.func 87) [] []) [opnV st.o f a k, .int .u8 (code : Nat), .str s] h.get kk e (.tup [opnV o2 f2 a2 k2, .bool b]) (List.range h.next) os ∧ f2.one = true ∧ a2.one = true ∧ k2.one = true ∧ os.length ≤ 3 ∧
      ((b = false ∧ oneS st.o code s = none) ∨ (b = true ∧ oneS st.o code s = some o2 ∧ ∀ H : H, Ge h H → kk + room ≤ H.next → (∀ i (hi : i < os.length), H.get (kk + i) = some os[i]) → Made H h.next (oneI o2 f a k (flagF code s) (decide (code = 69)) (decide (code = 64))) [f2, a2, k2])) := by
  have ev := one_ev of oa ok hsf lf la lk hcode hs w hk hn (get := h.get) (fun i _ => rfl)
  obtain ⟨f2, a2, k2, e3, y1, y2, y3, y4⟩ := canon3 kk (oneR st code s).1.o f a k (oneR st code s).1.tf (oneR st code s).1.ta (oneR st code s).1.tk of oa ok
  have hr : room = 16 := rfl
  refine ⟨(oneR st code s).1.o, (oneR st code s).2, f2, a2, k2, _, by rw [e3] at ev; exact ev, y1, y2, y3, y4, ?_⟩
  cases he : oneS st.o code s with
  | none => exact .inl ⟨by unfold oneR; rw [he], rfl⟩
  | some o' =>
    have hR : oneR st code s = (⟨o', flagF code s, decide (code = 69), decide (code = 64)⟩, true) := by unfold oneR; rw [he]
    rw [hR] at e3 y4 ⊢
    simp only at y4
    refine .inr ⟨rfl, rfl, fun H g hH hos => ?_⟩
    rw [← e3]
    exact canon_made _ kk (oneI_ok lf la lk _ _ _) hn (Nat.lt_of_le_of_lt (Nat.add_le_add_left y4 kk) (by omega)) hos
def errV : Option Nat → V
  | none => fineV
  | some e => badV e
theorem errV_ids (e : Option Nat) : (errV e).ids = [] := by cases e <;> rfl
theorem rparameter_ct {h : H} {o : Opn} {f a k : V} (B : Begin h f a k) (hsf : Ints h.get f o.fams) {s : List UInt8} (hs : s.length < 256) {Q : V → H → Prop}
    (q : ∀ f' a' k' h2, Ge h h2 → h2.WF → LS h f a k h2 (parB ⟨o, false, false, false⟩ s).1 f' a' k' → Q (.tup [opnV (parB ⟨o, false, false, false⟩ s).1.o f' a' k', errV (parB ⟨o, false, false, false⟩ s).2]) h2) : Acalls Try.prog 65 [opnV o f a k, .str s] h Q := by
  have of := B.of
  have oa := B.oa
  have ok := B.ok
  refine acalls_to Try.func65 S.Href10_parameter_code S.Href10_parameter_enter (Nat.le_of_ble_eq_true rfl) fun wf => ?_; simp only [S.Href10_parameter]
  simp only [opnV]
  simp [of, oa, ok]
  obtain ⟨h1, hh1⟩ : ∃ h1, h1 = ((h.push (.row (opnC o f a k))).push (.row [.int .u32 0, .int .i64 0, .int .u32 0, .nilsl, .bool false, .bool false, .nilsl, .bool false, .bool false, .int .i64 0, .nilsl])).push (.row [.int .i64 0, .int .u8 0, .int .u8 0]) := ⟨_, rfl⟩
  have g1 : Ge h h1 := by rw [hh1]; exact (((Ge.refl _).push _).push _).push _
  have w1 : h1.WF := by rw [hh1]; exact ((wf.push _).push _).push _
  have n1 : h1.next = h.next + 3 := by rw [hh1]; rfl
  have x2 : h1.get h.next = some (.row (opnC o f a k)) := by rw [hh1]; simp; intro e; omega
  have x4 : h1.get (h.next + 1) = some (.row [.int .u32 0, .int .i64 0, .int .u32 0, .nilsl, .bool false, .bool false, .nilsl, .bool false, .bool false, .int .i64 0, .nilsl]) := by rw [hh1]; simp
  have x5 : h1.get (h.next + 2) = some (.row [.int .i64 0, .int .u8 0, .int .u8 0]) := by rw [hh1]; simp
  simp only [opnC] at hh1
  rw [← hh1]
  have L0 : LS h f a k h1 ⟨o, false, false, false⟩ f a k := LS.step ⟨by simp, by simp, by simp, by simp, by simp, by simp, by simpa using hsf⟩ wf g1
  have r4 : ¬ h.next + 2 = h.next + 1 := by omega
  refine loopA_of (fun n t h' => ∃ st l f' a' k', l.length = n ∧ l.length ≤ s.length ∧ parB ⟨o, false, false, false⟩ s = parB st l ∧ LS h f a k h' st f' a' k' ∧ (t 1 = .str l ∧ t 2 = .ptr h.next 11 0 ∧ t 4 = .ptr (h.next + 1) 11 0 ∧ t 5 = .ptr (h.next + 2) 3 0) ∧ h'.get h.next = some (.row (opnC st.o f' a' k')) ∧
    h'.get (h.next + 1) = some (.row [.int .u32 0, .int .i64 0, .int .u32 0, .nilsl, .bool false, .bool false, .nilsl, .bool false, .bool false, .int .i64 0, .nilsl]) ∧ h'.get (h.next + 2) = some (.row [.int .i64 0, .int .u8 0, .int .u8 0]) ∧ h'.WF ∧ Ge h h' ∧ h.next + 3 ≤ h'.next) (n := s.length)
    ⟨_, s, f, a, k, rfl, Nat.le_refl _, rfl, L0, by simp, x2, x4, x5, w1, g1, by omega⟩ ?_
  rintro n t h2 ⟨st, l, f', a', k', hn, hle, hpar, L, ⟨t1, t2, t4, t5⟩, x2, x4, x5, w2, g2, n2⟩ N hN
  rw [hpar] at q
  have vf := L.of B
  have va := L.oa B
  have vk := L.ok B
  have c2 : cellsAt h2.get h.next 11 = some (opnC st.o f' a' k') := by rw [cellsAt_of x2 (by simp [opnC])]; rfl
  have kpt : ∀ H : H, (∀ j, j ≠ h.next → j ≠ h.next + 1 → j ≠ h.next + 2 → j < h2.next → H.get j = h2.get j) → ∀ j sz l, h.next ≤ j → h2.get j = some (.grow sz l) → H.get j = h2.get j := fun H hk j sz l hj e => by
    refine hk j ?_ ?_ ?_ (w2.lt e)
    · rintro rfl; rw [x2] at e; cases e
    · rintro rfl; rw [x4] at e; cases e
    · rintro rfl; rw [x5] at e; cases e
  have fin : ∀ (H : H) (e0 : Option Nat), parB st l = (st, e0) → h2.next ≤ H.next → H.WF → (∀ j, j ≠ h.next + 1 → j ≠ h.next + 2 → j < h2.next → H.get j = h2.get j) → Q (.tup [opnV st.o f' a' k', errV e0]) H := fun H e0 hp hn w hk => by
    rw [hp] at q
    exact q f' a' k' H ⟨by omega, fun j hj => by rw [hk j (by omega) (by omega) (by omega), g2.2 j hj]⟩ w (L.turn hn (kpt H fun j _ a b c => hk j a b c))
  have fine : ∀ e0 : Nat, parB st l = (st, some e0) → Q (.tup [opnV st.o f' a' k', .agg [.int .i64 3, .int .u8 2, .int .u8 (e0 : Nat)]]) ⟨h2.next + 4 * room, upds (upds h2.get [(h.next + 1, .row (opnC st.o f' a' k'))]) [(h.next + 2, .row [.int .i64 3, .int .u8 2, .int .u8 (e0 : Nat)])]⟩ := fun e0 hp =>
    fin _ (some e0) hp (by simp) (fun i hi => by simp only at hi ⊢; rw [upds_one, if_neg (by omega), upds_one, if_neg (by omega), w2 i (by omega)]) (fun j a b _ => by simp only; rw [upds_one, if_neg b, upds_one, if_neg a])
  clear q
  simp only [opnC] at x2 c2 fine
  match l, hn, hle, fin, fine, t1 with
  | [], hn, hle, fin, fine, t1 =>
    have hp : parB st [] = (st, none) := by rw [parB]
    simp [t1, t2, t4, t5, c2, x4, x5, vf, va, vk]
    exact fin _ none hp (by simp) ((w2.set (by omega) _).set (by simp; omega) _) (fun j a b _ => by rw [H.get_set, if_neg b, H.get_set, if_neg a])
  | [c], hn, hle, fin, fine, t1 =>
    have hp : parB st [c] = (st, some 0) := by rw [parB]
    simp [t1]
    refine dreg_dwp ?_
    simp [t2, c2]
    refine dcall_at 1 (by rfl) (callEv_pure (h := h2) (v := badV 0) rfl (by simp [room]) (by omega) (fun i hi => rfl) (fun h3 g3 => rreset_ct (s := 0))) ?_
    simp [badV, t4, t5, x4, x5, upds_one, vf, va, vk]
    refine dwp_end (by simp [evAt, apart, I.foot, refOf]) ?_
    simp [t4, t5]
    exact fine 0 hp
  | c :: n :: l, hn, hle, fin, fine, t1 =>
    have hnl : n.toNat < 256 := n.toNat_lt
    have hcl : c.toNat < 256 := c.toNat_lt
    have hp0 := parB.eq_3 st c n l
    have wn : IntKind.i64.wrap (n.toNat : Int) = (n.toNat : Int) := wrap_nat (by omega)
    have w2n : IntKind.i64.wrap (2 + (n.toNat : Int)) = 2 + (n.toNat : Int) := wrap_i64_id (by omega) (by omega)
    have p1 : (0 : Int) < (l.length : Int) + 1 + 1 := by omega
    have p2 : ¬ (l.length : Int) + 1 + 1 < 2 := by omega
    have p3 : (1 : Int) < (l.length : Int) + 1 + 1 := by omega
    simp [t1, wn, w2n, p1, p2]
    by_cases hnn : n.toNat ≤ l.length
    · rw [if_pos hnn] at hp0
      have p4 : ¬ (l.length : Int) + 1 + 1 < 2 + (n.toNat : Int) := by omega
      have p5 : 2 + (n.toNat : Int) ≤ (l.length : Int) + 1 + 1 := by omega
      have p6 : (2 + (n.toNat : Int)).toNat = n.toNat + 2 := by omega
      have p7 : 2 ≤ 2 + (n.toNat : Int) := by omega
      have p8 : 0 ≤ 2 + (n.toNat : Int) := by omega
      have p9 : (2 : Int) ≤ (n.toNat : Int) + 2 := by omega
      simp [p4, t1, wn]
      refine dreg_dwp ?_
      simp [t1, t2, c2, w2n, p5, p6, p8, p9]
      obtain ⟨code, hcode⟩ : ∃ code, code = c.toNat := ⟨_, rfl⟩
      obtain ⟨s2, hs2⟩ : ∃ s2, s2 = l.take n.toNat := ⟨_, rfl⟩
      have hs2l : s2.length < 256 := by rw [hs2]; simp; omega
      rw [← hcode] at hp0 hcl
      rw [← hs2] at hp0
      obtain ⟨o2, b, f2, a2, k2, os, ev, y1, y2, y3, y4, y5⟩ := one_ev2 (st := st) vf va vk (L.ints B g2) (L.lf B g2) (L.la B g2) (L.lk B g2) hcl hs2l w2 (kk := h2.next + 7 * room) (e := h2.next + 14 * room) (by simp [room]) (by omega)
      rw [← hcode, ← hs2]
      refine dcall_at 7 (by rfl) ev ?_
      obtain ⟨get1, hget1⟩ : ∃ g, g = upds h2.get (names (h2.next + 7 * room) os) := ⟨_, rfl⟩
      have m1 : ∀ i, get1 i = if h2.next + 7 * room ≤ i ∧ i < h2.next + 7 * room + os.length then os[i - (h2.next + 7 * room)]? else h2.get i := fun i => by rw [hget1]; exact names_get2
      rw [← hget1]
      simp [y1, y2, y3, upds_one]
      have hr : room = 16 := rfl
      have nm : ∀ x y, (x, y) ∈ names (h2.next + 7 * room) os → h2.next + 7 * room ≤ x ∧ x < h2.next + 10 * room := fun x y hx => by
        have key : ∀ (os : List O) (k : Nat), (x, y) ∈ names k os → k ≤ x ∧ x < k + os.length := by
          intro os
          induction os with
          | nil => intro k h; cases h
          | cons a os ih =>
            intro k h
            simp only [names, List.mem_cons, Prod.mk.injEq] at h
            rcases h with ⟨rfl, _⟩ | h
            · simp
            · have := ih (k + 1) h; simp; omega
        have := key _ _ hx
        omega
      refine dwp_end ?_ ?_
      · intro q hq
        simp only [List.mem_cons, List.not_mem_nil, or_false] at hq
        rcases hq with rfl | rfl <;> simp [evAt, apart, I.foot, refOf, t2] <;> (try omega)
        all_goals (try (intro x y hx; have := nm _ _ hx; omega))
      obtain ⟨H4, hH4⟩ : ∃ H4 : H, H4 = ⟨h2.next + 14 * room, upds (upds get1 [(h2.next + 11 * room, .row [.int .u32 0, .int .i64 0, .int .u32 0, .nilsl, .bool false, .bool false, .nilsl, .bool false, .bool false, .int .i64 0, .nilsl])]) [(h2.next + 11 * room, .row (opnC o2 f2 a2 k2))]⟩ := ⟨_, rfl⟩
      have N4 : H4.next = h2.next + 14 * room := by rw [hH4]
      have x7 : H4.get (h2.next + 11 * room) = some (.row (opnC o2 f2 a2 k2)) := by rw [hH4]; simp only; rw [upds_one, if_pos rfl]
      have m4 : ∀ i, i ≠ h2.next + 11 * room → H4.get i = get1 i := fun i h1 => by rw [hH4]; simp only; rw [upds_one, if_neg h1, upds_one, if_neg h1]
      have old4 : ∀ i, i < h2.next → H4.get i = h2.get i := fun i hi => by rw [m4 i (by omega), m1, if_neg (by omega)]
      have g4 : Ge h2 H4 := ⟨by omega, old4⟩
      have w4 : H4.WF := fun i hi => by rw [m4 i (by omega), m1, if_neg (by omega), w2 i (by omega)]
      have c7 : cellsAt H4.get (h2.next + 11 * room) 11 = some (opnC o2 f2 a2 k2) := by rw [cellsAt_of x7 (by simp [opnC])]; rfl
      have z2 := (old4 _ (by omega)).trans x2
      have z4 := (old4 _ (by omega)).trans x4
      have z5 := (old4 _ (by omega)).trans x5
      have zc := (cellsAt_congr (n := 11) (old4 h.next (by omega))).trans c2
      simp only [opnC] at hH4 x7 c7
      rw [← hH4]
      have badE : ∀ (e0 : Nat) (H : H), parB st (c :: n :: l) = (st, some e0) → H4.next ≤ H.next → H.WF → (∀ j, j ≠ h.next + 1 → j ≠ h.next + 2 → j < h2.next → H.get j = H4.get j) → Q (.tup [opnV st.o f' a' k', errV (some e0)]) H := fun e0 H hp hn w hk => fin H (some e0) hp (by omega) w fun j a b c => by rw [hk j a b c, old4 j c]
      rcases y5 with ⟨rfl, he⟩ | ⟨rfl, he, hmk⟩
      · rw [he] at hp0
        simp
        refine dreg_dwp ?_
        simp [t2, zc]
        refine dcall_at 1 (by rfl) (callEv_pure (h := H4) (v := badV 0) rfl (by simp [room]) (by omega) (fun i hi => rfl) (fun h3 g3 => rreset_ct (s := 0))) ?_
        simp [badV, t4, t5, z4, z5, upds_one, vf, va, vk]
        refine dwp_end (by simp [evAt, apart, I.foot, refOf]) ?_
        simp [t4, t5]
        refine badE 0 _ hp0 (by simp) (fun i hi => ?_) (fun j a b _ => ?_)
        · simp only at hi ⊢; rw [upds_one, if_neg (by omega), upds_one, if_neg (by omega), w4 i (by omega)]
        · simp only; rw [upds_one, if_neg b, upds_one, if_neg a]
      · rw [he] at hp0
        simp only at hp0
        simp [t1]
        rw [← hcode]
        have hLn := LS.next L B g2 w2 g4 he (fun hf => Nat.le_trans (fam_len he hf) (by omega)) (hmk H4 g4 (by omega) (fun i hi => by rw [m4 _ (by omega), m1, if_pos (by omega), show h2.next + 7 * room + i - (h2.next + 7 * room) = i by omega, List.getElem?_eq_getElem hi]))
        have step : (¬ (code = 65 ∧ o2.asn = 0)) → ∀ t', (t' 1 = .str (l.drop n.toNat) ∧ t' 2 = .ptr h.next 11 0 ∧ t' 4 = .ptr (h.next + 1) 11 0 ∧ t' 5 = .ptr (h.next + 2) 3 0) → N t' (H4.set h.next (.row (opnC o2 f2 a2 k2))) := fun hno t' ht => by
          rw [if_neg hno] at hp0
          refine hN (l.drop n.toNat).length _ _ (by simp at hn ⊢; omega) ⟨_, l.drop n.toNat, f2, a2, k2, rfl, by simp at hle ⊢; omega, by rw [hpar, hp0], hLn.turn (by simp) (fun j sz l hj e => ?_), ht, by simp [stepP], by simp [z4], by simp [z5], w4.set (by omega) _, (g2.trans g4).set (Nat.le_refl _) _, by simp; omega⟩
          rw [H.get_set, if_neg]
          rintro rfl
          rw [z2] at e; cases e
        simp only [opnC] at step
        by_cases h65 : code = 65
        · have i65 : ((code : Int) == 65) = true := by rw [h65]; rfl
          simp [i65, c7]
          cases hz : (o2.asn == 0) with
          | true =>
            have hz' : o2.asn = 0 := by simpa using hz
            rw [if_pos ⟨h65, hz'⟩] at hp0
            simp
            refine dreg_dwp ?_
            simp [t2, zc]
            refine dcall_at 1 (by rfl) (callEv_pure (h := H4) (v := badV 2) rfl (by simp [room]) (by omega) (fun i hi => rfl) (fun h3 g3 => rreset_ct (s := 2))) ?_
            simp [badV, t4, t5, z4, z5, upds_one, vf, va, vk]
            refine dwp_end (by simp [evAt, apart, I.foot, refOf]) ?_
            simp [t4, t5]
            refine badE 2 _ hp0 (by simp) (fun i hi => ?_) (fun j a b _ => ?_)
            · simp only at hi ⊢; rw [upds_one, if_neg (by omega), upds_one, if_neg (by omega), w4 i (by omega)]
            · simp only; rw [upds_one, if_neg b, upds_one, if_neg a]
          | false =>
            have hz' : ¬ o2.asn = 0 := by intro e; simp [e] at hz
            simp [c7, t1, t2, z2, w2n, p5, p6, p8, y1, y2, y3]
            refine step (fun h => hz' h.2) _ ?_
            simp [t2, t4, t5]
        · have i65 : ((code : Int) == 65) = false := by rw [beq_eq_false_iff_ne]; omega
          simp [i65, c7, t1, t2, z2, w2n, p5, p6, p8, y1, y2, y3]
          refine step (fun h => h65 h.1) _ ?_
          simp [t2, t4, t5]
    · rw [if_neg hnn] at hp0
      have p4 : (l.length : Int) + 1 + 1 < 2 + (n.toNat : Int) := by omega
      simp [p4]
      refine dreg_dwp ?_
      simp [t2, c2]
      refine dcall_at 1 (by rfl) (callEv_pure (h := h2) (v := badV 0) rfl (by simp [room]) (by omega) (fun i hi => rfl) (fun h3 g3 => rreset_ct (s := 0))) ?_
      simp [badV, t4, t5, x4, x5, upds_one, vf, va, vk]
      refine dwp_end (by simp [evAt, apart, I.foot, refOf]) ?_
      simp [t4, t5]
      exact fine 0 hp0
end Go.Am

/-
  The reference's parameter, told in a drawn region.
-/
namespace Go.Am
open Go.Proofs

set_option maxRecDepth 100000
def parMk (o2 : Opn) (e : Option Nat) : List V → V
  | [f, a, k] => .tup [opnV o2 f a k, errV e]
  | _ => .tup []
theorem errV_ren (σ : Nat → Nat) (e : Option Nat) : (errV e).ren σ = errV e := by cases e <;> rfl
theorem parMk_ren (o2 : Opn) (e : Option Nat) (σ : Nat → Nat) (vs : List V) : (parMk o2 e vs).ren σ = parMk o2 e (vs.map (V.ren σ)) := by
  match vs with
  | [f, a, k] =>
    have : (parMk o2 e [f, a, k]).ren σ = .tup [opnV o2 (f.ren σ) (a.ren σ) (k.ren σ), (errV e).ren σ] := rfl
    rw [this, errV_ren]; rfl
  | [] => rfl
  | [_] => rfl
  | [_, _] => rfl
  | _ :: _ :: _ :: _ :: _ => rfl
theorem parMk_ids (o2 : Opn) (e : Option Nat) (vs : List V) : ∀ i ∈ (parMk o2 e vs).ids, i ∈ V.idss vs := by
  match vs with
  | [f, a, k] => simp [parMk, opnV, V.ids, V.idss, errV_ids]
  | [] => simp [parMk, V.ids, V.idss]
  | [_] => simp [parMk, V.ids, V.idss]
  | [_, _] => simp [parMk, V.ids, V.idss]
  | _ :: _ :: _ :: _ :: _ => simp [parMk, V.ids, V.idss]
theorem Begin.ge {h h' : H} {f a k : V} (B : Begin h f a k) (g : Ge h h') (w : h'.WF) : Begin h' f a k := ⟨w, B.of, B.oa, B.ok, B.lf.ge g, B.la.ge g, B.lk.ge g⟩
theorem parB_same : ∀ (n : Nat) (l : List UInt8) (st : PS), l.length ≤ n → ((parB st l).1.tf = false → st.tf = false ∧ (parB st l).1.o.fams = st.o.fams) ∧ ((parB st l).1.ta = false → st.ta = false ∧ (parB st l).1.o.adds = st.o.adds) ∧ ((parB st l).1.tk = false → st.tk = false ∧ (parB st l).1.o.kept = st.o.kept)
  | n, [], st, _ => by rw [parB]; simp
  | n, [c], st, _ => by rw [parB]; simp
  | 0, c :: m :: l, st, h => by simp at h
  | n + 1, c :: m :: l, st, h => by
    rw [parB]
    by_cases hm : m.toNat ≤ l.length
    · rw [if_pos hm]
      cases he : oneS st.o c.toNat (l.take m.toNat) with
      | none => simp
      | some o' =>
        simp only
        by_cases h2 : c.toNat = 65 ∧ o'.asn = 0
        · rw [if_pos h2]; simp
        · rw [if_neg h2]
          obtain ⟨i1, i2, i3⟩ := parB_same n (l.drop m.toNat) (stepP st c.toNat (l.take m.toNat) o') (by simp at h ⊢; omega)
          obtain ⟨e1, e2, e3⟩ := one_same he
          refine ⟨fun hh => ?_, fun hh => ?_, fun hh => ?_⟩
          · obtain ⟨a, b⟩ := i1 hh
            simp only [stepP, Bool.or_eq_false_iff] at a b
            exact ⟨a.1, b.trans (e1 a.2)⟩
          · obtain ⟨a, b⟩ := i2 hh
            simp only [stepP, Bool.or_eq_false_iff, decide_eq_false_iff_not] at a b
            exact ⟨a.1, b.trans (e2 a.2)⟩
          · obtain ⟨a, b⟩ := i3 hh
            simp only [stepP, Bool.or_eq_false_iff, decide_eq_false_iff_not] at a b
            exact ⟨a.1, b.trans (e3 a.2)⟩
    · rw [if_neg hm]; simp
theorem oneS_fam {o o' : Opn} {code : Nat} {s : List UInt8} (h : FamOk o.fams) (e : oneS o code s = some o') : FamOk o'.fams := by
  unfold oneS at e
  repeat' split at e
  all_goals first | (cases e; done) | (cases e; first | exact h | (simp only; exact withB_ok _ _))
theorem parB_fam : ∀ (n : Nat) (l : List UInt8) (st : PS), l.length ≤ n → FamOk st.o.fams → FamOk (parB st l).1.o.fams
  | n, [], st, _, hf => by rw [parB]; exact hf
  | n, [c], st, _, hf => by rw [parB]; exact hf
  | 0, c :: m :: l, st, h, _ => by simp at h
  | n + 1, c :: m :: l, st, h, hf => by
    rw [parB]
    by_cases hm : m.toNat ≤ l.length
    · rw [if_pos hm]
      cases he : oneS st.o c.toNat (l.take m.toNat) with
      | none => exact hf
      | some o' =>
        simp only
        by_cases h2 : c.toNat = 65 ∧ o'.asn = 0
        · rw [if_pos h2]; exact hf
        · rw [if_neg h2]
          exact parB_fam n _ (stepP st c.toNat (l.take m.toNat) o') (by simp at h ⊢; omega) (oneS_fam hf he)
    · rw [if_neg hm]; exact hf
theorem param_ev {h : H} {o : Opn} {f a k : V} (B : Begin h f a k) (hsf : Ints h.get f o.fams) {s : List UInt8} (hs : s.length < 256) {kk e : Nat} (hk : kk + room ≤ e) (hn : h.next ≤ kk) :
    ∃ f2 a2 k2 os, callEv Try.prog (.func (.func 65) [] []) [opnV o f a k, .str s] h.get kk e (.tup [opnV (parB ⟨o, false, false, false⟩ s).1.o f2 a2 k2, errV (parB ⟨o, false, false, false⟩ s).2]) (List.range h.next) os ∧ f2.one = true ∧ a2.one = true ∧ k2.one = true ∧ os.length ≤ 3 ∧
      ∀ H : H, Ge h H → kk + room ≤ H.next → (∀ i (hi : i < os.length), H.get (kk + i) = some os[i]) → Made H h.next (oneI (parB ⟨o, false, false, false⟩ s).1.o f a k (parB ⟨o, false, false, false⟩ s).1.tf (parB ⟨o, false, false, false⟩ s).1.ta (parB ⟨o, false, false, false⟩ s).1.tk) [f2, a2, k2] := by
  have hr : room = 16 := rfl
  obtain ⟨R, hR⟩ : ∃ R, R = parB ⟨o, false, false, false⟩ s := ⟨_, rfl⟩
  rw [← hR]
  have ev : callEv Try.prog (.func (.func 65) [] []) [opnV o f a k, .str s] h.get kk e (parMk R.1.o R.2 (canonV kk (oneI R.1.o f a k R.1.tf R.1.ta R.1.tk))) (List.range h.next) (canonO (oneI R.1.o f a k R.1.tf R.1.ta R.1.tk)) := by
    refine callEv_lists (h := h) (parMk_ren _ _) (parMk_ids _ _) (oneI_ok B.lf B.la B.lk _ _ _) (by simp [oneI, room]) hk hn (fun i _ => rfl) (fun h2 g => ?_)
    refine (?_ : Acalls Try.prog 65 [opnV o f a k, .str s] h2 _)
    refine Acalls.cl (rparameter_ct (Q := fun _ _ => True) B hsf hs fun _ _ _ _ _ _ _ => trivial).1 fun w2 _ => ?_
    refine rparameter_ct (B.ge g w2) (hsf.ge B.wf g) hs fun f' a' k' h3 g3 w3 L => ?_
    rw [← hR] at L ⊢
    exact ⟨g3, [f', a', k'], rfl, L.made, L.nodup⟩
  obtain ⟨f2, a2, k2, e3, y1, y2, y3, y4⟩ := canon3 kk R.1.o f a k R.1.tf R.1.ta R.1.tk B.of B.oa B.ok
  refine ⟨f2, a2, k2, _, by rw [e3] at ev; exact ev, y1, y2, y3, y4, fun H g hH hos => ?_⟩
  rw [← e3]
  exact canon_made _ kk (oneI_ok B.lf B.la B.lk _ _ _) hn (by omega) hos
end Go.Am

/-
  Contracts of the reference: Decode.
-/
namespace Go.Am
open Go.Proofs

set_option maxRecDepth 100000
/-- Three lists of an open, all made here. -/
structure Gl3 (h : H) (lo : Nat) (o : Opn) (f a k : V) : Prop where
  gf : Gl h lo 1 f (o.fams.map fun x => [.int .i64 x])
  ga : Gl h lo 3 a (o.adds.map addC)
  gk : Gl h lo 2 k (o.kept.map restC)
theorem Gl3.kept {h h' : H} {lo : Nat} {o : Opn} {f a k : V} (g : Gl3 h lo o f a k) (hn : h.next ≤ h'.next) (kp : ∀ j sz l, lo ≤ j → h.get j = some (.grow sz l) → h'.get j = h.get j) : Gl3 h' lo o f a k := ⟨g.gf.kept hn kp, g.ga.kept hn kp, g.gk.kept hn kp⟩
theorem Gl3.begin {h : H} {lo : Nat} {o : Opn} {f a k : V} (g : Gl3 h lo o f a k) (w : h.WF) : Begin h f a k := ⟨w, g.gf.one, g.ga.one, g.gk.one, g.gf.live, g.ga.live, g.gk.live⟩
theorem Gl3.next {h H : H} {lo : Nat} {o : Opn} {f a k f2 a2 k2 : V} (g : Gl3 h lo o f a k) (hlo : lo ≤ h.next) (w : h.WF) (gH : Ge h H) {s : List UInt8} {R : PS × Option Nat} (hR : R = parB ⟨o, false, false, false⟩ s) (m : Made H h.next (oneI R.1.o f a k R.1.tf R.1.ta R.1.tk) [f2, a2, k2]) : Gl3 H lo R.1.o f2 a2 k2 := by
  obtain ⟨m1, m2, m3⟩ := made3.1 m
  obtain ⟨s1, s2, s3⟩ := parB_same s.length s ⟨o, false, false, false⟩ (Nat.le_refl _)
  rw [← hR] at s1 s2 s3
  have gg := g.kept gH.1 fun j sz l _ e => gH.2 j (w.lt e)
  refine ⟨?_, ?_, ?_⟩
  · cases e : R.1.tf with
    | true => rw [if_pos e] at m1; exact m1.lower hlo
    | false => rw [if_neg (by simp [e])] at m1; rw [m1, (s1 e).2]; exact gg.gf
  · cases e : R.1.ta with
    | true => rw [if_pos e] at m2; exact m2.lower hlo
    | false => rw [if_neg (by simp [e])] at m2; rw [m2, (s2 e).2]; exact gg.ga
  · cases e : R.1.tk with
    | true => rw [if_pos e] at m3; exact m3.lower hlo
    | false => rw [if_neg (by simp [e])] at m3; rw [m3, (s3 e).2]; exact gg.gk
theorem val1 (x : UInt8) : val [x] = x.toNat := by simp [val]
theorem rdecode_ct {h : H} {s : List UInt8} {Q : V → H → Prop}
    (qe : ∀ e, decB s = .error e → ∀ h2, Ge h h2 → h2.WF → Q (.tup [zeroV, badV e]) h2)
    (qo : ∀ o, decB s = .ok o → ∀ f a k h2, Ge h h2 → h2.WF → DecAt h h2 o f a k → Q (.tup [opnV o f a k, fineV]) h2) : Acalls Try.prog 19 [.str s] h Q := by
  refine acalls_to Try.func19 S.Href10_Decode_code S.Href10_Decode_enter (Nat.le_of_ble_eq_true rfl) fun wf => ?_; simp only [S.Href10_Decode]
  simp
  obtain ⟨h1, hh1⟩ : ∃ h1, h1 = (h.push (.row [.int .u32 0, .int .i64 0, .int .u32 0, .nilsl, .bool false, .bool false, .nilsl, .bool false, .bool false, .int .i64 0, .nilsl])).push (.row [.int .i64 0, .int .u8 0, .int .u8 0]) := ⟨_, rfl⟩
  have n1 : h1.next = h.next + 2 := by rw [hh1]; rfl
  have g1 : Ge h h1 := by rw [hh1]; exact ((Ge.refl _).push _).push _
  have w1 : h1.WF := by rw [hh1]; exact (wf.push _).push _
  have x0 : h1.get h.next = some (.row [.int .u32 0, .int .i64 0, .int .u32 0, .nilsl, .bool false, .bool false, .nilsl, .bool false, .bool false, .int .i64 0, .nilsl]) := by rw [hh1]; simp
  have x1 : h1.get (h.next + 1) = some (.row [.int .i64 0, .int .u8 0, .int .u8 0]) := by rw [hh1]; simp
  rw [← hh1]
  have bad : ∀ (hb : H) (e : Nat), decB s = .error e → Ge h hb → hb.WF → h.next + 2 ≤ hb.next → Q (.tup [zeroV, badV e]) ((hb.set h.next (.row [.int .u32 0, .int .i64 0, .int .u32 0, .nilsl, .bool false, .bool false, .nilsl, .bool false, .bool false, .int .i64 0, .nilsl])).set (h.next + 1) (.row [.int .i64 3, .int .u8 2, .int .u8 (e : Nat)])) := fun hb e he gb wb nb =>
    qe e he _ ((gb.set (Nat.le_refl _) _).set (by omega) _) ((wb.set (by omega) _).set (by simp; omega) _)
  by_cases hlen : s.length < 10
  · have hd : decB s = .error 0 := by simp [decB, hlen]
    have := bad h1 0 hd g1 w1 (by omega)
    have hlen' : (s.length : Int) < 10 := by omega
    simp [hlen']
    refine rreset_ct (s := 0) _ ?_
    simp [x0, x1]
    exact this
  have hlen' : ¬ (s.length : Int) < 10 := by omega
  obtain ⟨v1, hv1⟩ : ∃ v, v = val ((s.drop 1).take 2) := ⟨_, rfl⟩
  obtain ⟨v2, hv2⟩ : ∃ v, v = val ((s.drop 3).take 2) := ⟨_, rfl⟩
  obtain ⟨v3, hv3⟩ : ∃ v, v = val ((s.drop 5).take 4) := ⟨_, rfl⟩
  have b1 : v1 < 65536 := by rw [hv1]; exact val_lt2 (by simp; omega)
  have b2 : v2 < 65536 := by rw [hv2]; exact val_lt2 (by simp; omega)
  have b3 : v3 < 4294967296 := by rw [hv3]; exact val_lt4 (by simp; omega)
  have d1 : (s.take 3).drop 1 = (s.drop 1).take 2 := by rw [List.drop_take]
  have d2 : (s.take 5).drop 3 = (s.drop 3).take 2 := by rw [List.drop_take]
  have d3 : (s.take 9).drop 5 = (s.drop 5).take 4 := by rw [List.drop_take]
  have i3 : (3 : Int) ≤ (s.length : Int) := by omega
  have i5 : (5 : Int) ≤ (s.length : Int) := by omega
  have i9 : (9 : Int) ≤ (s.length : Int) := by omega
  have j3 : 3 ≤ s.length := by omega
  have j5 : 5 ≤ s.length := by omega
  have j9 : 9 ≤ s.length := by omega
  simp [hlen']
  refine dreg_dwp ?_
  simp [i3, d1]
  refine dcall_at 2 (by rfl) (callEv_pure (h := h1) (v := .int .i64 (v1 : Nat)) rfl (by simp [room]) (by omega) (fun i hi => rfl) (fun h3 g3 => by rw [hv1, List.drop_one]; exact rvalue_ct (Nat.le_trans (List.length_take_le _ _) (by omega)))) ?_
  simp [i5, d2, u32_id (show v1 < 4294967296 by omega)]
  refine dcall_at 6 (by rfl) (callEv_pure (h := h1) (v := .int .i64 (v2 : Nat)) rfl (by simp [room]) (by omega) (fun i hi => rfl) (fun h3 g3 => by rw [hv2]; exact rvalue_ct (Nat.le_trans (List.length_take_le _ _) (by omega)))) ?_
  simp [i9, d3]
  refine dcall_at 9 (by rfl) (callEv_pure (h := h1) (v := .int .i64 (v3 : Nat)) rfl (by simp [room]) (by omega) (fun i hi => rfl) (fun h3 g3 => by rw [hv3]; exact rvalue_ct (Nat.le_trans (List.length_take_le _ _) (by omega)))) ?_
  simp [u32_id b3, upds_one]
  refine dwp_end (by simp [evAt, apart, I.foot, refOf]) ?_
  have hr : room = 16 := rfl
  obtain ⟨q4, hq4⟩ : ∃ q, q = h1.next + 12 * room := ⟨_, rfl⟩
  obtain ⟨o0, ho0⟩ : ∃ o0 : Opn, o0 = ⟨v1, v2, v3, [], false, false, [], false, false, 0, []⟩ := ⟨_, rfl⟩
  obtain ⟨H4, hH4⟩ : ∃ H4 : H, H4 = ⟨h1.next + 14 * room, upds (upds h1.get [(q4, .row [.int .u32 0, .int .i64 0, .int .u32 0, .nilsl, .bool false, .bool false, .nilsl, .bool false, .bool false, .int .i64 0, .nilsl])]) [(q4, .row [.int .u32 v1, .int .i64 v2, .int .u32 v3, .nilsl, .bool false, .bool false, .nilsl, .bool false, .bool false, .int .i64 0, .nilsl])]⟩ := ⟨_, rfl⟩
  have N4 : H4.next = h1.next + 14 * room := by rw [hH4]
  have x4 : H4.get q4 = some (.row [.int .u32 v1, .int .i64 v2, .int .u32 v3, .nilsl, .bool false, .bool false, .nilsl, .bool false, .bool false, .int .i64 0, .nilsl]) := by rw [hH4]; simp only; rw [upds_one, if_pos rfl]
  have m4 : ∀ i, i ≠ q4 → H4.get i = h1.get i := fun i h1 => by rw [hH4]; simp only; rw [upds_one, if_neg h1, upds_one, if_neg h1]
  have g4 : Ge h H4 := ⟨by omega, fun i hi => by rw [m4 i (by omega), g1.2 i hi]⟩
  have w4 : H4.WF := fun i hi => by rw [m4 i (by omega), w1 i (by omega)]
  have z0 := (m4 h.next (by omega)).trans x0
  have z1 := (m4 (h.next + 1) (by omega)).trans x1
  have c4 : cellsAt H4.get q4 11 = some [.int .u32 v1, .int .i64 v2, .int .u32 v3, .nilsl, .bool false, .bool false, .nilsl, .bool false, .bool false, .int .i64 0, .nilsl] := by rw [cellsAt_of x4 (by simp)]; rfl
  have x4' : H4.get q4 = some (.row (opnC o0 .nilsl .nilsl .nilsl)) := by rw [ho0]; exact x4
  rw [← hq4, ← hH4]
  have bad4 := fun e he => bad H4 e he g4 w4 (by omega)
  clear hH4
  -- the first bytes
  have k0 : 0 < s.length := by omega
  have k9 : 9 < s.length := by omega
  have t1e : s.take 1 = [s[0]] := by
    have := List.take_append_getElem k0
    simpa using this.symm
  have t9e : (s.drop 9).take 1 = [s[9]] := by
    rw [List.drop_eq_getElem_cons k9]; rfl
  obtain ⟨v0, hv0⟩ : ∃ v, v = (s[0]).toNat := ⟨_, rfl⟩
  obtain ⟨v9, hv9⟩ : ∃ v, v = (s[9]).toNat := ⟨_, rfl⟩
  have b0 : v0 < 256 := by rw [hv0]; exact (s[0]).toNat_lt
  have b9 : v9 < 256 := by rw [hv9]; exact (s[9]).toNat_lt
  have hd : decB s = (if v0 ≠ 4 then .error 1 else if v1 = 0 then .error 2 else if v2 = 1 ∨ v2 = 2 then .error 6 else if v3 = 0 then .error 3 else if (s.drop 10).length ≠ v9 then .error 0
      else match eachB step1 o0 (s.drop 10) with | .error e => .error e | .ok o => .ok (if o.fams.isEmpty then { o with fams := [1] } else o)) := by
    unfold decB
    rw [if_neg hlen, t1e, t9e, val1, val1, ← hv0, ← hv9, ← hv1, ← hv2, ← hv3, ← ho0]
    rfl
  have i0 : (0 : Int) < (s.length : Int) := by omega
  have i99 : (9 : Int) < (s.length : Int) := by omega
  simp [k0]
  rw [← hv0]
  cases q0 : ((v0 : Int) != 4) with
  | true =>
    have z : v0 ≠ 4 := by intro e; simp [e] at q0
    have := bad4 1 (by rw [hd, if_pos z])
    simp
    refine rreset_ct (s := 1) _ ?_
    simp [z0, z1]
    exact this
  | false =>
    have z : ¬ v0 ≠ 4 := by simp at q0; omega
    rw [if_neg z] at hd
    simp [c4]
    cases q1 : ((v1 : Int) == 0) with
    | true =>
      have z : v1 = 0 := by simp at q1; omega
      have := bad4 2 (by rw [hd, if_pos z])
      simp
      refine rreset_ct (s := 2) _ ?_
      simp [z0, z1]
      exact this
    | false =>
      have z : ¬ v1 = 0 := by intro e; simp [e] at q1
      rw [if_neg z] at hd
      simp [c4]
      have or2 : v2 = 1 ∨ v2 = 2 → decB s = .error 6 := fun h => by rw [hd, if_pos h]
      cases q2 : ((v2 : Int) == 1) with
      | true =>
        have z : v2 = 1 := by simp at q2; omega
        have := bad4 6 (or2 (.inl z))
        simp
        refine rreset_ct (s := 6) _ ?_
        simp [z0, z1]
        exact this
      | false =>
        have za : ¬ v2 = 1 := by intro e; simp [e] at q2
        simp [c4]
        cases q3 : ((v2 : Int) == 2) with
        | true =>
          have z : v2 = 2 := by simp at q3; omega
          have := bad4 6 (or2 (.inr z))
          simp
          refine rreset_ct (s := 6) _ ?_
          simp [z0, z1]
          exact this
        | false =>
          have zb : ¬ v2 = 2 := by intro e; simp [e] at q3
          rw [if_neg (by omega)] at hd
          simp [c4]
          cases q5 : ((v3 : Int) == 0) with
          | true =>
            have z : v3 = 0 := by simp at q5; omega
            have := bad4 3 (by rw [hd, if_pos z])
            simp
            refine rreset_ct (s := 3) _ ?_
            simp [z0, z1]
            exact this
          | false =>
            have z : ¬ v3 = 0 := by intro e; simp [e] at q5
            rw [if_neg z] at hd
            have w9 : IntKind.i64.wrap (v9 : Int) = (v9 : Int) := wrap_nat (by omega)
            have w10 : IntKind.i64.wrap (10 + (v9 : Int)) = 10 + (v9 : Int) := wrap_i64_id (by omega) (by omega)
            simp [k9]
            rw [← hv9]
            simp [w9, w10]
            cases q6 : ((s.length : Int) != 10 + (v9 : Int)) with
            | true =>
              have z : (s.drop 10).length ≠ v9 := by intro e; simp at e q6; omega
              have := bad4 0 (by rw [hd, if_pos z])
              simp
              refine rreset_ct (s := 0) _ ?_
              simp [z0, z1]
              exact this
            | false =>
              have z : ¬ (s.drop 10).length ≠ v9 := by simp at q6 ⊢; omega
              rw [if_neg z] at hd
              have i10 : (10 : Int) ≤ (s.length : Int) := by omega
              have j10 : 10 ≤ s.length := by omega
              have hsl : (s.drop 10).length < 256 := by omega
              simp [i10]
              have hfo : o0.fams = [] := by rw [ho0]
              have hao : o0.adds = [] := by rw [ho0]
              have hko : o0.kept = [] := by rw [ho0]
              have G0 : Gl3 H4 h.next o0 .nilsl .nilsl .nilsl := ⟨by rw [hfo]; exact Gl.nil _ _ _, by rw [hao]; exact Gl.nil _ _ _, by rw [hko]; exact Gl.nil _ _ _⟩
              refine loopA_of (fun n t h' => ∃ o l f a k, l.length = n ∧ l.length < 256 ∧ eachB step1 o0 (s.drop 10) = eachB step1 o l ∧ FamOk o.fams ∧ Gl3 h' h.next o f a k ∧ (t 0 = .str l ∧ t 2 = .ptr h.next 11 0 ∧ t 3 = .ptr (h.next + 1) 3 0 ∧ t 4 = .ptr q4 11 0) ∧ h'.get q4 = some (.row (opnC o f a k)) ∧
                h'.get h.next = some (.row [.int .u32 0, .int .i64 0, .int .u32 0, .nilsl, .bool false, .bool false, .nilsl, .bool false, .bool false, .int .i64 0, .nilsl]) ∧ h'.get (h.next + 1) = some (.row [.int .i64 0, .int .u8 0, .int .u8 0]) ∧ h'.WF ∧ Ge h h' ∧ H4.next ≤ h'.next) (n := (s.drop 10).length)
                ⟨o0, s.drop 10, .nilsl, .nilsl, .nilsl, rfl, hsl, rfl, by rw [hfo]; exact ⟨.nil, by simp⟩, G0, by simp, x4', z0, z1, w4, g4, Nat.le_refl _⟩ ?_
              clear x4 x4' c4 z0 z1 m4 bad4 G0
              rintro n t h2 ⟨o, l, f, a, k, hn, hl256, hev, hF, G, ⟨t0, t2, t3, t4⟩, x4, z0, z1, w2, g2, n2⟩ N hN
              rw [hev] at hd
              have bad2 := fun e he => bad h2 e he g2 w2 (by omega)
              have B := G.begin w2
              have vf := B.of
              have va := B.oa
              have vk := B.ok
              have c4 : cellsAt h2.get q4 11 = some (opnC o f a k) := by rw [cellsAt_of x4 (by simp [opnC])]; rfl
              have hq2 := w2.lt x4
              have kpt : ∀ H : H, (∀ j, j ≠ h.next → j ≠ h.next + 1 → j ≠ q4 → j < h2.next → H.get j = h2.get j) → ∀ j sz l, h.next ≤ j → h2.get j = some (.grow sz l) → H.get j = h2.get j := fun H hk j sz l hj e => by
                refine hk j ?_ ?_ ?_ (w2.lt e)
                · rintro rfl; rw [z0] at e; cases e
                · rintro rfl; rw [z1] at e; cases e
                · rintro rfl; rw [x4] at e; cases e
              match l, hn, hl256, hev, hd, t0 with
              | [], hn, hl256, hev, hd, t0 =>
                have he : eachB step1 o [] = .ok o := by rw [eachB]
                rw [he] at hd
                simp only [opnC] at x4 c4
                have r01 : ¬ q4 = h.next := by omega
                have r02 : ¬ q4 = h.next + 1 := by omega
                have hln : ∀ g : Nat → Option O, lenV 1 g f = some (.int .i64 ((o.fams.length : Nat) : Int)) := fun g => by
                  rcases G.gf with ⟨e, e2⟩ | ⟨_, j, _, _, e, _⟩
                  · have : o.fams = [] := by simpa using e
                    rw [e2, this]; rfl
                  · rw [e]; simp [lenV]
                cases hfe : o.fams with
                | nil =>
                  have hfn : f = .nilsl := by
                    rcases G.gf with ⟨_, e⟩ | ⟨e, _⟩
                    · exact e
                    · rw [hfe] at e; exact absurd rfl e
                  subst hfn
                  have hd' : decB s = .ok { o with fams := [1] } := by rw [hd]; simp only; rw [hfe]; rfl
                  have r5 : ¬ q4 = h2.next := by have := w2.lt x4; omega
                  have r6 : ¬ h.next = h2.next := by omega
                  have r7 : ¬ h.next + 1 = h2.next := by omega
                  have r8 : ¬ h.next = q4 := by omega
                  have r9 : ¬ h.next + 1 = q4 := by omega
                  simp [t0, t2, t3, t4, c4, x4, z0, z1, r5, r6, r7, r8, r9, va, vk, show (V.sl h2.next 1 0 1 (some 1)).solid = true from rfl, show (V.sl h2.next 1 0 1 (some 1)).one = true from rfl]
                  have gp : Ge h2 (h2.push (.row [.int .i64 1])) := (Ge.refl _).push _
                  have fk := fun (r1 r2 r3 : O) => kpt ((((h2.push (.row [.int .i64 1])).set q4 r1).set h.next r2).set (h.next + 1) r3) (fun j a b c d => by rw [H.get_set, if_neg b, H.get_set, if_neg a, H.get_set, if_neg c, H.get_push, if_neg (by omega)])
                  refine qo { o with fams := [1] } hd' (.sl h2.next 1 0 1 (some 1)) a k _ ((((g2.trans gp).set (by omega) _).set (Nat.le_refl _) _).set (by omega) _) ((((w2.push _).set (by simp; omega) _).set (by simp; omega) _).set (by simp; omega) _) ⟨.inr ⟨rfl, h2.next, by omega, by simp, rfl, ?_⟩, G.ga.kept (by simp) (fk _ _ _), G.gk.kept (by simp) (fk _ _ _)⟩
                  rw [H.get_set, if_neg (by omega), H.get_set, if_neg (by omega), H.get_set, if_neg (by omega), H.get_push, if_pos rfl]
                | cons f0 fl =>
                  have hne0 : (((o.fams.length : Nat) : Int) == 0) = false := by rw [hfe]; simp; omega
                  have hd' : decB s = .ok o := by rw [hd]; simp only; rw [hfe]; rfl
                  simp [t0, t2, t3, t4, c4, z0, z1, hln, hne0, vf, va, vk]
                  have fk := fun (r2 r3 : O) => kpt ((h2.set h.next r2).set (h.next + 1) r3) (fun j a b c d => by rw [H.get_set, if_neg b, H.get_set, if_neg a])
                  exact qo o hd' f a k _ ((g2.set (Nat.le_refl _) _).set (by omega) _) ((w2.set (by omega) _).set (by simp; omega) _) ⟨.inl (G.gf.kept (by simp) (fk _ _)), G.ga.kept (by simp) (fk _ _), G.gk.kept (by simp) (fk _ _)⟩
              | [c], hn, hl256, hev, hd, t0 =>
                have he : eachB step1 o [c] = .error 0 := by rw [eachB]
                rw [he] at hd
                have := bad2 0 hd
                simp [t0]
                refine rreset_ct (s := 0) _ ?_
                simp [t2, t3, z0, z1]
                exact this
              | c :: n :: l, hn, hl256, hev, hd, t0 =>
                have he : eachB step1 o (c :: n :: l) = if n.toNat ≤ l.length then (match step1 o c.toNat (l.take n.toNat) with | .ok st' => eachB step1 st' (l.drop n.toNat) | .error e => .error e) else .error 0 := by
                  rw [eachB]
                  split
                  · cases step1 o c.toNat (l.take n.toNat) <;> rfl
                  · rfl
                have hnl : n.toNat < 256 := n.toNat_lt
                have hcl : c.toNat < 256 := c.toNat_lt
                have wn : IntKind.i64.wrap (n.toNat : Int) = (n.toNat : Int) := wrap_nat (by omega)
                have w2n : IntKind.i64.wrap (2 + (n.toNat : Int)) = 2 + (n.toNat : Int) := wrap_i64_id (by omega) (by omega)
                have p1 : (0 : Int) < (l.length : Int) + 1 + 1 := by omega
                have p2 : ¬ (l.length : Int) + 1 + 1 < 2 := by omega
                have p3 : (1 : Int) < (l.length : Int) + 1 + 1 := by omega
                simp [t0, wn, w2n, p1, p2]
                by_cases hnn : n.toNat ≤ l.length
                · rw [if_pos hnn] at he
                  have p4 : ¬ (l.length : Int) + 1 + 1 < 2 + (n.toNat : Int) := by omega
                  simp [p4, t0]
                  cases hk2 : ((c.toNat : Int) != 2) with
                  | true =>
                    have hk : ¬ c.toNat = 2 := by intro e; simp [e] at hk2
                    have hst : step1 o c.toNat (l.take n.toNat) = .error 4 := by unfold step1; rw [if_neg hk]
                    rw [hst] at he
                    rw [he] at hd
                    have := bad2 4 hd
                    simp
                    refine rreset_ct (s := 4) _ ?_
                    simp [t2, t3, z0, z1]
                    exact this
                  | false =>
                    have hk : c.toNat = 2 := by simp at hk2; omega
                    have hst : step1 o c.toNat (l.take n.toNat) = eachB capS o (l.take n.toNat) := by unfold step1; rw [if_pos hk]
                    rw [hst] at he
                    have p5 : 2 + (n.toNat : Int) ≤ (l.length : Int) + 1 + 1 := by omega
                    have p6 : (2 + (n.toNat : Int)).toNat = n.toNat + 2 := by omega
                    have p7 : 2 ≤ 2 + (n.toNat : Int) := by omega
                    have p8 : 0 ≤ 2 + (n.toNat : Int) := by omega
                    have p9 : (2 : Int) ≤ (n.toNat : Int) + 2 := by omega
                    obtain ⟨s2, hs2⟩ : ∃ s2, s2 = l.take n.toNat := ⟨_, rfl⟩
                    have hs2l : s2.length < 256 := by rw [hs2]; simp; omega
                    simp only [opnC] at x4 c4
                    simp [t0, wn]
                    refine dreg_dwp ?_
                    simp [t0, t4, c4, w2n, p5, p6, p8, p9]
                    rw [← hs2] at he ⊢
                    obtain ⟨R, hR⟩ : ∃ R, R = parB ⟨o, false, false, false⟩ s2 := ⟨_, rfl⟩
                    obtain ⟨f2, a2, k2, os, ev, y1, y2, y3, y4, y5⟩ := param_ev B (famsInts G.gf (by have := hF.len; omega)) hs2l (kk := h2.next + 5 * room) (e := h2.next + 13 * room) (by simp [room]) (by omega)
                    have hRF : FamOk R.1.o.fams := by rw [hR]; exact parB_fam s2.length s2 ⟨o, false, false, false⟩ (Nat.le_refl _) hF
                    have hRe := parB_each s2.length s2 ⟨o, false, false, false⟩ (Nat.le_refl _)
                    rw [← hR] at ev y5 hRe
                    simp only at hRe
                    rw [hRe] at he
                    refine dcall_at 5 (by rfl) ev ?_
                    obtain ⟨get1, hget1⟩ : ∃ g, g = upds h2.get (names (h2.next + 5 * room) os) := ⟨_, rfl⟩
                    have m1 : ∀ i, get1 i = if h2.next + 5 * room ≤ i ∧ i < h2.next + 5 * room + os.length then os[i - (h2.next + 5 * room)]? else h2.get i := fun i => by rw [hget1]; exact names_get2
                    rw [← hget1]
                    have nm : ∀ x y, (x, y) ∈ names (h2.next + 5 * room) os → h2.next + 5 * room ≤ x ∧ x < h2.next + 8 * room := fun x y hx => by
                      have key : ∀ (os : List O) (k : Nat), (x, y) ∈ names k os → k ≤ x ∧ x < k + os.length := by
                        intro os
                        induction os with
                        | nil => intro k h; cases h
                        | cons a os ih =>
                          intro k h
                          simp only [names, List.mem_cons, Prod.mk.injEq] at h
                          rcases h with ⟨rfl, _⟩ | h
                          · simp
                          · have := ih (k + 1) h; simp; omega
                      have := key _ _ hx
                      omega
                    have r97 : ¬ 10 * room = 9 * room := by simp [room]
                    have r97' : ¬ 9 * room = 10 * room := by simp [room]
                    have mk : ∀ H : H, Ge h2 H → H.next = h2.next + 13 * room → (∀ i, i ≠ h2.next + 9 * room → i ≠ h2.next + 10 * room → H.get i = get1 i) → Gl3 H h.next R.1.o f2 a2 k2 := fun H gH nH mH => by
                      refine G.next (by omega) w2 gH hR (y5 H gH (by omega) (fun i hi => ?_))
                      rw [mH _ (by omega) (by omega), m1, if_pos (by omega), show h2.next + 5 * room + i - (h2.next + 5 * room) = i by omega, List.getElem?_eq_getElem hi]
                    have hp5 : ∀ ec : List V, ∃ H5 : H, H5 = ⟨h2.next + 13 * room, upds (upds (upds (upds get1 [(h2.next + 9 * room, .row [.int .u32 0, .int .i64 0, .int .u32 0, .nilsl, .bool false, .bool false, .nilsl, .bool false, .bool false, .int .i64 0, .nilsl])]) [(h2.next + 10 * room, .row [.int .i64 0, .int .u8 0, .int .u8 0])]) [(h2.next + 9 * room, .row (opnC R.1.o f2 a2 k2))]) [(h2.next + 10 * room, .row ec)]⟩ ∧ H5.next = h2.next + 13 * room ∧ H5.WF ∧ Ge h2 H5 ∧
                        H5.get (h2.next + 9 * room) = some (.row (opnC R.1.o f2 a2 k2)) ∧ H5.get (h2.next + 10 * room) = some (.row ec) ∧ Gl3 H5 h.next R.1.o f2 a2 k2 := fun ec => by
                      obtain ⟨H5, hH5⟩ : ∃ H5 : H, H5 = ⟨h2.next + 13 * room, upds (upds (upds (upds get1 [(h2.next + 9 * room, .row [.int .u32 0, .int .i64 0, .int .u32 0, .nilsl, .bool false, .bool false, .nilsl, .bool false, .bool false, .int .i64 0, .nilsl])]) [(h2.next + 10 * room, .row [.int .i64 0, .int .u8 0, .int .u8 0])]) [(h2.next + 9 * room, .row (opnC R.1.o f2 a2 k2))]) [(h2.next + 10 * room, .row ec)]⟩ := ⟨_, rfl⟩
                      have N5 : H5.next = h2.next + 13 * room := by rw [hH5]
                      have m5 : ∀ i, i ≠ h2.next + 9 * room → i ≠ h2.next + 10 * room → H5.get i = get1 i := fun i h1 h2 => by rw [hH5]; simp only; rw [upds_one, if_neg h2, upds_one, if_neg h1, upds_one, if_neg h2, upds_one, if_neg h1]
                      have g5 : Ge h2 H5 := ⟨by omega, fun i hi => by rw [m5 i (by omega) (by omega), m1, if_neg (by omega)]⟩
                      refine ⟨H5, hH5, N5, fun i hi => by rw [m5 i (by omega) (by omega), m1, if_neg (by omega), w2 i (by omega)], g5, ?_, ?_, mk H5 g5 N5 m5⟩
                      · rw [hH5]; simp only; rw [upds_one, if_neg (by omega), upds_one, if_pos rfl]
                      · rw [hH5]; simp only; rw [upds_one, if_pos rfl]
                    have r4a : ¬ h.next = h.next + 1 := by omega
                    cases hR2 : R.2 with
                    | some e =>
                      rw [hR2] at he
                      simp only at he
                      rw [he] at hd
                      simp [errV, badV, y1, y2, y3, upds_one, r97, r97']
                      refine dwp_end ?_ ?_
                      · intro q hq
                        simp only [List.mem_cons, List.not_mem_nil, or_false] at hq
                        rcases hq with rfl | rfl | rfl | rfl | rfl <;> simp [evAt, apart, I.foot, refOf, t4] <;> (try omega)
                        all_goals (try (intro x y hx; have := nm _ _ hx; omega))
                      obtain ⟨H5, hH5, N5, w5, g5, x6, x7, G5⟩ := hp5 [.int .i64 3, .int .u8 2, .int .u8 (e : Nat)]
                      have y0 := (g5.2 _ (by omega)).trans z0
                      have y1' := (g5.2 _ (by omega)).trans z1
                      simp only [opnC] at hH5 x6
                      have c7 : cellsAt H5.get (h2.next + 10 * room) 3 = some [.int .i64 3, .int .u8 2, .int .u8 (e : Nat)] := by rw [cellsAt_of x7 (by simp)]; rfl
                      rw [← hH5]
                      simp [c7]
                      refine dreg_dwp ?_
                      simp [t2, t3, c7, y0, y1', upds_one]
                      refine dwp_end ?_ ?_
                      · intro q hq
                        simp only [List.mem_cons, List.not_mem_nil, or_false] at hq
                        subst hq
                        simp [evAt, apart, I.foot, refOf, t2]
                        omega
                      simp [t2, t3]
                      refine qe e hd _ ⟨by simp; omega, fun j hj => ?_⟩ (fun j hj => ?_)
                      · simp only; rw [upds_one, if_neg (by omega), upds_one, if_neg (by omega), g5.2 j (by omega), g2.2 j hj]
                      · simp only at hj ⊢; rw [upds_one, if_neg (by omega), upds_one, if_neg (by omega), w5 j (by omega)]
                    | none =>
                      rw [hR2] at he
                      simp only at he
                      simp [errV, fineV, y1, y2, y3, upds_one, r97, r97']
                      refine dwp_end ?_ ?_
                      · intro q hq
                        simp only [List.mem_cons, List.not_mem_nil, or_false] at hq
                        rcases hq with rfl | rfl | rfl | rfl | rfl <;> simp [evAt, apart, I.foot, refOf, t4] <;> (try omega)
                        all_goals (try (intro x y hx; have := nm _ _ hx; omega))
                      obtain ⟨H5, hH5, N5, w5, g5, x6, x7, G5⟩ := hp5 [.int .i64 0, .int .u8 0, .int .u8 0]
                      have y0 := (g5.2 _ (by omega)).trans z0
                      have y1' := (g5.2 _ (by omega)).trans z1
                      have y4' := (g5.2 _ (by omega)).trans x4
                      have c6 : cellsAt H5.get (h2.next + 9 * room) 11 = some (opnC R.1.o f2 a2 k2) := by rw [cellsAt_of x6 (by simp [opnC])]; rfl
                      have c7 : cellsAt H5.get (h2.next + 10 * room) 3 = some [.int .i64 0, .int .u8 0, .int .u8 0] := by rw [cellsAt_of x7 (by simp)]; rfl
                      simp only [opnC] at hH5 x6 c6
                      rw [← hH5]
                      simp [c7, c6, t0, t4, y4', y1, y2, y3, w2n, p5, p6, p8]
                      have z := w2.lt x4
                      refine hN (l.drop n.toNat).length _ _ (by simp at hn ⊢; omega) ⟨R.1.o, l.drop n.toNat, f2, a2, k2, rfl, by simp at hl256 ⊢; omega, by rw [hev, he], hRF, G5.kept (by simp) (fun j sz l2 hj e => ?_), by simp [t2, t3, t4], by simp [opnC], ?_, ?_, w5.set (by omega) _, (g2.trans g5).set (by omega) _, by simp; omega⟩
                      · rw [H.get_set, if_neg]
                        rintro rfl
                        rw [y4'] at e; cases e
                      · rw [H.get_set, if_neg (by omega), y0]
                      · rw [H.get_set, if_neg (by omega), y1']
                · rw [if_neg hnn] at he
                  rw [he] at hd
                  have := bad2 0 hd
                  have p4 : (l.length : Int) + 1 + 1 < 2 + (n.toNat : Int) := by omega
                  simp [p4]
                  refine rreset_ct (s := 0) _ ?_
                  simp [t2, t3, z0, z1]
                  exact this
end Go.Am
