/-
  T0, MC, in one text.
-/
import Derived.Test.YtcokdbloajhapaaGreatDoorMA
import Derived.Test.YtcokdbloajhapaaGreatDoorAm35
import Derived.Test.YtcokdbloajhapaaGreatDoorMF
import Derived.Test.YtcokdbloajhapaaGreatDoorAm31
import Derived.Lib.Bytealg
/-
  The orders of prefixes and told prefixes: the plain law.
-/
namespace Go.Am

def cmpPf (a b : Pfx) : Int := orI (cmpI a.fam b.fam) (orI (cmpI a.rd b.rd) (orI (Go.Lib.compareBytes a.addr b.addr) (cmpI a.len b.len)))
def cmpNl (a b : Nl) : Int := orI (cmpPf a.p b.p) (orI (cmpI a.id b.id) (cmpI a.label b.label))
theorem ordr_pf : Ordr cmpPf :=
  (ordr_int.on Pfx.fam).or ((ordr_int.on fun p : Pfx => (p.rd : Int)).or ((ordr_cb.on Pfx.addr).or (ordr_int.on Pfx.len)))
theorem ordr_nl : Ordr cmpNl :=
  (ordr_pf.on Nl.p).or ((ordr_int.on fun n : Nl => (n.id : Int)).or (ordr_int.on fun n : Nl => (n.label : Int)))
theorem cmpPf_eq {a b : Pfx} (h : cmpPf a b = 0) : a = b := by
  simp only [cmpPf, orI_eq, cmpI_zero] at h
  obtain ⟨h1, h2, h3, h4⟩ := h
  cases a; cases b
  simp only at h1 h2 h3 h4
  simp only [Pfx.mk.injEq]
  exact ⟨h1, by omega, cb_eq _ _ h3, h4⟩
theorem cmpNl_eq {a b : Nl} (h : cmpNl a b = 0) : a = b := by
  simp only [cmpNl, orI_eq, cmpI_zero] at h
  obtain ⟨h1, h2, h3⟩ := h
  have := cmpPf_eq h1
  cases a; cases b
  simp only at this h2 h3
  simp only [Nl.mk.injEq]
  exact ⟨this, by omega, by omega⟩
end Go.Am

/-
  T1, T2, T3, in one text.
-/
namespace Go.Am
open Go.Proofs

set_option maxRecDepth 100000
theorem nan32_ct {h : H} {a : Int} : Pure Tryz.prog 62 [.int .u32 a] h (.bool false) := by
  refine pure_to Tryz.func62 S.cmp_isNaN_uint32_code S.cmp_isNaN_uint32_enter rfl (Nat.le_of_ble_eq_true rfl) fun wf => ?_; simp only [S.cmp_isNaN_uint32]
  simp
theorem nan64_ct {h : H} {a : Int} : Pure Tryz.prog 75 [.int .u64 a] h (.bool false) := by
  refine pure_to Tryz.func75 S.cmp_isNaN_uint64_code S.cmp_isNaN_uint64_enter rfl (Nat.le_of_ble_eq_true rfl) fun wf => ?_; simp only [S.cmp_isNaN_uint64]
  simp
theorem nani_ct {h : H} {a : Int} : Pure Tryz.prog 74 [.int .i64 a] h (.bool false) := by
  refine pure_to Tryz.func74 S.cmp_isNaN_int_code S.cmp_isNaN_int_enter rfl (Nat.le_of_ble_eq_true rfl) fun wf => ?_; simp only [S.cmp_isNaN_int]
  simp
theorem cmp32_ct {h : H} {a b : Int} : Pure Tryz.prog 29 [.int .u32 a, .int .u32 b] h (.int .i64 (cmpI a b)) := by
  refine pure_to Tryz.func29 S.cmp_Compare_uint32_code S.cmp_Compare_uint32_enter rfl (Nat.le_of_ble_eq_true rfl) fun wf => ?_; simp only [S.cmp_Compare_uint32]
  simp
  refine nan32_ct _ ?_
  simp
  refine nan32_ct _ ?_
  simp
  by_cases h1 : a < b
  · simp [h1, cmpI]
  · by_cases h2 : b < a <;> simp [h1, h2, cmpI]
theorem cmp64_ct {h : H} {a b : Int} : Pure Tryz.prog 58 [.int .u64 a, .int .u64 b] h (.int .i64 (cmpI a b)) := by
  refine pure_to Tryz.func58 S.cmp_Compare_uint64_code S.cmp_Compare_uint64_enter rfl (Nat.le_of_ble_eq_true rfl) fun wf => ?_; simp only [S.cmp_Compare_uint64]
  simp
  refine nan64_ct _ ?_
  simp
  refine nan64_ct _ ?_
  simp
  by_cases h1 : a < b
  · simp [h1, cmpI]
  · by_cases h2 : b < a <;> simp [h1, h2, cmpI]
theorem cmpi_ct {h : H} {a b : Int} : Pure Tryz.prog 56 [.int .i64 a, .int .i64 b] h (.int .i64 (cmpI a b)) := by
  refine pure_to Tryz.func56 S.cmp_Compare_int_code S.cmp_Compare_int_enter rfl (Nat.le_of_ble_eq_true rfl) fun wf => ?_; simp only [S.cmp_Compare_int]
  simp
  refine nani_ct _ ?_
  simp
  refine nani_ct _ ?_
  simp
  by_cases h1 : a < b
  · simp [h1, cmpI]
  · by_cases h2 : b < a <;> simp [h1, h2, cmpI]
theorem cmps_ct {h : H} {a b : List UInt8} : Pure Tryz.prog 60 [.str a, .str b] h (.int .i64 (Go.Lib.compareBytes a b)) := by
  refine pure_to Tryz.func60 S.strings_Compare_code S.strings_Compare_enter rfl (Nat.le_of_ble_eq_true rfl) fun wf => ?_; simp only [S.strings_Compare]
  simp
  refine acalls_to Tryz.func76 S.internal_bytealg_CompareString_code S.internal_bytealg_CompareString_enter (Nat.le_of_ble_eq_true rfl) fun wf => ?_
  simp only [S.internal_bytealg_CompareString]
  simp
def P4 (f r : Int) (s : List UInt8) (l : Int) : List V := [.int .i64 f, .int .u64 r, .str s, .int .i64 l]
theorem o1_ct {h : H} {f r l f' r' l' : Int} {s s' : List UInt8} : Pure Tryz.prog 55 [.agg (P4 f r s l), .agg (P4 f' r' s' l')] h (.int .i64 (cmpI f f')) := by
  refine pure_to Tryz.func55 S.prim_Cmp_1_code S.prim_Cmp_1_enter rfl (Nat.le_of_ble_eq_true rfl) fun wf => ?_; simp only [S.prim_Cmp_1]
  simp [P4]
  refine cmpi_ct _ ?_
  simp
theorem o2_ct {h : H} {f r l f' r' l' : Int} {s s' : List UInt8} : Pure Tryz.prog 57 [.agg (P4 f r s l), .agg (P4 f' r' s' l')] h (.int .i64 (cmpI r r')) := by
  refine pure_to Tryz.func57 S.prim_Cmp_2_code S.prim_Cmp_2_enter rfl (Nat.le_of_ble_eq_true rfl) fun wf => ?_; simp only [S.prim_Cmp_2]
  simp [P4]
  refine cmp64_ct _ ?_
  simp
theorem o3_ct {h : H} {f r l f' r' l' : Int} {s s' : List UInt8} : Pure Tryz.prog 59 [.agg (P4 f r s l), .agg (P4 f' r' s' l')] h (.int .i64 (Go.Lib.compareBytes s s')) := by
  refine pure_to Tryz.func59 S.prim_Cmp_3_code S.prim_Cmp_3_enter rfl (Nat.le_of_ble_eq_true rfl) fun wf => ?_; simp only [S.prim_Cmp_3]
  simp [P4]
  refine cmps_ct _ ?_
  simp
theorem o4_ct {h : H} {f r l f' r' l' : Int} {s s' : List UInt8} : Pure Tryz.prog 61 [.agg (P4 f r s l), .agg (P4 f' r' s' l')] h (.int .i64 (cmpI l l')) := by
  refine pure_to Tryz.func61 S.prim_Cmp_4_code S.prim_Cmp_4_enter rfl (Nat.le_of_ble_eq_true rfl) fun wf => ?_; simp only [S.prim_Cmp_4]
  simp [P4]
  refine cmpi_ct _ ?_
  simp
def cmp4 (f r l f' r' l' : Int) (s s' : List UInt8) : Int := orI (cmpI f f') (orI (cmpI r r') (orI (Go.Lib.compareBytes s s') (cmpI l l')))
def fns4 : List V := [.func (.func 55) [] [], .func (.func 57) [] [], .func (.func 59) [] [], .func (.func 61) [] []]
theorem first_ct {h : H} {q : Nat} (hq : h.get q = some (.row fns4)) {f r l f' r' l' : Int} {s s' : List UInt8} : Pure Tryz.prog 54 [.agg (P4 f r s l), .agg (P4 f' r' s' l'), .sl q 4 0 4 (some 4)] h (.int .i64 (cmp4 f r l f' r' l' s s')) := by
  refine pure_to Tryz.func54 S.prim_first_code S.prim_first_enter rfl (Nat.le_of_ble_eq_true rfl) fun wf => ?_; simp only [S.prim_first]
  have hlt := wf.lt hq
  obtain ⟨h2, hh2⟩ : ∃ h2, h2 = (h.push (.row (P4 f r s l))).push (.row (P4 f' r' s' l')) := ⟨_, rfl⟩
  have g2 : Ge h h2 := by rw [hh2]; exact ((Ge.refl _).push _).push _
  have w2 : h2.WF := by rw [hh2]; exact (wf.push _).push _
  have c1 : cellsAt h2.get h.next 4 = some (P4 f r s l) := by rw [hh2]; simp [P4]
  have c2 : cellsAt h2.get (h.next + 1) 4 = some (P4 f' r' s' l') := by rw [hh2]; simp [P4]
  have c3 : cellsAt h2.get q 4 = some fns4 := by rw [cellsAt_of (g2.keeps wf _ _ hq) (by rfl)]; rfl
  simp only [P4] at hh2 c1 c2
  simp [P4]
  rw [← hh2]
  refine loop_up (fun i t h' => (t 3 = .ptr h.next 4 0 ∧ t 4 = .ptr (h.next + 1) 4 0 ∧ t 10 = .sl q 4 0 4 (some 4) ∧ t 11 = .int .i64 4 ∧ t 12 = .int .i64 (i : Nat)) ∧ h' = h2 ∧ (0 < i → cmpI f f' = 0) ∧ (1 < i → cmpI r r' = 0) ∧ (2 < i → Go.Lib.compareBytes s s' = 0) ∧ (3 < i → cmpI l l' = 0)) 4 ⟨by simp, rfl, by omega, by omega, by omega, by omega⟩ ?_
  rintro i t h' hi ⟨⟨t3, t4, t10, t11, t12⟩, rfl, k1, k2, k3, k4⟩ K hK
  have w1 : IntKind.i64.wrap 1 = 1 := by decide
  have w2' : IntKind.i64.wrap 2 = 2 := by decide
  have w3 : IntKind.i64.wrap 3 = 3 := by decide
  have w4 : IntKind.i64.wrap 4 = 4 := by decide
  rcases (by omega : i = 0 ∨ i = 1 ∨ i = 2 ∨ i = 3 ∨ i = 4) with rfl | rfl | rfl | rfl | rfl
  · simp [t3, t4, t10, t11, t12, c1, c2, c3, fns4]
    refine o1_ct (l := l) (l' := l') _ ?_
    by_cases hz : cmpI f f' = 0
    · simp [hz, t12, w1]
      exact hK _ _ (by omega) ⟨by simp [t3, t4, t10, t11], rfl, fun _ => hz, by omega, by omega, by omega⟩
    · have hb : (cmpI f f' != 0) = true := by simpa using hz
      simp [hb, hz, cmp4, orI_nz]
      exact g2
  · simp [t3, t4, t10, t11, t12, c1, c2, c3, fns4]
    refine o2_ct (l := l) (l' := l') _ ?_
    have z1 := k1 (by omega)
    by_cases hz : cmpI r r' = 0
    · simp [hz, t12, w2']
      exact hK _ _ (by omega) ⟨by simp [t3, t4, t10, t11], rfl, fun _ => z1, fun _ => hz, by omega, by omega⟩
    · have hb : (cmpI r r' != 0) = true := by simpa using hz
      simp [hb, hz, cmp4, z1, orI_zero, orI_nz]
      exact g2
  · simp [t3, t4, t10, t11, t12, c1, c2, c3, fns4]
    refine o3_ct (l := l) (l' := l') _ ?_
    have z1 := k1 (by omega)
    have z2 := k2 (by omega)
    by_cases hz : Go.Lib.compareBytes s s' = 0
    · simp [hz, t12, w3]
      exact hK _ _ (by omega) ⟨by simp [t3, t4, t10, t11], rfl, fun _ => z1, fun _ => z2, fun _ => hz, by omega⟩
    · have hb : (Go.Lib.compareBytes s s' != 0) = true := by simpa using hz
      simp [hb, hz, cmp4, z1, z2, orI_zero, orI_nz]
      exact g2
  · simp [t3, t4, t10, t11, t12, c1, c2, c3, fns4]
    refine o4_ct (l := l) (l' := l') _ ?_
    have z1 := k1 (by omega)
    have z2 := k2 (by omega)
    have z3 := k3 (by omega)
    by_cases hz : cmpI l l' = 0
    · simp [hz, t12, w4]
      exact hK _ _ (by omega) ⟨by simp [t3, t4, t10, t11], rfl, fun _ => z1, fun _ => z2, fun _ => z3, fun _ => hz⟩
    · have hb : (cmpI l l' != 0) = true := by simpa using hz
      simp [hb, cmp4, z1, z2, z3, orI_zero]
      exact g2
  · have z1 := k1 (by omega)
    have z2 := k2 (by omega)
    have z3 := k3 (by omega)
    have z4 := k4 (by omega)
    simp [t11, t12, cmp4, z1, z2, z3, z4, orI_zero]
    exact g2
theorem pcmp4_ct {h : H} {f r l f' r' l' : Int} {s s' : List UInt8} : Pure Tryz.prog 28 [.agg (P4 f r s l), .agg (P4 f' r' s' l')] h (.int .i64 (cmp4 f r l f' r' l' s s')) := by
  refine pure_to Tryz.func28 S.prim_Cmp_code S.prim_Cmp_enter rfl (Nat.le_of_ble_eq_true rfl) fun wf => ?_; simp only [S.prim_Cmp]
  have cf : ∀ f a b, (V.func f a b).cells = [.func f a b] := fun _ _ _ => rfl
  have r4 : repCells 4 [V.nilfunc] = [.nilfunc, .nilfunc, .nilfunc, .nilfunc] := rfl
  simp only [P4]
  simp [cf, r4]
  refine first_ct (q := h.next + 2) (f := f) (r := r) (s := s) (l := l) (f' := f') (r' := r') (s' := s') (l' := l') (by simp [fns4]) _ ?_
  simp
  exact (((Ge.refl _).push _).push _).push _
theorem pcmp_ct {h : H} {a b : Pfx} : Pure Tryz.prog 28 [.agg (pfxC a), .agg (pfxC b)] h (.int .i64 (cmpPf a b)) := pcmp4_ct
theorem bq (x y : Int) : (x == y) = decide (x = y) := by by_cases h : x = y <;> simp [h]
theorem eqFs_cons {off sz : Nat} {agg : Bool} {ts : TS} {fs : List (Nat × Nat × Bool × TS)} {xs ys : List V} {x y : V} {b : Bool} (hx : partV agg off sz xs = some x) (hy : partV agg off sz ys = some y) (hb : eqV ts x y = some b) :
    eqFs ((off, sz, agg, ts) :: fs) xs ys = if b = true then eqFs fs xs ys else some false := by
  simp only [eqFs, hx, hy, hb]
  cases b <;> rfl
theorem eqV_int (k : IntKind) (a b : Int) : eqV .int (.int k a) (.int k b) = some (decide (a = b)) := by simp [eqV, bq]
theorem eqV_nat (k : IntKind) (a b : Nat) : eqV .int (.int k (a : Int)) (.int k (b : Int)) = some (decide (a = b)) := by
  rw [eqV_int]
  by_cases h : a = b
  · simp [h]
  · have : ¬ (a : Int) = b := by omega
    simp [h, this]
theorem eqV_s (a b : List UInt8) : eqV .str (.str a) (.str b) = some (decide (a = b)) := by
  rw [eqV_str]
  by_cases h : a = b <;> simp [h]
theorem ifs (a b : Bool) : (if a = true then some b else some false) = some (a && b) := by cases a <;> rfl
theorem eq_pf (a b : Pfx) : eqV (TS.st [(0, 1, false, TS.int), (1, 1, false, TS.int), (2, 1, false, TS.str), (3, 1, false, TS.int)]) (.agg (pfxC a)) (.agg (pfxC b)) = some (decide (a = b)) := by
  show eqFs _ _ _ = _
  rw [eqFs_cons rfl rfl (eqV_int _ _ _), eqFs_cons rfl rfl (eqV_nat _ _ _), eqFs_cons rfl rfl (eqV_s _ _), eqFs_cons rfl rfl (eqV_int _ _ _), show eqFs [] (pfxC a) (pfxC b) = some true from rfl]
  simp only [ifs]
  obtain ⟨f, r, s, l⟩ := a
  obtain ⟨f', r', s', l'⟩ := b
  simp only [Pfx.mk.injEq, Bool.and_true, Bool.decide_and]
/-- A told prefix's cells, compared. -/
theorem eq_nl (a b : Nl) : eqV (TS.st [(0, 4, true, (TS.st [(0, 1, false, TS.int), (1, 1, false, TS.int), (2, 1, false, TS.str), (3, 1, false, TS.int)])), (4, 1, false, TS.int), (5, 1, false, TS.int)]) (.agg (nlC a)) (.agg (nlC b)) = some (decide (a = b)) := by
  show eqFs _ _ _ = _
  rw [eqFs_cons (x := .agg (pfxC a.p)) (y := .agg (pfxC b.p)) rfl rfl (eq_pf _ _), eqFs_cons rfl rfl (eqV_nat _ _ _), eqFs_cons rfl rfl (eqV_nat _ _ _), show eqFs [] (nlC a) (nlC b) = some true from rfl]
  simp only [ifs]
  obtain ⟨p, i, c⟩ := a
  obtain ⟨p', i', c'⟩ := b
  simp only [Nl.mk.injEq, Bool.and_true, Bool.decide_and]
theorem or3_ct {h : H} {q : Nat} {a b c : Int} (hq : h.get q = some (.row [.int .i64 a, .int .i64 b, .int .i64 c])) : Pure Tryz.prog 27 [.sl q 3 0 3 (some 3)] h (.int .i64 (orI a (orI b c))) := by
  refine pure_to Tryz.func27 S.cmp_Or_int_code S.cmp_Or_int_enter rfl (Nat.le_of_ble_eq_true rfl) fun wf => ?_; simp only [S.cmp_Or_int]
  have c1 : cellsAt h.get q 3 = some [.int .i64 a, .int .i64 b, .int .i64 c] := by rw [cellsAt_of hq (by rfl)]; rfl
  simp
  refine loop_up (fun i t h' => (t 3 = .int .i64 0 ∧ t 6 = .sl q 3 0 3 (some 3) ∧ t 7 = .int .i64 3 ∧ t 8 = .int .i64 (i : Nat)) ∧ h' = h ∧ (0 < i → a = 0) ∧ (1 < i → b = 0) ∧ (2 < i → c = 0)) 3 ⟨by simp, rfl, by omega, by omega, by omega⟩ ?_
  rintro i t h' hi ⟨⟨t3, t6, t7, t8⟩, rfl, k1, k2, k3⟩ K hK
  have w1 : IntKind.i64.wrap 1 = 1 := by decide
  have w2 : IntKind.i64.wrap 2 = 2 := by decide
  have w3 : IntKind.i64.wrap 3 = 3 := by decide
  rcases (by omega : i = 0 ∨ i = 1 ∨ i = 2 ∨ i = 3) with rfl | rfl | rfl | rfl
  · by_cases hz : a = 0
    · simp [t3, t6, t7, t8, c1, hz, w1]
      exact hK _ _ (by omega) ⟨by simp [t3, t6, t7], rfl, fun _ => hz, by omega, by omega⟩
    · have hb : (a != 0) = true := by simpa using hz
      simp [t3, t6, t7, t8, c1, hb, orI_nz hz]
  · have z1 := k1 (by omega)
    by_cases hz : b = 0
    · simp [t3, t6, t7, t8, c1, hz, w2]
      exact hK _ _ (by omega) ⟨by simp [t3, t6, t7], rfl, fun _ => z1, fun _ => hz, by omega⟩
    · have hb : (b != 0) = true := by simpa using hz
      simp [t3, t6, t7, t8, c1, hb, z1, orI_zero, orI_nz hz]
  · have z1 := k1 (by omega)
    have z2 := k2 (by omega)
    by_cases hz : c = 0
    · simp [t3, t6, t7, t8, c1, hz, w3]
      exact hK _ _ (by omega) ⟨by simp [t3, t6, t7], rfl, fun _ => z1, fun _ => z2, fun _ => hz⟩
    · have hb : (c != 0) = true := by simpa using hz
      simp [t3, t6, t7, t8, c1, hb, z1, z2, orI_zero]
  · have z1 := k1 (by omega)
    have z2 := k2 (by omega)
    have z3 := k3 (by omega)
    simp [t3, t7, t8, z1, z2, z3, orI_zero]
def pcmpP : List V → Option V
  | [.agg [.int .i64 f, .int .u64 r, .str s, .int .i64 l], .agg [.int .i64 f', .int .u64 r', .str s', .int .i64 l']] => some (.int .i64 (cmp4 f r l f' r' l' s s'))
  | _ => none
def cmp32P : List V → Option V
  | [.int .u32 a, .int .u32 b] => some (.int .i64 (cmpI a b))
  | _ => none
theorem cmpP_ok : ∀ p ∈ [(28, pcmpP), (29, cmp32P)], ∀ vals v, p.2 vals = some v → ∀ h, Acalls Tryz.prog p.1 vals h fun u h' => u = v ∧ h' = h := by
  intro p hp vals v e h
  simp only [List.mem_cons, List.not_mem_nil, or_false] at hp
  rcases hp with rfl | rfl
  · simp only [pcmpP] at e
    split at e
    · cases e; exact pcmp4_ct _ ⟨rfl, rfl⟩
    · cases e
  · simp only [cmp32P] at e
    split at e
    · cases e; exact cmp32_ct _ ⟨rfl, rfl⟩
    · cases e
theorem ncmp_ct {h : H} {a b : Nl} : Pure Tryz.prog 10 [.agg (nlC a), .agg (nlC b)] h (.int .i64 (cmpNl a b)) := by
  refine pure_to Tryz.func10 S.nlri_Cmp_code S.nlri_Cmp_enter rfl (Nat.le_of_ble_eq_true rfl) fun wf => ?_; simp only [S.nlri_Cmp]
  have e := eq_nl a b
  obtain ⟨h2, hh2⟩ : ∃ h2, h2 = (h.push (.row (nlC a))).push (.row (nlC b)) := ⟨_, rfl⟩
  have g2 : Ge h h2 := by rw [hh2]; exact ((Ge.refl _).push _).push _
  have c1 : cellsAt h2.get h.next 6 = some (nlC a) := by rw [hh2]; simp [nlC]
  have c2 : cellsAt h2.get (h.next + 1) 6 = some (nlC b) := by rw [hh2]; simp [nlC]
  have n2 : h2.next = h.next + 2 := by rw [hh2]; simp
  simp only [nlC] at e hh2 c1 c2 ⊢
  simp [e]
  by_cases hab : a = b
  · subst hab
    simp [ordr_nl.self a]
  · simp [hab]
    rw [← hh2]
    have r3 : repCells 3 [V.int .i64 0] = [.int .i64 0, .int .i64 0, .int .i64 0] := rfl
    refine dreg_plain _ cmpP_ok (by rfl) ?_
    simp [List.lookup, c1, c2, r3, pcmpP, cmp32P]
    refine scall_of (or3_ct (q := h2.next) (a := cmp4 a.p.fam a.p.rd a.p.len b.p.fam b.p.rd b.p.len a.p.addr b.p.addr) (b := cmpI a.id b.id) (c := cmpI a.label b.label) (by simp)) ?_
    simp [cmpNl, cmpPf, cmp4]
    exact g2.push _
end Go.Am

/-
  The reference's contracts: families, bits, what may be, orders.
-/
namespace Go.Am
open Go.Proofs

set_option maxRecDepth 100000
theorem rsize_ct {h : H} {fam : Int} : Pure Tryz.prog 36 [.int .i64 fam] h (.int .i64 (sizeN fam : Nat)) := by
  refine pure_to Tryz.func36 S.Href01_Size_code S.Href01_Size_enter rfl (Nat.le_of_ble_eq_true rfl) fun wf => ?_; simp only [S.Href01_Size]
  by_cases e1 : fam = 1
  · subst e1; simp [sizeN]
  by_cases e3 : fam = 3
  · subst e3; simp [sizeN]
  by_cases e4 : fam = 4
  · subst e4; simp [sizeN]
  by_cases e2 : fam = 2
  · subst e2; simp [sizeN]
  by_cases e5 : fam = 5
  · subst e5; simp [sizeN]
  simp [sizeN, beq_no e1, beq_no e3, beq_no e4, beq_no e2, beq_no e5, e1, e2, e3, e4, e5]
theorem rapart_ct {h : H} {fam : Int} : Pure Tryz.prog 51 [.int .i64 fam] h (.bool (apartF fam)) := by
  refine pure_to Tryz.func51 S.Href01_Apart_code S.Href01_Apart_enter rfl (Nat.le_of_ble_eq_true rfl) fun wf => ?_; simp only [S.Href01_Apart]
  simp
  unfold apartF
  cases fam == 4 <;> simp
theorem label_apart {fam : Int} (h : ¬ fam = 3) : labelF fam = apartF fam := by
  unfold labelF apartF
  rw [Bool.eq_iff_iff]; simp; omega
theorem rlabel_ct {h : H} {fam : Int} : Pure Tryz.prog 48 [.int .i64 fam] h (.bool (labelF fam)) := by
  refine pure_to Tryz.func48 S.Href01_Labelled_code S.Href01_Labelled_enter rfl (Nat.le_of_ble_eq_true rfl) fun wf => ?_; simp only [S.Href01_Labelled]
  by_cases e3 : fam = 3
  · subst e3; simp; rfl
  · simp [beq_no e3]
    refine rapart_ct _ ?_
    simp [label_apart e3]
theorem rahead_ct {h : H} {fam : Int} : Pure Tryz.prog 50 [.int .i64 fam] h (.int .i64 (aheadN fam : Nat)) := by
  refine pure_to Tryz.func50 S.Href07_ahead_code S.Href07_ahead_enter rfl (Nat.le_of_ble_eq_true rfl) fun wf => ?_; simp only [S.Href07_ahead]
  have w2 : IntKind.i64.wrap 64 = 64 := by decide
  have w3 : IntKind.i64.wrap (24 + 64) = 88 := by decide
  simp
  refine rlabel_ct _ ?_
  unfold aheadN
  cases labelF fam with
  | true =>
    simp
    refine rapart_ct _ ?_
    cases apartF fam <;> simp
    decide
  | false =>
    simp
    refine rapart_ct _ ?_
    cases apartF fam <;> simp [w2]
theorem rem8 {n : Nat} (h : n < 1000000000) : intV .rem .i64 (n : Int) 8 = some (.int .i64 ((n % 8 : Nat) : Int)) := by
  show (if (8 : Int) = 0 then none else some (V.int .i64 ((n : Int).tmod 8))) = _
  rw [if_neg (by decide), Int.tmod_eq_emod_of_nonneg (by omega)]; rfl
theorem shr_u8 : ∀ b : Nat, b < 256 → ∀ k : Nat, k < 8 → ((b : Int).fdiv (2 ^ min k IntKind.u8.bits)) = ((b / 2 ^ k : Nat) : Int) := by decide +kernel
theorem and1 (n : Nat) (h : n < 256) : intV .and .i64 (n : Int) 1 = some (.int .i64 ((n % 2 : Nat) : Int)) := by
  have : ∀ n : Nat, n < 256 → IntKind.i64.wrap ((BitVec.ofInt 64 (n : Int) &&& BitVec.ofInt 64 1).toNat : Int) = ((n % 2 : Nat) : Int) := by decide +kernel
  show some (V.int .i64 (IntKind.i64.wrap ((BitVec.ofInt 64 (n : Int) &&& BitVec.ofInt 64 1).toNat : Int))) = _
  rw [this n h]
theorem rbit_ct {h : H} {l : List UInt8} {n : Nat} (hn : n < 1000000) : Pure Tryz.prog 73 [.str l, .int .i64 (n : Nat)] h (.int .i64 (bitN l n : Nat)) := by
  refine pure_to Tryz.func73 S.Href01_Bit_code S.Href01_Bit_enter rfl (Nat.le_of_ble_eq_true rfl) fun wf => ?_; simp only [S.Href01_Bit]
  have q : intV .quo .i64 (n : Int) 8 = some (.int .i64 ((n / 8 : Nat) : Int)) := by
    rw [quo8 (z := (n : Int)) (by omega) (by omega)]; congr 2
  have r := rem8 (n := n) (by omega)
  obtain ⟨b, hb⟩ : ∃ b, b = bitN l n := ⟨_, rfl⟩
  rw [← hb]
  unfold bitN at hb
  have k8 : n % 8 < 8 := Nat.mod_lt _ (by omega)
  generalize n / 8 = m at q hb
  generalize n % 8 = k at r hb k8
  have n0 : ¬ ((n : Nat) : Int) < 0 := by omega
  have w7 : IntKind.i64.wrap (7 - (k : Int)) = ((7 - k : Nat) : Int) := by rw [wrap_i64_id (by omega) (by omega)]; omega
  by_cases hl : m < l.length
  · have hg : l[m]? = some l[m] := List.getElem?_eq_getElem hl
    have hx : (l[m]).toNat < 256 := (l[m]).toNat_lt
    generalize l[m] = x at hg hx
    rw [hg] at hb
    have hc : ¬ l.length ≤ m := by omega
    have e1 : IntKind.u64.wrap ((7 - k : Nat) : Int) = ((7 - k : Nat) : Int) := u64_id (by omega)
    have sh : shiftV .shr .u8 (x.toNat : Int) ((7 - k : Nat) : Int) = some (.int .u8 ((x.toNat / 2 ^ (7 - k) : Nat) : Int)) := by
      unfold shiftV
      rw [if_neg (by omega)]
      simp only [Int.toNat_natCast]
      rw [shr_u8 _ hx _ (by omega)]
    have hq : x.toNat / 2 ^ (7 - k) < 256 := Nat.lt_of_le_of_lt (Nat.div_le_self _ _) hx
    simp only at hb
    generalize x.toNat / 2 ^ (7 - k) = y at sh hq hb
    generalize 7 - k = z at w7 e1 sh
    have w8 : IntKind.i64.wrap (y : Int) = (y : Int) := wrap_i64_id (by omega) (by omega)
    have a1 := and1 y hq
    rw [← hb] at a1
    simp [n0, q, r, hc, w7, hg, e1, sh, w8, a1]
  · have hc : l.length ≤ m := by omega
    have hg : l[m]? = none := List.getElem?_eq_none (by omega)
    rw [hg] at hb
    subst hb
    simp [n0, q, hc]
theorem rorder_ct {h : H} {a b : Int} : Pure Tryz.prog 63 [.int .i64 a, .int .i64 b] h (.int .i64 (cmpI a b)) := by
  refine pure_to Tryz.func63 S.Href01_order_code S.Href01_order_enter rfl (Nat.le_of_ble_eq_true rfl) fun wf => ?_; simp only [S.Href01_order]
  by_cases h1 : a < b
  · simp [h1, cmpI]
  · by_cases h2 : b < a <;> simp [h1, h2, cmpI]
theorem rorder7_ct {h : H} {a b : Int} : Pure Tryz.prog 31 [.int .u32 a, .int .u32 b] h (.int .i64 (cmpI a b)) := by
  refine pure_to Tryz.func31 S.Href07_order_code S.Href07_order_enter rfl (Nat.le_of_ble_eq_true rfl) fun wf => ?_; simp only [S.Href07_order]
  by_cases h1 : a < b
  · simp [h1, cmpI]
  · by_cases h2 : b < a <;> simp [h1, h2, cmpI]
end Go.Am

/-
  The reference's contracts: what may be.
-/
namespace Go.Am
open Go.Proofs

set_option maxRecDepth 100000
theorem rmay_ct {h : H} {p : Pfx} : Pure Tryz.prog 47 [.agg (pfxC p)] h (.bool (mayP p)) := by
  refine pure_to Tryz.func47 S.Href01_May_code S.Href01_May_enter rfl (Nat.le_of_ble_eq_true rfl) fun wf => ?_; simp only [S.Href01_May]
  have sl := size_le p.fam
  obtain ⟨h1, hh1⟩ : ∃ h1, h1 = h.push (.row (pfxC p)) := ⟨_, rfl⟩
  have g1 : Ge h h1 := by rw [hh1]; exact (Ge.refl _).push _
  have c1 : cellsAt h1.get h.next 4 = some (pfxC p) := by rw [hh1, cellsAt_of (by simp; rfl) (by simp [pfxC])]; rfl
  simp only [pfxC] at hh1 c1 ⊢
  simp
  rw [← hh1]
  refine rsize_ct _ ?_
  have hm : mayP p = (decide (sizeN p.fam ≠ 0) && decide (p.addr.length = sizeN p.fam) && decide (0 ≤ p.len) && decide (p.len ≤ 8 * (sizeN p.fam : Int)) && (decide (p.rd = 0) || apartF p.fam) && decide (maskL p.addr p.len = p.addr)) := rfl
  obtain ⟨sz, hsz⟩ : ∃ sz, sz = sizeN p.fam := ⟨_, rfl⟩
  rw [← hsz] at hm sl ⊢
  by_cases e0 : sz = 0
  · have m : mayP p = false := by rw [hm]; simp [e0]
    simp [e0, m, g1]
  have b0 : ((sz : Int) == 0) = false := beq_no (by omega)
  by_cases e1 : p.addr.length = sz
  · have b1 : ((p.addr.length : Int) != (sz : Int)) = false := by rw [e1]; simp
    by_cases e2 : p.len < 0
    · have m : mayP p = false := by
        have : ¬ 0 ≤ p.len := by omega
        rw [hm]; simp [this]
      simp [b0, c1, b1, e2, m, g1]
    · have w8 : IntKind.i64.wrap (8 * (sz : Int)) = 8 * (sz : Int) := wrap_i64_id (by omega) (by omega)
      by_cases e3 : 8 * (sz : Int) < p.len
      · have m : mayP p = false := by
          have : ¬ p.len ≤ 8 * (sz : Int) := by omega
          rw [hm]; simp [this]
        simp [b0, c1, b1, e2, w8, e3, m, g1]
      · have e2' : 0 ≤ p.len := by omega
        have e3' : p.len ≤ 8 * (sz : Int) := by omega
        obtain ⟨n0, hn0⟩ : ∃ n0 : Nat, p.len = n0 := ⟨p.len.toNat, by omega⟩
        have ti := tail_iff p.addr p.len
        have fin : ∀ (hrd : (decide (p.rd = 0) || apartF p.fam) = true), mayP p = decide (maskL p.addr p.len = p.addr) := fun hrd => by
          have e0' : sz ≠ 0 := e0
          rw [hm]
          simp only [e0', e1, e2', e3', hrd, decide_true, Bool.true_and, ne_eq, not_false_eq_true]
        by_cases e4 : p.rd = 0
        · have b4 : (((p.rd : Nat) : Int) != 0) = false := by rw [e4]; rfl
          rw [fin (by simp [e4])]
          simp [b0, c1, b1, e2, w8, e3, b4]
          refine loop_up (fun i t h' => (t 1 = .ptr h.next 4 0 ∧ t 3 = .int .i64 (sz : Nat) ∧ t 4 = .int .i64 ((n0 + i : Nat) : Int)) ∧ h' = h1 ∧ n0 + i ≤ 8 * sz ∧ ∀ j : Nat, n0 ≤ j → j < n0 + i → bitN p.addr j = 0) (8 * sz - n0) ⟨by simp [hn0], rfl, by omega, by intro j a b; omega⟩ ?_
          rintro i t h' hi ⟨⟨t1, t3, t4⟩, rfl, hi8, hz⟩ K hK
          by_cases hlt : n0 + i < 8 * sz
          · have hb := rbit_ct (h := h') (l := p.addr) (n := n0 + i) (by omega)
            have hlt' : ((n0 + i : Nat) : Int) < 8 * (sz : Int) := by omega
            have ws : IntKind.i64.wrap (((n0 + i : Nat) : Int) + 1) = ((n0 + (i + 1) : Nat) : Int) := by rw [wrap_i64_id (by omega) (by omega)]; omega
            obtain ⟨x, hx⟩ : ∃ x, x = n0 + i := ⟨_, rfl⟩
            rw [← hx] at t4 hb hlt' ws
            simp [t1, t3, t4, w8, hlt', c1]
            refine hb _ ?_
            by_cases hz0 : bitN p.addr x = 0
            · simp [hz0, t4, ws]
              refine hK _ _ (by omega) ⟨by simp [t1, t3], rfl, by omega, fun j a b => ?_⟩
              rcases (by omega : j < n0 + i ∨ j = x) with c | rfl
              · exact hz j a c
              · exact hz0
            · have hb1 : (((bitN p.addr x : Nat) : Int) != 0) = true := by
                have : ¬ ((bitN p.addr x : Nat) : Int) = 0 := by omega
                simpa using this
              have m : ¬ maskL p.addr p.len = p.addr := fun e => hz0 (ti.2 e x (by omega) (by omega))
              simp [hb1, m, g1]
          · have hge : ¬ ((n0 + i : Nat) : Int) < 8 * (sz : Int) := by omega
            have m : maskL p.addr p.len = p.addr := ti.1 fun j a b => hz j (by omega) (by omega)
            obtain ⟨x, hx⟩ : ∃ x, x = n0 + i := ⟨_, rfl⟩
            rw [← hx] at t4 hge
            simp [t3, t4, w8, hge, m, g1]
        · have b4 : (((p.rd : Nat) : Int) != 0) = true := by
            have : ¬ ((p.rd : Nat) : Int) = 0 := by omega
            simpa using this
          simp [b0, c1, b1, e2, w8, e3, b4]
          refine rapart_ct _ ?_
          cases ha : apartF p.fam with
          | false =>
            have m : mayP p = false := by rw [hm]; simp [e4, ha]
            simp [m, g1]
          | true =>
            rw [fin (by simp [ha])]
            simp [c1]
            refine loop_up (fun i t h' => (t 1 = .ptr h.next 4 0 ∧ t 3 = .int .i64 (sz : Nat) ∧ t 4 = .int .i64 ((n0 + i : Nat) : Int)) ∧ h' = h1 ∧ n0 + i ≤ 8 * sz ∧ ∀ j : Nat, n0 ≤ j → j < n0 + i → bitN p.addr j = 0) (8 * sz - n0) ⟨by simp [hn0], rfl, by omega, by intro j a b; omega⟩ ?_
            rintro i t h' hi ⟨⟨t1, t3, t4⟩, rfl, hi8, hz⟩ K hK
            by_cases hlt : n0 + i < 8 * sz
            · have hb := rbit_ct (h := h') (l := p.addr) (n := n0 + i) (by omega)
              have hlt' : ((n0 + i : Nat) : Int) < 8 * (sz : Int) := by omega
              have ws : IntKind.i64.wrap (((n0 + i : Nat) : Int) + 1) = ((n0 + (i + 1) : Nat) : Int) := by rw [wrap_i64_id (by omega) (by omega)]; omega
              obtain ⟨x, hx⟩ : ∃ x, x = n0 + i := ⟨_, rfl⟩
              rw [← hx] at t4 hb hlt' ws
              simp [t1, t3, t4, w8, hlt', c1]
              refine hb _ ?_
              by_cases hz0 : bitN p.addr x = 0
              · simp [hz0, t4, ws]
                refine hK _ _ (by omega) ⟨by simp [t1, t3], rfl, by omega, fun j a b => ?_⟩
                rcases (by omega : j < n0 + i ∨ j = x) with c | rfl
                · exact hz j a c
                · exact hz0
              · have hb1 : (((bitN p.addr x : Nat) : Int) != 0) = true := by
                  have : ¬ ((bitN p.addr x : Nat) : Int) = 0 := by omega
                  simpa using this
                have m : ¬ maskL p.addr p.len = p.addr := fun e => hz0 (ti.2 e x (by omega) (by omega))
                simp [hb1, m, g1]
            · have hge : ¬ ((n0 + i : Nat) : Int) < 8 * (sz : Int) := by omega
              have m : maskL p.addr p.len = p.addr := ti.1 fun j a b => hz j (by omega) (by omega)
              obtain ⟨x, hx⟩ : ∃ x, x = n0 + i := ⟨_, rfl⟩
              rw [← hx] at t4 hge
              simp [t3, t4, w8, hge, m, g1]
  · have b1 : ((p.addr.length : Int) != (sz : Int)) = true := by
      have : ¬ (p.addr.length : Int) = (sz : Int) := by omega
      simpa using this
    have m : mayP p = false := by rw [hm]; simp [e1]
    simp [b0, c1, b1, m, g1]
end Go.Am
