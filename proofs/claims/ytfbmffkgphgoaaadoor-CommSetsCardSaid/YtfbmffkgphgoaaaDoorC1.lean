/-
  Contracts: comparisons, put, what lays one, Four, what two are apart.
-/
import Derived.Test.YtfbmffkgphgoaaaDoorNW
import Derived.Test.YtfbmffkgphgoaaaDoorC0
import Derived.Test.YtfbmffkgphgoaaaDoorAm31
namespace Go.Am
open Go.Proofs

set_option maxRecDepth 100000
theorem nan32_ct {h : H} {a : Int} : Pure Tryd.prog 62 [.int .u32 a] h (.bool false) := by
  refine pure_to Tryd.func62 S.cmp_isNaN_uint32_code S.cmp_isNaN_uint32_enter rfl (Nat.le_of_ble_eq_true rfl) fun wf => ?_; simp only [S.cmp_isNaN_uint32]
  simp
theorem nan64_ct {h : H} {a : Int} : Pure Tryd.prog 64 [.int .u64 a] h (.bool false) := by
  refine pure_to Tryd.func64 S.cmp_isNaN_uint64_code S.cmp_isNaN_uint64_enter rfl (Nat.le_of_ble_eq_true rfl) fun wf => ?_; simp only [S.cmp_isNaN_uint64]
  simp
theorem cmp32_ct {h : H} {a b : Int} : Pure Tryd.prog 35 [.int .u32 a, .int .u32 b] h (.int .i64 (cmpI a b)) := by
  refine pure_to Tryd.func35 S.cmp_Compare_uint32_code S.cmp_Compare_uint32_enter rfl (Nat.le_of_ble_eq_true rfl) fun wf => ?_; simp only [S.cmp_Compare_uint32]
  simp
  refine nan32_ct _ ?_
  simp
  refine nan32_ct _ ?_
  simp
  by_cases h1 : a < b
  · simp [h1, cmpI]
  · by_cases h2 : b < a <;> simp [h1, h2, cmpI]
theorem cmp64_ct {h : H} {a b : Int} : Pure Tryd.prog 41 [.int .u64 a, .int .u64 b] h (.int .i64 (cmpI a b)) := by
  refine pure_to Tryd.func41 S.cmp_Compare_uint64_code S.cmp_Compare_uint64_enter rfl (Nat.le_of_ble_eq_true rfl) fun wf => ?_; simp only [S.cmp_Compare_uint64]
  simp
  refine nan64_ct _ ?_
  simp
  refine nan64_ct _ ?_
  simp
  by_cases h1 : a < b
  · simp [h1, cmpI]
  · by_cases h2 : b < a <;> simp [h1, h2, cmpI]
theorem or3_ct {h : H} {q : Nat} {a b c : Int} (hq : h.get q = some (.row [.int .i64 a, .int .i64 b, .int .i64 c])) : Pure Tryd.prog 65 [.sl q 3 0 3 (some 3)] h (.int .i64 (orI a (orI b c))) := by
  refine pure_to Tryd.func65 S.cmp_Or_int_code S.cmp_Or_int_enter rfl (Nat.le_of_ble_eq_true rfl) fun wf => ?_; simp only [S.cmp_Or_int]
  have c1 : cellsAt h.get q 3 = some [.int .i64 a, .int .i64 b, .int .i64 c] := by rw [cellsAt_of hq (by rfl)]; rfl
  simp
  refine loop_up (fun i t h' => (t 3 = .int .i64 0 ∧ t 6 = .sl q 3 0 3 (some 3) ∧ t 7 = .int .i64 3 ∧ t 8 = .int .i64 (i : Nat)) ∧ h' = h ∧ (0 < i → a = 0) ∧ (1 < i → b = 0) ∧ (2 < i → c = 0)) 3 ⟨by simp, rfl, by omega, by omega, by omega⟩ ?_
  rintro i t h' hi ⟨⟨t3, t6, t7, t8⟩, rfl, k1, k2, k3⟩ K hK
  have w1 : IntKind.i64.wrap 1 = 1 := by decide
  have w2 : IntKind.i64.wrap 2 = 2 := by decide
  have w3 : IntKind.i64.wrap 3 = 3 := by decide
  rcases (by omega : i = 0 ∨ i = 1 ∨ i = 2 ∨ i = 3) with rfl | rfl | rfl | rfl
  · by_cases hz : a = 0
    · simp [t3, t6, t7, t8, c1, hz, w1]
      exact hK _ _ (by omega) ⟨by simp [t3, t6, t7], rfl, fun _ => hz, by omega, by omega⟩
    · have hb : (a != 0) = true := by simpa using hz
      simp [t3, t6, t7, t8, c1, hb, orI_nz hz]
  · have z1 := k1 (by omega)
    by_cases hz : b = 0
    · simp [t3, t6, t7, t8, c1, hz, w2]
      exact hK _ _ (by omega) ⟨by simp [t3, t6, t7], rfl, fun _ => z1, fun _ => hz, by omega⟩
    · have hb : (b != 0) = true := by simpa using hz
      simp [t3, t6, t7, t8, c1, hb, z1, orI_zero, orI_nz hz]
  · have z1 := k1 (by omega)
    have z2 := k2 (by omega)
    by_cases hz : c = 0
    · simp [t3, t6, t7, t8, c1, hz, w3]
      exact hK _ _ (by omega) ⟨by simp [t3, t6, t7], rfl, fun _ => z1, fun _ => z2, fun _ => hz⟩
    · have hb : (c != 0) = true := by simpa using hz
      simp [t3, t6, t7, t8, c1, hb, z1, z2, orI_zero]
  · have z1 := k1 (by omega)
    have z2 := k2 (by omega)
    have z3 := k3 (by omega)
    simp [t3, t6, t7, t8, z1, z2, z3, orI_zero]
def cmp32P : List V → Option V
  | [.int .u32 a, .int .u32 b] => some (.int .i64 (cmpI a b))
  | _ => none
theorem cmp32P_ok : ∀ p ∈ [(35, cmp32P)], ∀ vals v, p.2 vals = some v → ∀ h, Acalls Tryd.prog p.1 vals h fun u h' => u = v ∧ h' = h := by
  intro p hp vals v e h
  simp only [List.mem_cons, List.not_mem_nil, or_false] at hp
  subst hp
  simp only [cmp32P] at e
  split at e
  · cases e; exact cmp32_ct _ ⟨rfl, rfl⟩
  · cases e
theorem larger_ct {h : H} {x y : Lg} : Pure Tryd.prog 45 [.agg (cL x), .agg (cL y)] h (.int .i64 (oL x y)) := by
  refine pure_to Tryd.func45 S.comm_larger_code S.comm_larger_enter rfl (Nat.le_of_ble_eq_true rfl) fun wf => ?_; simp only [S.comm_larger]
  obtain ⟨h2, hh2⟩ : ∃ h2, h2 = (h.push (.row (cL x))).push (.row (cL y)) := ⟨_, rfl⟩
  have g2 : Ge h h2 := by rw [hh2]; exact ((Ge.refl _).push _).push _
  have c1 : cellsAt h2.get h.next 3 = some (cL x) := by rw [hh2]; simp [cL]
  have c2 : cellsAt h2.get (h.next + 1) 3 = some (cL y) := by rw [hh2]; simp [cL]
  simp only [cL] at hh2 c1 c2
  simp [cL]
  rw [← hh2]
  have r3 : repCells 3 [V.int .i64 0] = [.int .i64 0, .int .i64 0, .int .i64 0] := rfl
  refine dreg_plain _ cmp32P_ok (by rfl) ?_
  simp [List.lookup, c1, c2, r3, cmp32P]
  refine scall_of (or3_ct (q := h2.next) (a := cmpI x.1 y.1) (b := cmpI x.2.1 y.2.1) (c := cmpI x.2.2 y.2.2) (by simp)) ?_
  simp [oL]
  exact g2.push _
theorem plain1 {P : Program} {k : Nat} {fn : List V → Option V} (c : ∀ vals v, fn vals = some v → ∀ h, Pure P k vals h v) : ∀ p ∈ [(k, fn)], ∀ vals v, p.2 vals = some v → ∀ h, Acalls P p.1 vals h fun u h' => u = v ∧ h' = h := by
  intro p hp vals v e h
  rw [List.mem_singleton] at hp
  subst hp
  exact c vals v e h _ ⟨rfl, rfl⟩
theorem fd24 (n : Nat) : ((n : Nat) : Int).fdiv (2 ^ min 24 IntKind.u32.bits) = (n : Int) / 16777216 := Int.fdiv_eq_ediv_of_nonneg _ (by decide)
theorem fd16 (n : Nat) : ((n : Nat) : Int).fdiv (2 ^ min 16 IntKind.u32.bits) = (n : Int) / 65536 := Int.fdiv_eq_ediv_of_nonneg _ (by decide)
theorem fd8 (n : Nat) : ((n : Nat) : Int).fdiv (2 ^ min 8 IntKind.u32.bits) = (n : Int) / 256 := Int.fdiv_eq_ediv_of_nonneg _ (by decide)
/-- A number's low byte. -/
theorem lowb {z : Int} {m : Nat} (h : z = (m : Int)) : ∃ b : UInt8, b = UInt8.ofNat m ∧ IntKind.u8.wrap z = (b.toNat : Int) := ⟨_, rfl, by subst h; simp [IntKind.wrap, IntKind.bits, IntKind.signed]⟩
theorem u8n (b : UInt8) : u8Of (.int .u8 (b.toNat : Int)) = some b := by simp [u8Of]
theorem be1 (n : Nat) : be 1 n = [UInt8.ofNat n] := by simp [be]
theorem be3 (n : Nat) : be 3 n = [UInt8.ofNat (n / 65536), UInt8.ofNat (n / 256), UInt8.ofNat n] := by simp [be]
theorem be4 (n : Nat) : be 4 n = [UInt8.ofNat (n / 16777216), UInt8.ofNat (n / 65536), UInt8.ofNat (n / 256), UInt8.ofNat n] := by simp [be]
theorem fd32 (n : Nat) : ((n : Nat) : Int).fdiv (2 ^ min 32 IntKind.u64.bits) = (n : Int) / 4294967296 := Int.fdiv_eq_ediv_of_nonneg _ (by decide)
theorem be8 (n : Nat) : be 8 n = be 4 (n / 4294967296) ++ be 4 n := by
  simp [be, Nat.div_div_eq_div_mul]
theorem ofNat_mod {a b : Nat} (h : a % 256 = b % 256) : UInt8.ofNat a = UInt8.ofNat b := UInt8.toNat_inj.1 (by simpa using h)
theorem be4_mod (n : Nat) : be 4 (n % 4294967296) = be 4 n := by
  simp only [be4, List.cons.injEq, and_true]
  exact ⟨ofNat_mod (by omega), ofNat_mod (by omega), ofNat_mod (by omega), ofNat_mod (by omega)⟩
/-- Several numbers of four bytes put. -/
theorem cput_ct {h : H} {v : V} {s : List UInt8} {l : List Nat} (hs : Sls h.get 1 v (l.map cP)) (hf : ∀ x ∈ l, x < 4294967296) (hl : s.length + l.length * 4 ≤ 100000) : Pure Tryd.prog 37 [.str s, v] h (.str (s ++ l.flatMap bP)) := by
  refine pure_to Tryd.func37 S.comm_put_code S.comm_put_enter rfl (Nat.le_of_ble_eq_true rfl) fun wf => ?_; simp only [S.comm_put]
  have hlen := hs.len
  simp at hlen
  simp [hlen]
  refine loop_up (fun i t h' => (t 0 = .str (s ++ (l.take i).flatMap bP) ∧ t 7 = v ∧ t 8 = .int .i64 l.length ∧ t 9 = .int .i64 (i : Nat)) ∧ h' = h) l.length ⟨by simp, rfl⟩ ?_
  rintro i t h' hi ⟨⟨t0, t7, t8, t9⟩, rfl⟩ K hK
  by_cases hlt : i < l.length
  · obtain ⟨p, qq, o, cs, e1, e2, e3⟩ := hs.at1 (f := fun x : Nat => V.int .u32 x) hlt
    have hw := wrap_succ hlt (by omega)
    have hx := hf _ (List.getElem_mem hlt)
    have w64 : IntKind.u64.wrap ((l[i] : Nat) : Int) = (l[i] : Nat) := u64_id (by omega)
    have hfl : ((l.take i).flatMap bP).length = i * 4 := by rw [flatMap_len 4 bP bP_len]; simp; omega
    simp [t0, t7, t8, t9, hlt, e1, e2, e3, w64]
    refine put_ct (size := 4) (by omega) (by omega) (by omega) (by rw [List.length_append, hfl]; omega) _ ?_
    simp [t9, hw]
    refine hK _ _ hlt ⟨by simp [t7, t8, flatMap_take bP l hlt, bP], rfl⟩
  · have : i = l.length := by omega
    subst this
    simp [t0, t8, t9]
end Go.Am
