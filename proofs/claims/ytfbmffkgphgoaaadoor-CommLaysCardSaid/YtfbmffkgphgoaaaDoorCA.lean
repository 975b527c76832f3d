/-
  C1, C1b, C2, C3, in one text.
-/
import Derived.Test.YtfbmffkgphgoaaaDoorWN
import Derived.Test.YtfbmffkgphgoaaaDoorC0
import Derived.Test.YtfbmffkgphgoaaaDoorAm31
/-
  Contracts: comparisons, put, what lays one, Four, what two are apart.
-/
namespace Go.Am
open Go.Proofs

set_option maxRecDepth 100000
theorem nan32_ct {h : H} {a : Int} : Pure Tryd.prog 62 [.int .u32 a] h (.bool false) := by
  refine pure_to Tryd.func62 S.cmp_isNaN_uint32_code S.cmp_isNaN_uint32_enter rfl (Nat.le_of_ble_eq_true rfl) fun wf => ?_; simp only [S.cmp_isNaN_uint32]
  simp
theorem nan64_ct {h : H} {a : Int} : Pure Tryd.prog 64 [.int .u64 a] h (.bool false) := by
  refine pure_to Tryd.func64 S.cmp_isNaN_uint64_code S.cmp_isNaN_uint64_enter rfl (Nat.le_of_ble_eq_true rfl) fun wf => ?_; simp only [S.cmp_isNaN_uint64]
  simp
theorem cmp32_ct {h : H} {a b : Int} : Pure Tryd.prog 35 [.int .u32 a, .int .u32 b] h (.int .i64 (cmpI a b)) := by
  refine pure_to Tryd.func35 S.cmp_Compare_uint32_code S.cmp_Compare_uint32_enter rfl (Nat.le_of_ble_eq_true rfl) fun wf => ?_; simp only [S.cmp_Compare_uint32]
  simp
  refine nan32_ct _ ?_
  simp
  refine nan32_ct _ ?_
  simp
  by_cases h1 : a < b
  · simp [h1, cmpI]
  · by_cases h2 : b < a <;> simp [h1, h2, cmpI]
theorem cmp64_ct {h : H} {a b : Int} : Pure Tryd.prog 41 [.int .u64 a, .int .u64 b] h (.int .i64 (cmpI a b)) := by
  refine pure_to Tryd.func41 S.cmp_Compare_uint64_code S.cmp_Compare_uint64_enter rfl (Nat.le_of_ble_eq_true rfl) fun wf => ?_; simp only [S.cmp_Compare_uint64]
  simp
  refine nan64_ct _ ?_
  simp
  refine nan64_ct _ ?_
  simp
  by_cases h1 : a < b
  · simp [h1, cmpI]
  · by_cases h2 : b < a <;> simp [h1, h2, cmpI]
theorem or3_ct {h : H} {q : Nat} {a b c : Int} (hq : h.get q = some (.row [.int .i64 a, .int .i64 b, .int .i64 c])) : Pure Tryd.prog 65 [.sl q 3 0 3 (some 3)] h (.int .i64 (orI a (orI b c))) := by
  refine pure_to Tryd.func65 S.cmp_Or_int_code S.cmp_Or_int_enter rfl (Nat.le_of_ble_eq_true rfl) fun wf => ?_; simp only [S.cmp_Or_int]
  have c1 : cellsAt h.get q 3 = some [.int .i64 a, .int .i64 b, .int .i64 c] := by rw [cellsAt_of hq (by rfl)]; rfl
  simp
  refine loop_up (fun i t h' => (t 3 = .int .i64 0 ∧ t 6 = .sl q 3 0 3 (some 3) ∧ t 7 = .int .i64 3 ∧ t 8 = .int .i64 (i : Nat)) ∧ h' = h ∧ (0 < i → a = 0) ∧ (1 < i → b = 0) ∧ (2 < i → c = 0)) 3 ⟨by simp, rfl, by omega, by omega, by omega⟩ ?_
  rintro i t h' hi ⟨⟨t3, t6, t7, t8⟩, rfl, k1, k2, k3⟩ K hK
  have w1 : IntKind.i64.wrap 1 = 1 := by decide
  have w2 : IntKind.i64.wrap 2 = 2 := by decide
  have w3 : IntKind.i64.wrap 3 = 3 := by decide
  rcases (by omega : i = 0 ∨ i = 1 ∨ i = 2 ∨ i = 3) with rfl | rfl | rfl | rfl
  · by_cases hz : a = 0
    · simp [t3, t6, t7, t8, c1, hz, w1]
      exact hK _ _ (by omega) ⟨by simp [t3, t6, t7], rfl, fun _ => hz, by omega, by omega⟩
    · have hb : (a != 0) = true := by simpa using hz
      simp [t3, t6, t7, t8, c1, hb, orI_nz hz]
  · have z1 := k1 (by omega)
    by_cases hz : b = 0
    · simp [t3, t6, t7, t8, c1, hz, w2]
      exact hK _ _ (by omega) ⟨by simp [t3, t6, t7], rfl, fun _ => z1, fun _ => hz, by omega⟩
    · have hb : (b != 0) = true := by simpa using hz
      simp [t3, t6, t7, t8, c1, hb, z1, orI_zero, orI_nz hz]
  · have z1 := k1 (by omega)
    have z2 := k2 (by omega)
    by_cases hz : c = 0
    · simp [t3, t6, t7, t8, c1, hz, w3]
      exact hK _ _ (by omega) ⟨by simp [t3, t6, t7], rfl, fun _ => z1, fun _ => z2, fun _ => hz⟩
    · have hb : (c != 0) = true := by simpa using hz
      simp [t3, t6, t7, t8, c1, hb, z1, z2, orI_zero]
  · have z1 := k1 (by omega)
    have z2 := k2 (by omega)
    have z3 := k3 (by omega)
    simp [t3, t7, t8, z1, z2, z3, orI_zero]
def cmp32P : List V → Option V
  | [.int .u32 a, .int .u32 b] => some (.int .i64 (cmpI a b))
  | _ => none
theorem cmp32P_ok : ∀ p ∈ [(35, cmp32P)], ∀ vals v, p.2 vals = some v → ∀ h, Acalls Tryd.prog p.1 vals h fun u h' => u = v ∧ h' = h := by
  intro p hp vals v e h
  simp only [List.mem_cons, List.not_mem_nil, or_false] at hp
  subst hp
  simp only [cmp32P] at e
  split at e
  · cases e; exact cmp32_ct _ ⟨rfl, rfl⟩
  · cases e
theorem larger_ct {h : H} {x y : Lg} : Pure Tryd.prog 45 [.agg (cL x), .agg (cL y)] h (.int .i64 (oL x y)) := by
  refine pure_to Tryd.func45 S.comm_larger_code S.comm_larger_enter rfl (Nat.le_of_ble_eq_true rfl) fun wf => ?_; simp only [S.comm_larger]
  obtain ⟨h2, hh2⟩ : ∃ h2, h2 = (h.push (.row (cL x))).push (.row (cL y)) := ⟨_, rfl⟩
  have g2 : Ge h h2 := by rw [hh2]; exact ((Ge.refl _).push _).push _
  have c1 : cellsAt h2.get h.next 3 = some (cL x) := by rw [hh2]; simp [cL]
  have c2 : cellsAt h2.get (h.next + 1) 3 = some (cL y) := by rw [hh2]; simp [cL]
  simp only [cL] at hh2 c1 c2
  simp [cL]
  rw [← hh2]
  have r3 : repCells 3 [V.int .i64 0] = [.int .i64 0, .int .i64 0, .int .i64 0] := rfl
  refine dreg_plain _ cmp32P_ok (by rfl) ?_
  simp [List.lookup, c1, c2, r3, cmp32P]
  refine scall_of (or3_ct (q := h2.next) (a := cmpI x.1 y.1) (b := cmpI x.2.1 y.2.1) (c := cmpI x.2.2 y.2.2) (by simp)) ?_
  simp [oL]
  exact g2.push _
theorem plain1 {P : Program} {k : Nat} {fn : List V → Option V} (c : ∀ vals v, fn vals = some v → ∀ h, Pure P k vals h v) : ∀ p ∈ [(k, fn)], ∀ vals v, p.2 vals = some v → ∀ h, Acalls P p.1 vals h fun u h' => u = v ∧ h' = h := by
  intro p hp vals v e h
  rw [List.mem_singleton] at hp
  subst hp
  exact c vals v e h _ ⟨rfl, rfl⟩
theorem fd24 (n : Nat) : ((n : Nat) : Int).fdiv (2 ^ min 24 IntKind.u32.bits) = (n : Int) / 16777216 := Int.fdiv_eq_ediv_of_nonneg _ (by decide)
theorem fd16 (n : Nat) : ((n : Nat) : Int).fdiv (2 ^ min 16 IntKind.u32.bits) = (n : Int) / 65536 := Int.fdiv_eq_ediv_of_nonneg _ (by decide)
theorem fd8 (n : Nat) : ((n : Nat) : Int).fdiv (2 ^ min 8 IntKind.u32.bits) = (n : Int) / 256 := Int.fdiv_eq_ediv_of_nonneg _ (by decide)
/-- A number's low byte. -/
theorem lowb {z : Int} {m : Nat} (h : z = (m : Int)) : ∃ b : UInt8, b = UInt8.ofNat m ∧ IntKind.u8.wrap z = (b.toNat : Int) := ⟨_, rfl, by subst h; simp [IntKind.wrap, IntKind.bits, IntKind.signed]⟩
theorem u8n (b : UInt8) : u8Of (.int .u8 (b.toNat : Int)) = some b := by simp [u8Of]
theorem be1 (n : Nat) : be 1 n = [UInt8.ofNat n] := by simp [be]
theorem be3 (n : Nat) : be 3 n = [UInt8.ofNat (n / 65536), UInt8.ofNat (n / 256), UInt8.ofNat n] := by simp [be]
theorem be4 (n : Nat) : be 4 n = [UInt8.ofNat (n / 16777216), UInt8.ofNat (n / 65536), UInt8.ofNat (n / 256), UInt8.ofNat n] := by simp [be]
theorem fd32 (n : Nat) : ((n : Nat) : Int).fdiv (2 ^ min 32 IntKind.u64.bits) = (n : Int) / 4294967296 := Int.fdiv_eq_ediv_of_nonneg _ (by decide)
theorem be8 (n : Nat) : be 8 n = be 4 (n / 4294967296) ++ be 4 n := by
  simp [be, Nat.div_div_eq_div_mul]
theorem ofNat_mod {a b : Nat} (h : a % 256 = b % 256) : UInt8.ofNat a = UInt8.ofNat b := UInt8.toNat_inj.1 (by simpa using h)
theorem be4_mod (n : Nat) : be 4 (n % 4294967296) = be 4 n := by
  simp only [be4, List.cons.injEq, and_true]
  exact ⟨ofNat_mod (by omega), ofNat_mod (by omega), ofNat_mod (by omega), ofNat_mod (by omega)⟩
/-- Several numbers of four bytes put. -/
theorem cput_ct {h : H} {v : V} {s : List UInt8} {l : List Nat} (hs : Sls h.get 1 v (l.map cP)) (hf : ∀ x ∈ l, x < 4294967296) (hl : s.length + l.length * 4 ≤ 100000) : Pure Tryd.prog 37 [.str s, v] h (.str (s ++ l.flatMap bP)) := by
  refine pure_to Tryd.func37 S.comm_put_code S.comm_put_enter rfl (Nat.le_of_ble_eq_true rfl) fun wf => ?_; simp only [S.comm_put]
  have hlen := hs.len
  simp at hlen
  simp [hlen]
  refine loop_up (fun i t h' => (t 0 = .str (s ++ (l.take i).flatMap bP) ∧ t 7 = v ∧ t 8 = .int .i64 l.length ∧ t 9 = .int .i64 (i : Nat)) ∧ h' = h) l.length ⟨by simp, rfl⟩ ?_
  rintro i t h' hi ⟨⟨t0, t7, t8, t9⟩, rfl⟩ K hK
  by_cases hlt : i < l.length
  · obtain ⟨p, qq, o, cs, e1, e2, e3⟩ := hs.at1 (f := fun x : Nat => V.int .u32 x) hlt
    have hw := wrap_succ hlt (by omega)
    have hx := hf _ (List.getElem_mem hlt)
    have w64 : IntKind.u64.wrap ((l[i] : Nat) : Int) = (l[i] : Nat) := u64_id (by omega)
    have hfl : ((l.take i).flatMap bP).length = i * 4 := by rw [flatMap_len 4 bP bP_len]; simp; omega
    simp [t0, t7, t8, t9, hlt, e1, e2, e3, w64]
    refine put_ct (size := 4) (by omega) (by omega) (by omega) (by rw [List.length_append, hfl]; omega) _ ?_
    simp [t9, hw]
    refine hK _ _ hlt ⟨by simp [t7, t8, flatMap_take bP l hlt, bP], rfl⟩
  · have : i = l.length := by omega
    subst this
    simp [t0, t8, t9]
end Go.Am

/-
  The reference's Four.
-/
namespace Go.Am
open Go.Proofs

set_option maxRecDepth 100000
theorem four_ct {h : H} {n : Nat} : Pure Tryd.prog 39 [.int .u32 (n : Nat)] h (.str (be 4 n)) := by
  refine pure_to Tryd.func39 S.Href05_Four_code S.Href05_Four_enter rfl (Nat.le_of_ble_eq_true rfl) fun wf => ?_; simp only [S.Href05_Four]
  have r4 : repCells 4 [V.int .u8 0] = [.int .u8 0, .int .u8 0, .int .u8 0, .int .u8 0] := rfl
  obtain ⟨b1, h1, w1⟩ := lowb (z := (n : Int) / 16777216) (m := n / 16777216) (by omega)
  obtain ⟨b2, h2, w2⟩ := lowb (z := (n : Int) / 65536) (m := n / 65536) (by omega)
  obtain ⟨b3, h3, w3⟩ := lowb (z := (n : Int) / 256) (m := n / 256) (by omega)
  obtain ⟨b4, h4, w4⟩ := lowb (z := (n : Int)) (m := n) rfl
  rw [be4, ← h1, ← h2, ← h3, ← h4]
  simp [fd24, fd16, fd8, r4, w1, w2, w3, w4, elemsV_sl, u8n]
def fourP : List V → Option V
  | [.int .u32 x] => if 0 ≤ x then some (.str (be 4 x.toNat)) else none
  | _ => none
theorem fourP_eq (n : Nat) : fourP [.int .u32 (n : Int)] = some (.str (be 4 n)) := by simp [fourP]
theorem fourP_ok : ∀ vals v, fourP vals = some v → ∀ h, Pure Tryd.prog 39 vals h v := by
  intro vals v e h
  unfold fourP at e
  split at e
  · rename_i x
    split at e
    · rename_i hx
      cases e
      obtain ⟨n, rfl⟩ : ∃ n : Nat, x = n := ⟨x.toNat, by omega⟩
      simp only [Int.toNat_natCast]
      exact four_ct
    · cases e
  · cases e

end Go.Am

/-
  Contracts: lists of all three kinds laid as bytes (written by program, wip/comm/C2.py).
-/
namespace Go.Am
open Go.Proofs

set_option maxRecDepth 100000
/-- What laying answers. -/
def encR {α : Type} (c : α → α → Int) (b : α → List UInt8) (l : List α) : V := if l.length ≤ 64 ∧ adjB c l = true then .tup [.str (l.flatMap b), .int .i64 0] else .tup [.str [], .int .i64 2]
theorem encR_yes {α : Type} {c : α → α → Int} {b : α → List UInt8} {l : List α} (h1 : l.length ≤ 64) (h2 : adjB c l = true) : encR c b l = .tup [.str (l.flatMap b), .int .i64 0] := if_pos ⟨h1, h2⟩
theorem encR_long {α : Type} {c : α → α → Int} {b : α → List UInt8} {l : List α} (h : 64 < l.length) : encR c b l = .tup [.str [], .int .i64 2] := if_neg (by omega)
theorem encR_no {α : Type} {c : α → α → Int} {b : α → List UInt8} {l : List α} (h : adjB c l = false) : encR c b l = .tup [.str [], .int .i64 2] := if_neg (by simp [h])
theorem encR_ids {α : Type} (c : α → α → Int) (b : α → List UInt8) (l : List α) : (encR c b l).ids = [] := by unfold encR; split <;> rfl
theorem adjB_false {α : Type} {c : α → α → Int} {l : List α} {i : Nat} (h0 : 0 < i) (h : i < l.length) (hc : ¬ c l[i - 1] l[i] < 0) : adjB c l = false := by
  cases e : adjB c l with
  | false => rfl
  | true =>
    have := (adjB_iff l).1 e (i - 1) (by omega)
    exact absurd (by simpa [show i - 1 + 1 = i by omega] using this) hc
/-- A fresh row of plain cells. -/
theorem sls_row {g : Nat → Option O} {k : Nat} {cs : List V} {ca : Option Nat} (hg : g k = some (.row cs)) (hb : cs.length < 9223372036854775808) (hca : ca = some cs.length) : Sls g 1 (.sl k cs.length 0 cs.length ca) (cs.map fun x => [x]) := by
  subst hca
  have hfl : (cs.map fun x => [x]).flatten = cs := by
    clear hg hb
    induction cs with
    | nil => rfl
    | cons a l ih => simp [ih]
  refine ⟨.inr ⟨_, _, _, _, by rw [List.length_map]⟩, by simp, ?_, by simpa using hb⟩
  rw [elemsV_sl]
  split
  · rename_i h0
    have : cs = [] := List.eq_nil_of_length_eq_zero h0
    subst this; rfl
  · rw [cellsAt_of hg (by simp [O.len, O.cells]), hfl]
    simp [O.cells]
theorem adjB_step {α : Type} {c : α → α → Int} {l : List α} {i : Nat} (ht : adjB c (l.take i) = true) (h : i < l.length) (hc : 0 < i → c l[i - 1] l[i] < 0) : adjB c (l.take (i + 1)) = true := by
  rw [adjB_iff] at ht ⊢
  intro k hk
  simp only [List.length_take] at hk
  simp only [List.getElem_take]
  by_cases hki : k + 1 < i
  · have := ht k (by simp; omega)
    simpa using this
  · have : k + 1 = i := by omega
    subst this
    simpa using hc (by omega)

theorem oneP_ct {h : H} {s : List UInt8} {x : Nat} (hx : x < 4294967296) (hs : s.length ≤ 64 * 12) : Pure Tryd.prog 36 [.str s, .int .u32 (x : Nat)] h (.str (s ++ bP x)) := by
  refine pure_to Tryd.func36 S.comm_Encode_1_code S.comm_Encode_1_enter rfl (Nat.le_of_ble_eq_true rfl) fun wf => ?_; simp only [S.comm_Encode_1]
  simp
  refine cput_ct (l := [x]) (sls_row (k := h.next) (cs := [.int .u32 (x : Nat)]) (by simp) (by simp) rfl) (by simpa using hx) (by simp; omega) _ ?_
  simp
theorem oneX_ct {h : H} {s : List UInt8} {x : Nat} (hx : x < 18446744073709551616) (hs : s.length ≤ 64 * 12) : Pure Tryd.prog 42 [.str s, .int .u64 (x : Nat)] h (.str (s ++ bX x)) := by
  refine pure_to Tryd.func42 S.comm_EncodeExts_1_code S.comm_EncodeExts_1_enter rfl (Nat.le_of_ble_eq_true rfl) fun wf => ?_; simp only [S.comm_EncodeExts_1]
  obtain ⟨hi, hhi⟩ : ∃ hi, hi = x / 4294967296 := ⟨_, rfl⟩
  obtain ⟨lo, hlo⟩ : ∃ lo, lo = x % 4294967296 := ⟨_, rfl⟩
  have wu1 : IntKind.u32.wrap ((x : Int) / 4294967296) = (hi : Int) := by rw [hhi]; simp [IntKind.wrap, IntKind.bits, IntKind.signed]; omega
  have wu2 : IntKind.u32.wrap (x : Int) = (lo : Int) := by rw [hlo]; simp [IntKind.wrap, IntKind.bits, IntKind.signed]
  have r2 : repCells 2 [V.int .u32 0] = [.int .u32 0, .int .u32 0] := rfl
  simp [fd32, wu1, wu2, r2]
  refine cput_ct (l := [hi, lo]) (sls_row (k := h.next) (cs := [.int .u32 (hi : Nat), .int .u32 (lo : Nat)]) (by simp) (by simp) rfl) (by intro y hy; simp at hy; omega) (by simp; omega) _ ?_
  simp [bX, bP, ← hhi, hlo, be4_mod]
theorem oneL_ct {h : H} {s : List UInt8} {x : Lg} (hx : x.1 < 4294967296 ∧ x.2.1 < 4294967296 ∧ x.2.2 < 4294967296) (hs : s.length ≤ 64 * 12) : Pure Tryd.prog 46 [.str s, .agg (cL x)] h (.str (s ++ bL x)) := by
  refine pure_to Tryd.func46 S.comm_EncodeLarges_1_code S.comm_EncodeLarges_1_enter rfl (Nat.le_of_ble_eq_true rfl) fun wf => ?_; simp only [S.comm_EncodeLarges_1]
  obtain ⟨h2, hh2⟩ : ∃ h2, h2 = h.push (.row (cL x)) := ⟨_, rfl⟩
  have g2 : Ge h h2 := by rw [hh2]; exact (Ge.refl _).push _
  have c1 : cellsAt h2.get h.next 3 = some (cL x) := by rw [hh2]; simp [cL]
  have n2 : h2.next = h.next + 1 := by rw [hh2]; simp
  have r3 : repCells 3 [V.int .u32 0] = [.int .u32 0, .int .u32 0, .int .u32 0] := rfl
  simp only [cL] at hh2 c1
  simp [cL]
  rw [← hh2]
  simp [r3]
  refine cput_ct (l := [x.1, x.2.1, x.2.2]) (sls_row (k := h.next + 1) (cs := [.int .u32 (x.1 : Nat), .int .u32 (x.2.1 : Nat), .int .u32 (x.2.2 : Nat)]) (by simp [n2]) (by simp) rfl) (by intro y hy; simp at hy; omega) (by simp; omega) _ ?_
  simp [bL, bP]
  exact g2.push _

theorem laycP_ct {h : H} {v : V} {l : List Nat} (hs : Sls h.get 1 v (l.map cP)) (hf : ∀ x ∈ l, x < 4294967296) (hl : l.length ≤ 1000) : Pure Tryd.prog 34 [v, .func (.func 35) [] [], .func (.func 36) [] []] h (encR oN bP l) := by
  refine pure_to Tryd.func34 S.comm_lay_uint32_code S.comm_lay_uint32_enter (by exact encR_ids _ _ _) (Nat.le_of_ble_eq_true rfl) fun wf => ?_; simp only [S.comm_lay_uint32]
  have hlen := hs.len
  simp at hlen
  by_cases h64 : 64 < l.length
  · have h64' : (64 : Int) < l.length := by omega
    simp [hlen, h64', encR_long h64]
  · have h64' : ¬ (64 : Int) < l.length := by omega
    simp [hlen, h64']
    refine loop_up (fun i t h' => (t 0 = v ∧ t 1 = .func (.func 35) [] [] ∧ t 2 = .func (.func 36) [] [] ∧ t 8 = .str ((l.take i).flatMap bP) ∧ t 14 = v ∧ t 15 = .int .i64 l.length ∧ t 16 = .int .i64 (i : Nat)) ∧ Ge h h' ∧ h'.WF ∧ adjB oN (l.take i) = true) l.length ⟨by simp, Ge.refl _, wf, by simp [adjB]⟩ ?_
    rintro i t h' hi ⟨⟨t0, t1, t2, t8, t14, t15, t16⟩, gb, wb, ha⟩ K hK
    by_cases hlt : i < l.length
    · have hw := wrap_succ hlt (by omega)
      have w1 : IntKind.i64.wrap 1 = 1 := by decide
      have hfl : ((l.take i).flatMap bP).length ≤ 64 * 12 := by rw [flatMap_len _ bP bP_len]; simp; omega
      obtain ⟨p, qq, o, cs, e1, pl, e2, e3⟩ := hs.at1G (f := fun x : Nat => V.int .u32 x) wf hlt
      have e2' := e2 h' gb
      simp [t14, t15, t16, hlt, e1, e2', e3]
      by_cases h0 : i = 0
      · subst h0
        simp [t2, t8]
        refine oneP_ct (s := []) (x := l[0]) (hf _ (List.getElem_mem _)) (by simp) _ ?_
        simp [t16]
        refine hK _ _ hlt ⟨?_, gb, wb, adjB_step ha hlt (by omega)⟩
        have := flatMap_take bP l hlt
        simp [t0, t1, t2, t14, t15]
        simpa [w1] using this.symm
      · obtain ⟨p', qq', o', cs', f1, pl', f2, f3⟩ := hs.at1G (f := fun x : Nat => V.int .u32 x) wf (show i - 1 < l.length by omega)
        have f2' := f2 h' gb
        have wm : IntKind.i64.wrap ((i : Int) - 1) = ((i - 1 : Nat) : Int) := by rw [wrap_i64_id (by omega) (by omega)]; omega
        have h0' : 0 < i := by omega
        simp [h0', t0, t1, wm, f1, f2', f3]
        refine cmp32_ct _ ?_
        by_cases hc : cmpI (l[i - 1] : Nat) (l[i] : Nat) < 0
        · have hc' : ¬ 0 ≤ cmpI (l[i - 1] : Nat) (l[i] : Nat) := by omega
          simp [hc', t2, t8]
          refine oneP_ct (x := l[i]) (hf _ (List.getElem_mem _)) (by omega) _ ?_
          simp [t16, hw]
          refine hK _ _ hlt ⟨?_, gb, wb, adjB_step ha hlt (fun _ => hc)⟩
          simp [t0, t1, t2, t14, t15, flatMap_take bP l hlt]
        · have hc' : 0 ≤ cmpI (l[i - 1] : Nat) (l[i] : Nat) := by omega
          simp [hc']
          rw [encR_no (adjB_false h0' hlt hc)]
          exact ⟨rfl, gb⟩
    · have : i = l.length := by omega
      subst this
      simp [t8, t15, t16]
      rw [encR_yes (by omega) (by simpa using ha)]
      exact ⟨rfl, gb⟩
theorem enccP_ct {h : H} {v : V} {l : List Nat} (hs : Sls h.get 1 v (l.map cP)) (hf : ∀ x ∈ l, x < 4294967296) (hl : l.length ≤ 1000) : Pure Tryd.prog 8 [v] h (encR oN bP l) := by
  refine pure_to Tryd.func8 S.comm_Encode_code S.comm_Encode_enter (by exact encR_ids _ _ _) (Nat.le_of_ble_eq_true rfl) fun wf => ?_; simp only [S.comm_Encode]
  simp
  refine laycP_ct hs hf hl _ ?_
  unfold encR
  split <;> simp

theorem laycX_ct {h : H} {v : V} {l : List Nat} (hs : Sls h.get 1 v (l.map cX)) (hf : ∀ x ∈ l, x < 18446744073709551616) (hl : l.length ≤ 1000) : Pure Tryd.prog 40 [v, .func (.func 41) [] [], .func (.func 42) [] []] h (encR oN bX l) := by
  refine pure_to Tryd.func40 S.comm_lay_uint64_code S.comm_lay_uint64_enter (by exact encR_ids _ _ _) (Nat.le_of_ble_eq_true rfl) fun wf => ?_; simp only [S.comm_lay_uint64]
  have hlen := hs.len
  simp at hlen
  by_cases h64 : 64 < l.length
  · have h64' : (64 : Int) < l.length := by omega
    simp [hlen, h64', encR_long h64]
  · have h64' : ¬ (64 : Int) < l.length := by omega
    simp [hlen, h64']
    refine loop_up (fun i t h' => (t 0 = v ∧ t 1 = .func (.func 41) [] [] ∧ t 2 = .func (.func 42) [] [] ∧ t 8 = .str ((l.take i).flatMap bX) ∧ t 14 = v ∧ t 15 = .int .i64 l.length ∧ t 16 = .int .i64 (i : Nat)) ∧ Ge h h' ∧ h'.WF ∧ adjB oN (l.take i) = true) l.length ⟨by simp, Ge.refl _, wf, by simp [adjB]⟩ ?_
    rintro i t h' hi ⟨⟨t0, t1, t2, t8, t14, t15, t16⟩, gb, wb, ha⟩ K hK
    by_cases hlt : i < l.length
    · have hw := wrap_succ hlt (by omega)
      have w1 : IntKind.i64.wrap 1 = 1 := by decide
      have hfl : ((l.take i).flatMap bX).length ≤ 64 * 12 := by rw [flatMap_len _ bX bX_len]; simp; omega
      obtain ⟨p, qq, o, cs, e1, pl, e2, e3⟩ := hs.at1G (f := fun x : Nat => V.int .u64 x) wf hlt
      have e2' := e2 h' gb
      simp [t14, t15, t16, hlt, e1, e2', e3]
      by_cases h0 : i = 0
      · subst h0
        simp [t2, t8]
        refine oneX_ct (s := []) (x := l[0]) (hf _ (List.getElem_mem _)) (by simp) _ ?_
        simp [t16]
        refine hK _ _ hlt ⟨?_, gb, wb, adjB_step ha hlt (by omega)⟩
        have := flatMap_take bX l hlt
        simp [t0, t1, t2, t14, t15]
        simpa [w1] using this.symm
      · obtain ⟨p', qq', o', cs', f1, pl', f2, f3⟩ := hs.at1G (f := fun x : Nat => V.int .u64 x) wf (show i - 1 < l.length by omega)
        have f2' := f2 h' gb
        have wm : IntKind.i64.wrap ((i : Int) - 1) = ((i - 1 : Nat) : Int) := by rw [wrap_i64_id (by omega) (by omega)]; omega
        have h0' : 0 < i := by omega
        simp [h0', t0, t1, wm, f1, f2', f3]
        refine cmp64_ct _ ?_
        by_cases hc : cmpI (l[i - 1] : Nat) (l[i] : Nat) < 0
        · have hc' : ¬ 0 ≤ cmpI (l[i - 1] : Nat) (l[i] : Nat) := by omega
          simp [hc', t2, t8]
          refine oneX_ct (x := l[i]) (hf _ (List.getElem_mem _)) (by omega) _ ?_
          simp [t16, hw]
          refine hK _ _ hlt ⟨?_, gb, wb, adjB_step ha hlt (fun _ => hc)⟩
          simp [t0, t1, t2, t14, t15, flatMap_take bX l hlt]
        · have hc' : 0 ≤ cmpI (l[i - 1] : Nat) (l[i] : Nat) := by omega
          simp [hc']
          rw [encR_no (adjB_false h0' hlt hc)]
          exact ⟨rfl, gb⟩
    · have : i = l.length := by omega
      subst this
      simp [t8, t15, t16]
      rw [encR_yes (by omega) (by simpa using ha)]
      exact ⟨rfl, gb⟩
theorem enccX_ct {h : H} {v : V} {l : List Nat} (hs : Sls h.get 1 v (l.map cX)) (hf : ∀ x ∈ l, x < 18446744073709551616) (hl : l.length ≤ 1000) : Pure Tryd.prog 10 [v] h (encR oN bX l) := by
  refine pure_to Tryd.func10 S.comm_EncodeExts_code S.comm_EncodeExts_enter (by exact encR_ids _ _ _) (Nat.le_of_ble_eq_true rfl) fun wf => ?_; simp only [S.comm_EncodeExts]
  simp
  refine laycX_ct hs hf hl _ ?_
  unfold encR
  split <;> simp

theorem laycL_ct {h : H} {v : V} {l : List Lg} (hs : Sls h.get 3 v (l.map cL)) (hf : ∀ x ∈ l, x.1 < 4294967296 ∧ x.2.1 < 4294967296 ∧ x.2.2 < 4294967296) (hl : l.length ≤ 1000) : Pure Tryd.prog 44 [v, .func (.func 45) [] [], .func (.func 46) [] []] h (encR oL bL l) := by
  refine pure_to Tryd.func44 S.comm_lay_api_Large_code S.comm_lay_api_Large_enter (by exact encR_ids _ _ _) (Nat.le_of_ble_eq_true rfl) fun wf => ?_; simp only [S.comm_lay_api_Large]
  have hlen := hs.len
  simp at hlen
  by_cases h64 : 64 < l.length
  · have h64' : (64 : Int) < l.length := by omega
    simp [hlen, h64', encR_long h64]
  · have h64' : ¬ (64 : Int) < l.length := by omega
    simp [hlen, h64']
    refine loop_up (fun i t h' => (t 0 = v ∧ t 1 = .func (.func 45) [] [] ∧ t 2 = .func (.func 46) [] [] ∧ t 8 = .str ((l.take i).flatMap bL) ∧ t 14 = v ∧ t 15 = .int .i64 l.length ∧ t 16 = .int .i64 (i : Nat)) ∧ Ge h h' ∧ h'.WF ∧ adjB oL (l.take i) = true) l.length ⟨by simp, Ge.refl _, wf, by simp [adjB]⟩ ?_
    rintro i t h' hi ⟨⟨t0, t1, t2, t8, t14, t15, t16⟩, gb, wb, ha⟩ K hK
    by_cases hlt : i < l.length
    · have hw := wrap_succ hlt (by omega)
      have w1 : IntKind.i64.wrap 1 = 1 := by decide
      have hfl : ((l.take i).flatMap bL).length ≤ 64 * 12 := by rw [flatMap_len _ bL bL_len]; simp; omega
      obtain ⟨p, qq, o, cs, e1, pl, e2, e3, e4, _⟩ := hs.atG wf (k := i) (by simpa using hlt)
      have e2' := e2 h' gb
      have e4' : (cs.drop o).take 3 = cL l[i] := by rw [e4]; simp
      obtain ⟨h2, hh2⟩ : ∃ h2, h2 = h'.push (.row (cL l[i])) := ⟨_, rfl⟩
      have g2 : Ge h h2 := by rw [hh2]; exact gb.push _
      have w2 : h2.WF := by rw [hh2]; exact wb.push _
      have c2 : cellsAt h2.get h'.next 3 = some (cL l[i]) := by rw [hh2]; simp [cL]
      have e2'' := e2 h2 g2
      simp only [cL] at e4' hh2 c2
      simp [t14, t15, t16, hlt, e1, e2', e3, e4']
      rw [H.push_set, ← hh2]
      by_cases h0 : i = 0
      · subst h0
        refine dreg_of ?_
        simp [t2, t8, c2]
        refine oneL_ct (s := []) (x := l[0]) (hf _ (List.getElem_mem _)) (by simp) _ ?_
        simp [t16]
        refine hK _ _ hlt ⟨?_, g2, w2, adjB_step ha hlt (by omega)⟩
        have := flatMap_take bL l hlt
        simp [t0, t1, t2, t14, t15]
        simpa [w1] using this.symm
      · obtain ⟨p', qq', o', cs', f1, pl', f2, f3, f4, _⟩ := hs.atG wf (k := i - 1) (by simp; omega)
        have f2' := f2 h2 g2
        have f4' : (cs'.drop o').take 3 = cL l[i - 1] := by rw [f4]; simp
        simp only [cL] at f4'
        have wm : IntKind.i64.wrap ((i : Int) - 1) = ((i - 1 : Nat) : Int) := by rw [wrap_i64_id (by omega) (by omega)]; omega
        have h0' : 0 < i := by omega
        refine dreg_of ?_
        simp [h0', t0, t1, wm, f1, f2', f3, f4', c2]
        refine scall_of (larger_ct (x := l[i - 1]) (y := l[i])) ?_
        by_cases hc : oL l[i - 1] l[i] < 0
        · have hc' : ¬ 0 ≤ oL l[i - 1] l[i] := by omega
          simp [hc', t2, t8, c2]
          refine oneL_ct (x := l[i]) (hf _ (List.getElem_mem _)) (by omega) _ ?_
          simp [t16, hw]
          refine hK _ _ hlt ⟨?_, g2, w2, adjB_step ha hlt (fun _ => hc)⟩
          simp [t0, t1, t2, t14, t15, flatMap_take bL l hlt]
        · have hc' : 0 ≤ oL l[i - 1] l[i] := by omega
          simp [hc']
          rw [encR_no (adjB_false h0' hlt hc)]
          exact ⟨rfl, g2⟩
    · have : i = l.length := by omega
      subst this
      simp [t8, t15, t16]
      rw [encR_yes (by omega) (by simpa using ha)]
      exact ⟨rfl, gb⟩
theorem enccL_ct {h : H} {v : V} {l : List Lg} (hs : Sls h.get 3 v (l.map cL)) (hf : ∀ x ∈ l, x.1 < 4294967296 ∧ x.2.1 < 4294967296 ∧ x.2.2 < 4294967296) (hl : l.length ≤ 1000) : Pure Tryd.prog 12 [v] h (encR oL bL l) := by
  refine pure_to Tryd.func12 S.comm_EncodeLarges_code S.comm_EncodeLarges_enter (by exact encR_ids _ _ _) (Nat.le_of_ble_eq_true rfl) fun wf => ?_; simp only [S.comm_EncodeLarges]
  simp
  refine laycL_ct hs hf hl _ ?_
  unfold encR
  split <;> simp
end Go.Am

/-
  Contracts: the reference's lists laid as bytes (written by program, wip/comm/C3.py).
-/
namespace Go.Am
open Go.Proofs

set_option maxRecDepth 100000
theorem less_iff (x y : Lg) : oL x y < 0 ↔ if x.1 = y.1 then (if x.2.1 = y.2.1 then x.2.2 < y.2.2 else x.2.1 < y.2.1) else x.1 < y.1 := by
  unfold oL orI cmpI
  by_cases e1 : x.1 = y.1
  · by_cases e2 : x.2.1 = y.2.1
    · simp only [e1, e2, Int.lt_irrefl, if_true, if_false]
      (repeat' split) <;> omega
    · simp only [e1, e2, Int.lt_irrefl, if_true, if_false]
      (repeat' split) <;> omega
  · simp only [e1, if_false]
    (repeat' split) <;> omega
theorem less_ct {h : H} {x y : Lg} : Pure Tryd.prog 66 [.agg (cL x), .agg (cL y)] h (.bool (decide (oL x y < 0))) := by
  refine pure_to Tryd.func66 S.Href05_less_code S.Href05_less_enter rfl (Nat.le_of_ble_eq_true rfl) fun wf => ?_; simp only [S.Href05_less]
  have li := less_iff x y
  simp [cL]
  by_cases e1 : x.1 = y.1
  · rw [if_pos e1] at li
    by_cases e2 : x.2.1 = y.2.1
    · rw [if_pos e2] at li
      simp [e1, e2, li]
    · have e2' : ((x.2.1 : Int) != (y.2.1 : Int)) = true := by simpa using (show ¬ (x.2.1 : Int) = y.2.1 by omega)
      rw [if_neg e2] at li
      simp [e1, e2', li]
  · have e1' : ((x.1 : Int) != (y.1 : Int)) = true := by simpa using (show ¬ (x.1 : Int) = y.1 by omega)
    rw [if_neg e1] at li
    simp [e1', li]

theorem maycP_ct {h : H} {v : V} {l : List Nat} (hs : Sls h.get 1 v (l.map cP)) (hl : l.length ≤ 1000) : Pure Tryd.prog 38 [v] h (.bool (adjB oN l && decide (l.length ≤ 64))) := by
  refine pure_to Tryd.func38 S.Href05_May_code S.Href05_May_enter rfl (Nat.le_of_ble_eq_true rfl) fun wf => ?_; simp only [S.Href05_May]
  have hlen := hs.len
  simp at hlen
  simp
  refine loop_up (fun i t h' => (t 0 = v ∧ t 3 = .int .i64 ((i + 1 : Nat) : Int)) ∧ h' = h ∧ adjB oN (l.take (i + 1)) = true) l.length ⟨by simp, rfl, by cases l <;> simp [adjB]⟩ ?_
  rintro i t h' hi ⟨⟨t0, t3⟩, rfl, ha⟩ K hK
  obtain ⟨k, hk⟩ : ∃ k, k = i + 1 := ⟨_, rfl⟩
  rw [← hk] at t3
  by_cases hlt : i + 1 < l.length
  · have hw : IntKind.i64.wrap (((i + 1 : Nat) : Int) + 1) = ((i + 1 + 1 : Nat) : Int) := by rw [wrap_i64_id (by omega) (by omega)]; omega
    have wm : IntKind.i64.wrap (((i + 1 : Nat) : Int) - 1) = (i : Int) := by rw [wrap_i64_id (by omega) (by omega)]; omega
    have hkl : k < l.length := by omega
    rw [← hk] at wm hw
    simp [t0, t3, hlen, hkl]
    obtain ⟨p, qq, o, cs, e1, e2, e3⟩ := hs.at1 (f := fun x : Nat => V.int .u32 x) (show i + 1 < l.length by omega)
    obtain ⟨p', qq', o', cs', f1, f2, f3⟩ := hs.at1 (f := fun x : Nat => V.int .u32 x) (show i < l.length by omega)
    have e1' := e1 .i64
    have f1' := f1 .i64
    rw [← hk] at e1'
    refine dreg_of ?_
    simp [t0, t3, wm, e1', e2, e3, f1', f2, f3]
    by_cases hc : cmpI (l[i] : Nat) (l[i + 1]'(by omega) : Nat) < 0
    · have hc' : ¬ (l[i + 1]'(by omega)) ≤ l[i] := by
        unfold cmpI at hc
        split at hc
        · omega
        · split at hc <;> omega
      simp [hc', t3, hw]
      exact hK _ _ (by omega) ⟨by simp [t0, hk], rfl, adjB_step (i := i + 1) ha (by omega) (fun _ => hc)⟩
    · have hc' : (l[i + 1]'(by omega)) ≤ l[i] := by
        unfold cmpI at hc
        split at hc
        · omega
        · omega
      have := adjB_false (c := oN) (i := i + 1) (by omega) hlt hc
      simp [hc', this]
  · have hkl : ¬ k < l.length := by omega
    rw [List.take_of_length_le (by omega)] at ha
    have z64 : ((l.length : Int) ≤ 64) = (l.length ≤ 64) := propext (by omega)
    simp [t0, t3, hlen, hkl, ha, z64]
theorem renccP_ct {h : H} {v : V} {l : List Nat} (hs : Sls h.get 1 v (l.map cP)) (hf : ∀ x ∈ l, x < 4294967296) (hl : l.length ≤ 1000) : Pure Tryd.prog 9 [v] h (encR oN bP l) := by
  refine pure_to Tryd.func9 S.Href05_Encode_code S.Href05_Encode_enter (by exact encR_ids _ _ _) (Nat.le_of_ble_eq_true rfl) fun wf => ?_; simp only [S.Href05_Encode]
  have hlen := hs.len
  simp at hlen
  simp
  refine maycP_ct hs hl _ ?_
  by_cases hok : l.length ≤ 64 ∧ adjB oN l = true
  · rw [encR_yes hok.1 hok.2]
    simp [hok.1, hok.2]
    refine loop_up (fun i t h' => (t 0 = v ∧ t 4 = .str ((l.take i).flatMap bP) ∧ t 5 = .int .i64 (i : Nat)) ∧ h' = h) l.length ⟨by simp, rfl⟩ ?_
    rintro i t h' hi ⟨⟨t0, t4, t5⟩, rfl⟩ K hK
    by_cases hlt : i < l.length
    · have hw := wrap_succ hlt (by omega)
      have hfl0 : ((l.take i).flatMap bP).length ≤ 64 * 12 := by rw [flatMap_len _ bP bP_len]; simp; omega
      have hfl : ((l.take i).flatMap bP).length + 4 ≤ 9223372036854775807 := by omega
      have hfl2 : ((l.take i).flatMap bP).length + 4 + 4 ≤ 9223372036854775807 := by omega
      have hfl3 : ((l.take i).flatMap bP).length + 4 + 4 + 4 ≤ 9223372036854775807 := by omega
      have hap := flatMap_take bP l hlt
      obtain ⟨acc, hacc⟩ : ∃ acc, acc = (l.take i).flatMap bP := ⟨_, rfl⟩
      rw [← hacc] at t4 hfl hfl2 hfl3 hap
      obtain ⟨p, qq, o, cs, e1, e2, e3⟩ := hs.at1 (f := fun x : Nat => V.int .u32 x) hlt
      simp [t0, t4, t5, hlen, hlt, e1, e2, e3]
      refine four_ct _ ?_
      simp [t5, hw, be_len, hfl]
      refine hK _ _ hlt ⟨by simp [t0, hap, bP], rfl⟩
    · have : i = l.length := by omega
      subst this
      simp [t0, t4, t5, hlen]
  · have hno : (adjB oN l && decide (l.length ≤ 64)) = false := by
      cases h1 : adjB oN l <;> simp_all
    have : encR oN bP l = .tup [.str [], .int .i64 2] := if_neg hok
    rw [this, hno]
    simp

theorem maycX_ct {h : H} {v : V} {l : List Nat} (hs : Sls h.get 1 v (l.map cX)) (hl : l.length ≤ 1000) : Pure Tryd.prog 43 [v] h (.bool (adjB oN l && decide (l.length ≤ 64))) := by
  refine pure_to Tryd.func43 S.Href05_MayExts_code S.Href05_MayExts_enter rfl (Nat.le_of_ble_eq_true rfl) fun wf => ?_; simp only [S.Href05_MayExts]
  have hlen := hs.len
  simp at hlen
  simp
  refine loop_up (fun i t h' => (t 0 = v ∧ t 3 = .int .i64 ((i + 1 : Nat) : Int)) ∧ h' = h ∧ adjB oN (l.take (i + 1)) = true) l.length ⟨by simp, rfl, by cases l <;> simp [adjB]⟩ ?_
  rintro i t h' hi ⟨⟨t0, t3⟩, rfl, ha⟩ K hK
  obtain ⟨k, hk⟩ : ∃ k, k = i + 1 := ⟨_, rfl⟩
  rw [← hk] at t3
  by_cases hlt : i + 1 < l.length
  · have hw : IntKind.i64.wrap (((i + 1 : Nat) : Int) + 1) = ((i + 1 + 1 : Nat) : Int) := by rw [wrap_i64_id (by omega) (by omega)]; omega
    have wm : IntKind.i64.wrap (((i + 1 : Nat) : Int) - 1) = (i : Int) := by rw [wrap_i64_id (by omega) (by omega)]; omega
    have hkl : k < l.length := by omega
    rw [← hk] at wm hw
    simp [t0, t3, hlen, hkl]
    obtain ⟨p, qq, o, cs, e1, e2, e3⟩ := hs.at1 (f := fun x : Nat => V.int .u64 x) (show i + 1 < l.length by omega)
    obtain ⟨p', qq', o', cs', f1, f2, f3⟩ := hs.at1 (f := fun x : Nat => V.int .u64 x) (show i < l.length by omega)
    have e1' := e1 .i64
    have f1' := f1 .i64
    rw [← hk] at e1'
    refine dreg_of ?_
    simp [t0, t3, wm, e1', e2, e3, f1', f2, f3]
    by_cases hc : cmpI (l[i] : Nat) (l[i + 1]'(by omega) : Nat) < 0
    · have hc' : ¬ (l[i + 1]'(by omega)) ≤ l[i] := by
        unfold cmpI at hc
        split at hc
        · omega
        · split at hc <;> omega
      simp [hc', t3, hw]
      exact hK _ _ (by omega) ⟨by simp [t0, hk], rfl, adjB_step (i := i + 1) ha (by omega) (fun _ => hc)⟩
    · have hc' : (l[i + 1]'(by omega)) ≤ l[i] := by
        unfold cmpI at hc
        split at hc
        · omega
        · omega
      have := adjB_false (c := oN) (i := i + 1) (by omega) hlt hc
      simp [hc', this]
  · have hkl : ¬ k < l.length := by omega
    rw [List.take_of_length_le (by omega)] at ha
    have z64 : ((l.length : Int) ≤ 64) = (l.length ≤ 64) := propext (by omega)
    simp [t0, t3, hlen, hkl, ha, z64]
theorem renccX_ct {h : H} {v : V} {l : List Nat} (hs : Sls h.get 1 v (l.map cX)) (hf : ∀ x ∈ l, x < 18446744073709551616) (hl : l.length ≤ 1000) : Pure Tryd.prog 11 [v] h (encR oN bX l) := by
  refine pure_to Tryd.func11 S.Href05_EncodeExts_code S.Href05_EncodeExts_enter (by exact encR_ids _ _ _) (Nat.le_of_ble_eq_true rfl) fun wf => ?_; simp only [S.Href05_EncodeExts]
  have hlen := hs.len
  simp at hlen
  simp
  refine maycX_ct hs hl _ ?_
  by_cases hok : l.length ≤ 64 ∧ adjB oN l = true
  · rw [encR_yes hok.1 hok.2]
    simp [hok.1, hok.2]
    refine loop_up (fun i t h' => (t 0 = v ∧ t 4 = .str ((l.take i).flatMap bX) ∧ t 5 = .int .i64 (i : Nat)) ∧ h' = h) l.length ⟨by simp, rfl⟩ ?_
    rintro i t h' hi ⟨⟨t0, t4, t5⟩, rfl⟩ K hK
    by_cases hlt : i < l.length
    · have hw := wrap_succ hlt (by omega)
      have hfl0 : ((l.take i).flatMap bX).length ≤ 64 * 12 := by rw [flatMap_len _ bX bX_len]; simp; omega
      have hfl : ((l.take i).flatMap bX).length + 4 ≤ 9223372036854775807 := by omega
      have hfl2 : ((l.take i).flatMap bX).length + 4 + 4 ≤ 9223372036854775807 := by omega
      have hfl3 : ((l.take i).flatMap bX).length + 4 + 4 + 4 ≤ 9223372036854775807 := by omega
      have hap := flatMap_take bX l hlt
      obtain ⟨acc, hacc⟩ : ∃ acc, acc = (l.take i).flatMap bX := ⟨_, rfl⟩
      rw [← hacc] at t4 hfl hfl2 hfl3 hap
      obtain ⟨p, qq, o, cs, e1, e2, e3⟩ := hs.at1 (f := fun x : Nat => V.int .u64 x) hlt
      have hx := hf _ (List.getElem_mem hlt)
      obtain ⟨y, hy⟩ : ∃ y, y = l[i] := ⟨_, rfl⟩
      rw [← hy] at hx e3
      obtain ⟨hi', hhi⟩ : ∃ hi', hi' = y / 4294967296 := ⟨_, rfl⟩
      obtain ⟨lo, hlo⟩ : ∃ lo, lo = y % 4294967296 := ⟨_, rfl⟩
      have wu1 : IntKind.u32.wrap ((y : Int) / 4294967296) = (hi' : Int) := by rw [hhi]; simp [IntKind.wrap, IntKind.bits, IntKind.signed]; omega
      have wu2 : IntKind.u32.wrap (y : Int) = (lo : Int) := by rw [hlo]; simp [IntKind.wrap, IntKind.bits, IntKind.signed]
      simp [t0, t5, hlen, hlt]
      refine dreg_plain [(39, fourP)] (plain1 fourP_ok) (by rfl) ?_
      simp [List.lookup, t0, t4, t5, e1, e2, e3, fd32, wu1, wu2, fourP_eq, be_len, hfl, hfl2, hw]
      refine hK _ _ hlt ⟨by simp [t0, hap, bX, ← hy, ← hhi, hlo, be4_mod], rfl⟩
    · have : i = l.length := by omega
      subst this
      simp [t0, t4, t5, hlen]
  · have hno : (adjB oN l && decide (l.length ≤ 64)) = false := by
      cases h1 : adjB oN l <;> simp_all
    have : encR oN bX l = .tup [.str [], .int .i64 2] := if_neg hok
    rw [this, hno]
    simp

theorem maycL_ct {h : H} {v : V} {l : List Lg} (hs : Sls h.get 3 v (l.map cL)) (hl : l.length ≤ 1000) : Pure Tryd.prog 47 [v] h (.bool (adjB oL l && decide (l.length ≤ 64))) := by
  refine pure_to Tryd.func47 S.Href05_MayLarges_code S.Href05_MayLarges_enter rfl (Nat.le_of_ble_eq_true rfl) fun wf => ?_; simp only [S.Href05_MayLarges]
  have hlen := hs.len
  simp at hlen
  simp
  refine loop_up (fun i t h' => (t 0 = v ∧ t 3 = .int .i64 ((i + 1 : Nat) : Int)) ∧ h' = h ∧ adjB oL (l.take (i + 1)) = true) l.length ⟨by simp, rfl, by cases l <;> simp [adjB]⟩ ?_
  rintro i t h' hi ⟨⟨t0, t3⟩, rfl, ha⟩ K hK
  obtain ⟨k, hk⟩ : ∃ k, k = i + 1 := ⟨_, rfl⟩
  rw [← hk] at t3
  by_cases hlt : i + 1 < l.length
  · have hw : IntKind.i64.wrap (((i + 1 : Nat) : Int) + 1) = ((i + 1 + 1 : Nat) : Int) := by rw [wrap_i64_id (by omega) (by omega)]; omega
    have wm : IntKind.i64.wrap (((i + 1 : Nat) : Int) - 1) = (i : Int) := by rw [wrap_i64_id (by omega) (by omega)]; omega
    have hkl : k < l.length := by omega
    rw [← hk] at wm hw
    simp [t0, t3, hlen, hkl]
    obtain ⟨p, qq, o, cs, e1, e2, e3, e4, _⟩ := hs.at (k := i + 1) (by simp; omega)
    obtain ⟨p', qq', o', cs', f1, f2, f3, f4, _⟩ := hs.at (k := i) (by simp; omega)
    have e1' := e1 .i64
    have f1' := f1 .i64
    have e4' : (cs.drop o).take 3 = cL (l[i + 1]'(by omega)) := by rw [e4]; simp
    have f4' : (cs'.drop o').take 3 = cL l[i] := by rw [f4]; simp
    rw [← hk] at e1'
    refine dreg_of ?_
    simp [t0, t3, wm, e1', e2, e3, f1', f2, f3, e4', f4']
    refine scall_of (less_ct (x := l[i]) (y := l[i + 1]'(by omega))) ?_
    by_cases hc : oL l[i] (l[i + 1]'(by omega)) < 0
    · simp [hc, t3, hw]
      exact hK _ _ (by omega) ⟨by simp [t0, hk], rfl, adjB_step (i := i + 1) ha (by omega) (fun _ => hc)⟩
    · have := adjB_false (c := oL) (i := i + 1) (by omega) hlt hc
      simp [hc, this]
  · have hkl : ¬ k < l.length := by omega
    rw [List.take_of_length_le (by omega)] at ha
    have z64 : ((l.length : Int) ≤ 64) = (l.length ≤ 64) := propext (by omega)
    simp [t0, t3, hlen, hkl, ha, z64]
theorem renccL_ct {h : H} {v : V} {l : List Lg} (hs : Sls h.get 3 v (l.map cL)) (hf : ∀ x ∈ l, x.1 < 4294967296 ∧ x.2.1 < 4294967296 ∧ x.2.2 < 4294967296) (hl : l.length ≤ 1000) : Pure Tryd.prog 13 [v] h (encR oL bL l) := by
  refine pure_to Tryd.func13 S.Href05_EncodeLarges_code S.Href05_EncodeLarges_enter (by exact encR_ids _ _ _) (Nat.le_of_ble_eq_true rfl) fun wf => ?_; simp only [S.Href05_EncodeLarges]
  have hlen := hs.len
  simp at hlen
  simp
  refine maycL_ct hs hl _ ?_
  by_cases hok : l.length ≤ 64 ∧ adjB oL l = true
  · rw [encR_yes hok.1 hok.2]
    simp [hok.1, hok.2]
    refine loop_up (fun i t h' => (t 0 = v ∧ t 4 = .str ((l.take i).flatMap bL) ∧ t 5 = .int .i64 (i : Nat)) ∧ h' = h) l.length ⟨by simp, rfl⟩ ?_
    rintro i t h' hi ⟨⟨t0, t4, t5⟩, rfl⟩ K hK
    by_cases hlt : i < l.length
    · have hw := wrap_succ hlt (by omega)
      have hfl0 : ((l.take i).flatMap bL).length ≤ 64 * 12 := by rw [flatMap_len _ bL bL_len]; simp; omega
      have hfl : ((l.take i).flatMap bL).length + 4 ≤ 9223372036854775807 := by omega
      have hfl2 : ((l.take i).flatMap bL).length + 4 + 4 ≤ 9223372036854775807 := by omega
      have hfl3 : ((l.take i).flatMap bL).length + 4 + 4 + 4 ≤ 9223372036854775807 := by omega
      have hap := flatMap_take bL l hlt
      obtain ⟨acc, hacc⟩ : ∃ acc, acc = (l.take i).flatMap bL := ⟨_, rfl⟩
      rw [← hacc] at t4 hfl hfl2 hfl3 hap
      obtain ⟨p, qq, o, cs, e1, e2, e3, e4, e5⟩ := hs.at (k := i) (by simpa using hlt)
      have j0 := e5 0 (by omega)
      have j1 := e5 1 (by omega)
      have j2 := e5 2 (by omega)
      simp [cL] at j0 j1 j2
      simp [t0, t5, hlen, hlt]
      refine dreg_plain [(39, fourP)] (plain1 fourP_ok) (by rfl) ?_
      simp [List.lookup, t0, t4, t5, e1, e2, j0, j1, j2, fourP_eq, be_len, hfl, hfl2, hfl3, hw]
      refine hK _ _ hlt ⟨by simp [t0, hap, bL], rfl⟩
    · have : i = l.length := by omega
      subst this
      simp [t0, t4, t5, hlen]
  · have hno : (adjB oL l && decide (l.length ≤ 64)) = false := by
      cases h1 : adjB oL l <;> simp_all
    have : encR oL bL l = .tup [.str [], .int .i64 2] := if_neg hok
    rw [this, hno]
    simp
end Go.Am
