/-
  C1, CL, CR1, CR3, CR4, CR5, CR6, CR7, in one text.
-/
import Derived.Test.YtfbmffkgphgoaaaGreatDoorNW
import Derived.Test.YtfbmffkgphgoaaaGreatDoorC0
import Derived.Test.YtfbmffkgphgoaaaGreatDoorAm31
import Derived.Test.YtfbmffkgphgoaaaGreatDoorAm37
/-
  Contracts: comparisons, put, what lays one, Four, what two are apart.
-/
namespace Go.Am
open Go.Proofs

set_option maxRecDepth 100000
theorem nan32_ct {h : H} {a : Int} : Pure Tryz.prog 58 [.int .u32 a] h (.bool false) := by
  refine pure_to Tryz.func58 S.cmp_isNaN_uint32_code S.cmp_isNaN_uint32_enter rfl (Nat.le_of_ble_eq_true rfl) fun wf => ?_; simp only [S.cmp_isNaN_uint32]
  simp
theorem nan64_ct {h : H} {a : Int} : Pure Tryz.prog 63 [.int .u64 a] h (.bool false) := by
  refine pure_to Tryz.func63 S.cmp_isNaN_uint64_code S.cmp_isNaN_uint64_enter rfl (Nat.le_of_ble_eq_true rfl) fun wf => ?_; simp only [S.cmp_isNaN_uint64]
  simp
theorem cmp32_ct {h : H} {a b : Int} : Pure Tryz.prog 27 [.int .u32 a, .int .u32 b] h (.int .i64 (cmpI a b)) := by
  refine pure_to Tryz.func27 S.cmp_Compare_uint32_code S.cmp_Compare_uint32_enter rfl (Nat.le_of_ble_eq_true rfl) fun wf => ?_; simp only [S.cmp_Compare_uint32]
  simp
  refine nan32_ct _ ?_
  simp
  refine nan32_ct _ ?_
  simp
  by_cases h1 : a < b
  · simp [h1, cmpI]
  · by_cases h2 : b < a <;> simp [h1, h2, cmpI]
theorem cmp64_ct {h : H} {a b : Int} : Pure Tryz.prog 32 [.int .u64 a, .int .u64 b] h (.int .i64 (cmpI a b)) := by
  refine pure_to Tryz.func32 S.cmp_Compare_uint64_code S.cmp_Compare_uint64_enter rfl (Nat.le_of_ble_eq_true rfl) fun wf => ?_; simp only [S.cmp_Compare_uint64]
  simp
  refine nan64_ct _ ?_
  simp
  refine nan64_ct _ ?_
  simp
  by_cases h1 : a < b
  · simp [h1, cmpI]
  · by_cases h2 : b < a <;> simp [h1, h2, cmpI]
theorem or3_ct {h : H} {q : Nat} {a b c : Int} (hq : h.get q = some (.row [.int .i64 a, .int .i64 b, .int .i64 c])) : Pure Tryz.prog 66 [.sl q 3 0 3 (some 3)] h (.int .i64 (orI a (orI b c))) := by
  refine pure_to Tryz.func66 S.cmp_Or_int_code S.cmp_Or_int_enter rfl (Nat.le_of_ble_eq_true rfl) fun wf => ?_; simp only [S.cmp_Or_int]
  have c1 : cellsAt h.get q 3 = some [.int .i64 a, .int .i64 b, .int .i64 c] := by rw [cellsAt_of hq (by rfl)]; rfl
  simp
  refine loop_up (fun i t h' => (t 3 = .int .i64 0 ∧ t 6 = .sl q 3 0 3 (some 3) ∧ t 7 = .int .i64 3 ∧ t 8 = .int .i64 (i : Nat)) ∧ h' = h ∧ (0 < i → a = 0) ∧ (1 < i → b = 0) ∧ (2 < i → c = 0)) 3 ⟨by simp, rfl, by omega, by omega, by omega⟩ ?_
  rintro i t h' hi ⟨⟨t3, t6, t7, t8⟩, rfl, k1, k2, k3⟩ K hK
  have w1 : IntKind.i64.wrap 1 = 1 := by decide
  have w2 : IntKind.i64.wrap 2 = 2 := by decide
  have w3 : IntKind.i64.wrap 3 = 3 := by decide
  rcases (by omega : i = 0 ∨ i = 1 ∨ i = 2 ∨ i = 3) with rfl | rfl | rfl | rfl
  · by_cases hz : a = 0
    · simp [t3, t6, t7, t8, c1, hz, w1]
      exact hK _ _ (by omega) ⟨by simp [t3, t6, t7], rfl, fun _ => hz, by omega, by omega⟩
    · have hb : (a != 0) = true := by simpa using hz
      simp [t3, t6, t7, t8, c1, hb, orI_nz hz]
  · have z1 := k1 (by omega)
    by_cases hz : b = 0
    · simp [t3, t6, t7, t8, c1, hz, w2]
      exact hK _ _ (by omega) ⟨by simp [t3, t6, t7], rfl, fun _ => z1, fun _ => hz, by omega⟩
    · have hb : (b != 0) = true := by simpa using hz
      simp [t3, t6, t7, t8, c1, hb, z1, orI_zero, orI_nz hz]
  · have z1 := k1 (by omega)
    have z2 := k2 (by omega)
    by_cases hz : c = 0
    · simp [t3, t6, t7, t8, c1, hz, w3]
      exact hK _ _ (by omega) ⟨by simp [t3, t6, t7], rfl, fun _ => z1, fun _ => z2, fun _ => hz⟩
    · have hb : (c != 0) = true := by simpa using hz
      simp [t3, t6, t7, t8, c1, hb, z1, z2, orI_zero]
  · have z1 := k1 (by omega)
    have z2 := k2 (by omega)
    have z3 := k3 (by omega)
    simp [t3, t7, t8, z1, z2, z3, orI_zero]
def cmp32P : List V → Option V
  | [.int .u32 a, .int .u32 b] => some (.int .i64 (cmpI a b))
  | _ => none
theorem cmp32P_ok : ∀ p ∈ [(27, cmp32P)], ∀ vals v, p.2 vals = some v → ∀ h, Acalls Tryz.prog p.1 vals h fun u h' => u = v ∧ h' = h := by
  intro p hp vals v e h
  simp only [List.mem_cons, List.not_mem_nil, or_false] at hp
  subst hp
  simp only [cmp32P] at e
  split at e
  · cases e; exact cmp32_ct _ ⟨rfl, rfl⟩
  · cases e
theorem larger_ct {h : H} {x y : Lg} : Pure Tryz.prog 35 [.agg (cL x), .agg (cL y)] h (.int .i64 (oL x y)) := by
  refine pure_to Tryz.func35 S.comm_larger_code S.comm_larger_enter rfl (Nat.le_of_ble_eq_true rfl) fun wf => ?_; simp only [S.comm_larger]
  obtain ⟨h2, hh2⟩ : ∃ h2, h2 = (h.push (.row (cL x))).push (.row (cL y)) := ⟨_, rfl⟩
  have g2 : Ge h h2 := by rw [hh2]; exact ((Ge.refl _).push _).push _
  have c1 : cellsAt h2.get h.next 3 = some (cL x) := by rw [hh2]; simp [cL]
  have c2 : cellsAt h2.get (h.next + 1) 3 = some (cL y) := by rw [hh2]; simp [cL]
  simp only [cL] at hh2 c1 c2
  simp [cL]
  rw [← hh2]
  have r3 : repCells 3 [V.int .i64 0] = [.int .i64 0, .int .i64 0, .int .i64 0] := rfl
  refine dreg_plain _ cmp32P_ok (by rfl) ?_
  simp [List.lookup, c1, c2, r3, cmp32P]
  refine scall_of (or3_ct (q := h2.next) (a := cmpI x.1 y.1) (b := cmpI x.2.1 y.2.1) (c := cmpI x.2.2 y.2.2) (by simp)) ?_
  simp [oL]
  exact g2.push _
theorem plain1 {P : Program} {k : Nat} {fn : List V → Option V} (c : ∀ vals v, fn vals = some v → ∀ h, Pure P k vals h v) : ∀ p ∈ [(k, fn)], ∀ vals v, p.2 vals = some v → ∀ h, Acalls P p.1 vals h fun u h' => u = v ∧ h' = h := by
  intro p hp vals v e h
  rw [List.mem_singleton] at hp
  subst hp
  exact c vals v e h _ ⟨rfl, rfl⟩
theorem fd24 (n : Nat) : ((n : Nat) : Int).fdiv (2 ^ min 24 IntKind.u32.bits) = (n : Int) / 16777216 := Int.fdiv_eq_ediv_of_nonneg _ (by decide)
theorem fd16 (n : Nat) : ((n : Nat) : Int).fdiv (2 ^ min 16 IntKind.u32.bits) = (n : Int) / 65536 := Int.fdiv_eq_ediv_of_nonneg _ (by decide)
theorem fd8 (n : Nat) : ((n : Nat) : Int).fdiv (2 ^ min 8 IntKind.u32.bits) = (n : Int) / 256 := Int.fdiv_eq_ediv_of_nonneg _ (by decide)
/-- A number's low byte. -/
theorem lowb {z : Int} {m : Nat} (h : z = (m : Int)) : ∃ b : UInt8, b = UInt8.ofNat m ∧ IntKind.u8.wrap z = (b.toNat : Int) := ⟨_, rfl, by subst h; simp [IntKind.wrap, IntKind.bits, IntKind.signed]⟩
theorem u8n (b : UInt8) : u8Of (.int .u8 (b.toNat : Int)) = some b := by simp [u8Of]
theorem be1 (n : Nat) : be 1 n = [UInt8.ofNat n] := by simp [be]
theorem be3 (n : Nat) : be 3 n = [UInt8.ofNat (n / 65536), UInt8.ofNat (n / 256), UInt8.ofNat n] := by simp [be]
theorem be4 (n : Nat) : be 4 n = [UInt8.ofNat (n / 16777216), UInt8.ofNat (n / 65536), UInt8.ofNat (n / 256), UInt8.ofNat n] := by simp [be]
theorem fd32 (n : Nat) : ((n : Nat) : Int).fdiv (2 ^ min 32 IntKind.u64.bits) = (n : Int) / 4294967296 := Int.fdiv_eq_ediv_of_nonneg _ (by decide)
theorem be8 (n : Nat) : be 8 n = be 4 (n / 4294967296) ++ be 4 n := by
  simp [be, Nat.div_div_eq_div_mul]
theorem ofNat_mod {a b : Nat} (h : a % 256 = b % 256) : UInt8.ofNat a = UInt8.ofNat b := UInt8.toNat_inj.1 (by simpa using h)
theorem be4_mod (n : Nat) : be 4 (n % 4294967296) = be 4 n := by
  simp only [be4, List.cons.injEq, and_true]
  exact ⟨ofNat_mod (by omega), ofNat_mod (by omega), ofNat_mod (by omega), ofNat_mod (by omega)⟩
/-- Several numbers of four bytes put. -/
theorem cput_ct {h : H} {v : V} {s : List UInt8} {l : List Nat} (hs : Sls h.get 1 v (l.map cP)) (hf : ∀ x ∈ l, x < 4294967296) (hl : s.length + l.length * 4 ≤ 100000) : Pure Tryz.prog 41 [.str s, v] h (.str (s ++ l.flatMap bP)) := by
  refine pure_to Tryz.func41 S.comm_put_code S.comm_put_enter rfl (Nat.le_of_ble_eq_true rfl) fun wf => ?_; simp only [S.comm_put]
  have hlen := hs.len
  simp at hlen
  simp [hlen]
  refine loop_up (fun i t h' => (t 0 = .str (s ++ (l.take i).flatMap bP) ∧ t 7 = v ∧ t 8 = .int .i64 l.length ∧ t 9 = .int .i64 (i : Nat)) ∧ h' = h) l.length ⟨by simp, rfl⟩ ?_
  rintro i t h' hi ⟨⟨t0, t7, t8, t9⟩, rfl⟩ K hK
  by_cases hlt : i < l.length
  · obtain ⟨p, qq, o, cs, e1, e2, e3⟩ := hs.at1 (f := fun x : Nat => V.int .u32 x) hlt
    have hw := wrap_succ hlt (by omega)
    have hx := hf _ (List.getElem_mem hlt)
    have w64 : IntKind.u64.wrap ((l[i] : Nat) : Int) = (l[i] : Nat) := u64_id (by omega)
    have hfl : ((l.take i).flatMap bP).length = i * 4 := by rw [flatMap_len 4 bP bP_len]; simp; omega
    simp [t0, t7, t8, t9, hlt, e1, e2, e3, w64]
    refine put_ct (size := 4) (by omega) (by omega) (by omega) (by rw [List.length_append, hfl]; omega) _ ?_
    simp [t9, hw]
    refine hK _ _ hlt ⟨by simp [t7, t8, flatMap_take bP l hlt, bP], rfl⟩
  · have : i = l.length := by omega
    subst this
    simp [t0, t8, t9]
end Go.Am

/-
  The reference's order of large ones.
-/
namespace Go.Am
open Go.Proofs

set_option maxRecDepth 100000
theorem less_iff (x y : Lg) : oL x y < 0 ↔ if x.1 = y.1 then (if x.2.1 = y.2.1 then x.2.2 < y.2.2 else x.2.1 < y.2.1) else x.1 < y.1 := by
  unfold oL orI cmpI
  by_cases e1 : x.1 = y.1
  · by_cases e2 : x.2.1 = y.2.1
    · simp only [e1, e2, Int.lt_irrefl, if_true, if_false]
      (repeat' split) <;> omega
    · simp only [e1, e2, Int.lt_irrefl, if_true, if_false]
      (repeat' split) <;> omega
  · simp only [e1, if_false]
    (repeat' split) <;> omega
theorem less_ct {h : H} {x y : Lg} : Pure Tryz.prog 37 [.agg (cL x), .agg (cL y)] h (.bool (decide (oL x y < 0))) := by
  refine pure_to Tryz.func37 S.Href05_less_code S.Href05_less_enter rfl (Nat.le_of_ble_eq_true rfl) fun wf => ?_; simp only [S.Href05_less]
  have li := less_iff x y
  simp [cL]
  by_cases e1 : x.1 = y.1
  · rw [if_pos e1] at li
    by_cases e2 : x.2.1 = y.2.1
    · rw [if_pos e2] at li
      simp [e1, e2, li]
    · have e2' : ((x.2.1 : Int) != (y.2.1 : Int)) = true := by simpa using (show ¬ (x.2.1 : Int) = y.2.1 by omega)
      rw [if_neg e2] at li
      simp [e1, e2', li]
  · have e1' : ((x.1 : Int) != (y.1 : Int)) = true := by simpa using (show ¬ (x.1 : Int) = y.1 by omega)
    rw [if_neg e1] at li
    simp [e1', li]
end Go.Am

/-
  Reading one thing; comparing cells.
-/
namespace Go.Am
open Go.Proofs

set_option maxRecDepth 100000
theorem bq (x y : Int) : (x == y) = decide (x = y) := by by_cases h : x = y <;> simp [h]
theorem eqFs_cons {off sz : Nat} {agg : Bool} {ts : TS} {fs : List (Nat × Nat × Bool × TS)} {xs ys : List V} {x y : V} {b : Bool} (hx : partV agg off sz xs = some x) (hy : partV agg off sz ys = some y) (hb : eqV ts x y = some b) :
    eqFs ((off, sz, agg, ts) :: fs) xs ys = if b = true then eqFs fs xs ys else some false := by
  simp only [eqFs, hx, hy, hb]
  cases b <;> rfl
theorem eqV_int (k : IntKind) (a b : Int) : eqV .int (.int k a) (.int k b) = some (decide (a = b)) := by simp [eqV, bq]
theorem eqV_nat (k : IntKind) (a b : Nat) : eqV .int (.int k (a : Int)) (.int k (b : Int)) = some (decide (a = b)) := by
  rw [eqV_int]
  by_cases h : a = b
  · simp [h]
  · have : ¬ (a : Int) = b := by omega
    simp [h, this]
theorem ifs (a b : Bool) : (if a = true then some b else some false) = some (a && b) := by cases a <;> rfl

theorem loop_cut {body : (Exit → Tm → H → Prop) → Tm → H → Prop} {Q : Exit → Tm → H → Prop} {t : Tm} {h : H} {id : Nat} (J : Tm → H → Prop) (ha : ∀ R : Exit → Tm → H → Prop, (∀ t' h', J t' h' → R .normal t' h') → loopA body (blockA id R) t h) (k : ∀ t' h', J t' h' → Q .normal t' h') : loopA body (blockA id Q) t h := ha Q k
theorem swp_cut {P : Program} {K : Tm → H → Prop} {ops : List SI} {t : Tm} {h : H} (J : Tm → H → Prop) (ha : ∀ K' : Tm → H → Prop, (∀ t' h', J t' h' → K' t' h') → Swp P K' ops t h) (k : ∀ t' h', J t' h' → K t' h') : Swp P K ops t h := ha K k
theorem take4_ct {h : H} {i : Nat} {l : List UInt8} (r : h.get i = some (rdr l)) (hn : 4 ≤ l.length) {Q : V → H → Prop} (q : Q (.int .u32 (val (l.take 4) : Nat)) (h.set i (rdr (l.drop 4)))) : Acalls Tryz.prog 28 [.ptr i 2 0] h Q := by
  refine acalls_to Tryz.func28 S.comm_take_code S.comm_take_enter (Nat.le_of_ble_eq_true rfl) fun wf => ?_; simp only [S.comm_take]
  simp
  refine number_yes r 4 rfl (by omega) hn ?_
  have hv := val_lt 4 (l.take 4) (by simp; omega)
  have w : IntKind.u32.wrap (val (l.take 4) : Int) = (val (l.take 4) : Nat) := by simp [IntKind.wrap, IntKind.bits, IntKind.signed]; omega
  simp [w]
  exact q
theorem u64_high (a b : Nat) (ha : a < 4294967296) (hb : b < 4294967296) : intV .or .u64 ((a * 4294967296 : Nat) : Int) (b : Int) = some (.int .u64 ((a * 4294967296 + b : Nat) : Int)) := by
  have h1 : (BitVec.ofInt 64 ((a * 4294967296 : Nat) : Int)).toNat = 2 ^ 32 * a := by simp [BitVec.toNat_ofInt]; omega
  have h2 : (BitVec.ofInt 64 (b : Int)).toNat = b := by simp; omega
  have h3 : (BitVec.ofInt 64 ((a * 4294967296 : Nat) : Int) ||| BitVec.ofInt 64 (b : Int)).toNat = a * 4294967296 + b := by
    rw [BitVec.toNat_or, h1, h2, ← Nat.two_pow_add_eq_or_of_lt (by omega)]; omega
  show some (V.int .u64 (IntKind.u64.wrap ((BitVec.ofInt 64 ((a * 4294967296 : Nat) : Int) ||| BitVec.ofInt 64 (b : Int)).toNat : Int))) = _
  rw [h3, u64_id (by omega)]
theorem shl32 (a : Nat) (ha : a < 4294967296) : IntKind.u64.wrap ((a : Int) * 2 ^ min 32 IntKind.u64.bits) = ((a * 4294967296 : Nat) : Int) := by
  have : (a : Int) * 2 ^ min 32 IntKind.u64.bits = ((a * 4294967296 : Nat) : Int) := by
    rw [show min 32 IntKind.u64.bits = 32 from rfl]; omega
  rw [this, u64_id (by omega)]
theorem oneX8_ct {h : H} {i : Nat} {l : List UInt8} (r : h.get i = some (rdr l)) (hn : 8 ≤ l.length) {Q : V → H → Prop} (q : Q (.int .u64 (fX (l.take 8) : Nat)) (h.set i (rdr (l.drop 8)))) : Acalls Tryz.prog 33 [.ptr i 2 0] h Q := by
  refine acalls_to Tryz.func33 S.comm_DecodeExts_1_code S.comm_DecodeExts_1_enter (Nat.le_of_ble_eq_true rfl) fun wf => ?_; simp only [S.comm_DecodeExts_1]
  simp
  refine take4_ct r (by omega) ?_
  have v1 := val_lt 4 (l.take 4) (by simp; omega)
  have v2 := val_lt 4 ((l.drop 4).take 4) (by simp; omega)
  have e1 : (l.take 8).take 4 = l.take 4 := by rw [List.take_take]; rfl
  have e2 : (l.take 8).drop 4 = (l.drop 4).take 4 := by rw [List.drop_take]
  have hq : fX (l.take 8) = val (l.take 4) * 4294967296 + val ((l.drop 4).take 4) := by unfold fX; rw [e1, e2]
  rw [hq] at q
  obtain ⟨a, ha⟩ : ∃ a, a = val (l.take 4) := ⟨_, rfl⟩
  obtain ⟨b, hb⟩ : ∃ b, b = val ((l.drop 4).take 4) := ⟨_, rfl⟩
  rw [← ha] at q v1
  rw [← hb] at q v2
  have wa : IntKind.u64.wrap (a : Int) = a := u64_id (by omega)
  have wb : IntKind.u64.wrap (b : Int) = b := u64_id (by omega)
  simp [← ha, wa, shl32 a (by omega)]
  refine take4_ct (i := i) (l := l.drop 4) (by simp) (by simp; omega) ?_
  have o := u64_high a b (by omega) (by omega)
  obtain ⟨x, hx⟩ : ∃ x : Int, x = ((a * 4294967296 : Nat) : Int) := ⟨_, rfl⟩
  rw [← hx] at o
  have hx' : (a : Int) * 4294967296 = x := by rw [hx]; omega
  simp [← hb, wb, hx', o]
  rw [← hx']
  simpa using q
theorem oneL12_ct {h : H} {i : Nat} {l : List UInt8} (r : h.get i = some (rdr l)) (hn : 12 ≤ l.length) {Q : V → H → Prop} (q : Q (.agg (cL (fL (l.take 12)))) (h.set i (rdr (l.drop 12)))) : Acalls Tryz.prog 36 [.ptr i 2 0] h Q := by
  refine Acalls.turn (i := i) (o' := rdr (l.drop 12)) ⟨_, r⟩ rfl (fun wf => ?_) (by kernel_rfl)
  refine acalls_to Tryz.func36 S.comm_DecodeLarges_1_code S.comm_DecodeLarges_1_enter (Nat.le_of_ble_eq_true rfl) fun wf => ?_; simp only [S.comm_DecodeLarges_1]
  have hlt := wf.lt r
  have e1 : (l.take 12).take 4 = l.take 4 := by rw [List.take_take]; rfl
  have e2 : ((l.take 12).drop 4).take 4 = (l.drop 4).take 4 := by rw [List.drop_take, List.take_take]; rfl
  have e3 : (l.take 12).drop 8 = (l.drop 8).take 4 := by rw [List.drop_take]
  have hq : fL (l.take 12) = (val (l.take 4), val ((l.drop 4).take 4), val ((l.drop 8).take 4)) := by unfold fL; rw [e1, e2, e3]
  rw [hq] at q
  have v1 := val_lt 4 (l.take 4) (by simp; omega)
  simp
  refine take4_ct (i := i) (l := l) (by simp [r]; omega) (by omega) ?_
  have v2 := val_lt 4 ((l.drop 4).take 4) (by simp; omega)
  have v3 := val_lt 4 ((l.drop 8).take 4) (by simp; omega)
  obtain ⟨a, ha⟩ : ∃ a, a = val (l.take 4) := ⟨_, rfl⟩
  obtain ⟨b, hb⟩ : ∃ b, b = val ((l.drop 4).take 4) := ⟨_, rfl⟩
  obtain ⟨c, hcc⟩ : ∃ c, c = val ((l.drop 8).take 4) := ⟨_, rfl⟩
  rw [← ha, ← hb, ← hcc] at q
  rw [← ha]
  have ne1 : ¬ i = h.next := by omega
  have ne2 : ¬ i = h.next + 1 := by omega
  have ne3 : ¬ h.next = i := by omega
  have ne4 : ¬ h.next + 1 = i := by omega
  simp
  refine take4_ct (i := i) (l := l.drop 4) (by simp [ne2]) (by simp; omega) ?_
  rw [← hb]
  simp [ne4]
  refine take4_ct (i := i) (l := l.drop 8) (by simp [ne2]) (by simp; omega) ?_
  rw [← hcc]
  simp [ne3, ne4]
  refine ⟨⟨by simp, fun k hk => ?_⟩, rfl, q⟩
  simp only [H.next_set] at hk
  have k1 : ¬ k = h.next := by omega
  have k2 : ¬ k = h.next + 1 := by omega
  by_cases ki : k = i
  · subst ki; simp [k1, k2]
  · simp [k1, k2, ki]
end Go.Am

/-
  slices.Compact at numbers and at large ones (written by program, wip/comm/CR3.py).
-/
namespace Go.Am
open Go.Proofs

set_option maxRecDepth 100000
theorem compact_snoc {α : Type} [DecidableEq α] : ∀ (l : List α) (y x : α), compactL (l ++ [y, x]) = if y = x then compactL (l ++ [y]) else compactL (l ++ [y]) ++ [x]
  | [], y, x => by
    simp only [List.nil_append, compactL]
    split
    · rename_i e; subst e; rfl
    · rfl
  | [a], y, x => by
    simp only [List.cons_append, List.nil_append, compactL]
    by_cases h1 : a = y <;> by_cases h2 : y = x <;> simp [h1, h2]
  | a :: b :: l, y, x => by
    have ih := compact_snoc (b :: l) y x
    simp only [List.cons_append] at ih ⊢
    rw [compactL, compactL]
    split
    · exact ih
    · rw [ih]
      split <;> simp
theorem compact_at {α : Type} [DecidableEq α] (l : List α) {m : Nat} (h1 : 0 < m) (h2 : m < l.length) : compactL (l.take (m + 1)) = if l[m - 1] = l[m] then compactL (l.take m) else compactL (l.take m) ++ [l[m]] := by
  obtain ⟨k, rfl⟩ : ∃ k, m = k + 1 := ⟨m - 1, by omega⟩
  have e1 : l.take (k + 1) = l.take k ++ [l[k]] := by rw [List.take_add_one, List.getElem?_eq_getElem (by omega)]; rfl
  have e3 : l.take (k + 1 + 1) = l.take (k + 1) ++ l[k + 1]?.toList := List.take_add_one
  have e2 : l.take (k + 1 + 1) = l.take k ++ [l[k], l[k + 1]] := by
    rw [e3, e1, List.getElem?_eq_getElem h2, List.append_assoc]
    rfl
  rw [e2, compact_snoc, e1]
  rfl
theorem compact_len {α : Type} [DecidableEq α] : ∀ l : List α, (compactL l).length ≤ l.length
  | [] => Nat.le_refl _
  | [_] => Nat.le_refl _
  | a :: b :: l => by
    have ih := compact_len (b :: l)
    unfold compactL
    split
    · simp only [List.length_cons] at ih ⊢; omega
    · simp only [List.length_cons] at ih ⊢; omega

section
variable {α : Type} {sz : Nat} {c : α → List V} (hc : ∀ x, (c x).length = sz)
include hc
theorem map_lenc (l : List α) : ∀ e ∈ l.map c, e.length = sz := fun e he => by obtain ⟨n, _, rfl⟩ := List.mem_map.1 he; exact hc n
theorem flatc_set (l : List α) (t : Nat) (x : α) (ht : t < l.length) : putCells (l.map c).flatten (t * sz) (c x) = ((l.set t x).map c).flatten := by
  have hs := map_lenc hc l
  have e1 := flat_take hs t
  have e2 := flat_drop hs (t + 1)
  rw [List.set_eq_take_append_cons_drop, if_pos ht, List.map_append, List.map_cons, List.flatten_append, List.flatten_cons, List.map_take, List.map_drop, e1, e2]
  unfold putCells
  rw [show t * sz + (c x).length = (t + 1) * sz by rw [hc, Nat.add_mul]; omega, List.append_assoc]
theorem slsc_part {g : Nat → Option O} {j : Nat} {l : List α} (hg : g j = some (.grow sz (l.map c).flatten)) (hb : l.length < 9223372036854775808) (k : Nat) (hk : k ≤ l.length) : Sls g sz (.sl j (l.length * sz) (k * sz) (l.length - k) none) ((l.drop k).map c) := by
  have hfl := flat_len (map_lenc hc l)
  simp only [List.length_map] at hfl
  refine ⟨.inr ⟨j, l.length * sz, k * sz, none, by simp⟩, map_lenc hc _, ?_, by simp; omega⟩
  rw [elemsV_sl]
  split
  · rename_i h0; rw [List.drop_of_length_le (by omega)]; rfl
  · rename_i h0
    have hm : k * sz + (l.length - k) * sz = l.length * sz := by rw [← Nat.add_mul]; congr 1; omega
    rw [cellsAt_of hg (by simp [hfl])]
    simp only [cells_grow]
    rw [if_pos (by omega), List.length_map, List.length_drop, List.map_drop, flat_drop (map_lenc hc l), List.take_of_length_le (by rw [List.length_drop, hfl, Nat.sub_mul]; omega)]
theorem slsc_all {g : Nat → Option O} {j : Nat} {l : List α} (hg : g j = some (.grow sz (l.map c).flatten)) (hb : l.length < 9223372036854775808) : Sls g sz (.sl j (l.length * sz) 0 l.length none) (l.map c) := by
  have := slsc_part hc hg hb 0 (Nat.zero_le _)
  simpa using this
end
theorem cP_len (x : Nat) : (cP x).length = 1 := rfl
theorem cX_len (x : Nat) : (cX x).length = 1 := rfl
theorem cL_len (x : Lg) : (cL x).length = 3 := rfl

theorem eq_lg (a b : Lg) : eqV (TS.st [(0, 1, false, TS.int), (1, 1, false, TS.int), (2, 1, false, TS.int)]) (.agg (cL a)) (.agg (cL b)) = some (decide (a = b)) := by
  show eqFs _ _ _ = _
  have e : ∀ x y : Nat, eqV TS.int (.int .u32 (x : Int)) (.int .u32 (y : Int)) = some (decide (x = y)) := fun x y => eqV_nat _ _ _
  rw [eqFs_cons (x := .int .u32 a.1) (y := .int .u32 b.1) rfl rfl (e _ _), eqFs_cons rfl rfl (e _ _), eqFs_cons rfl rfl (e _ _), show eqFs [] (cL a) (cL b) = some true from rfl]
  simp only [ifs]
  obtain ⟨a1, a2, a3⟩ := a
  obtain ⟨b1, b2, b3⟩ := b
  simp only [Prod.mk.injEq, Bool.and_true, Bool.decide_and]
theorem compactP_ct {h : H} {j : Nat} {l : List Nat} (hg : h.get j = some (.grow 1 (l.map cP).flatten)) (hl : l.length ≤ 140737488355328) (hne : l ≠ []) {Q : V → H → Prop}
    (q : ∀ v' h', (∀ i, i ≠ j → h'.get i = h.get i) → h'.next = h.next → h'.WF → Sls h'.get 1 v' ((compactL l).map cP) → CapOk v' → Q v' h') : Acalls Tryz.prog 57 [.sl j (l.length) 0 l.length none] h Q := by
  refine acalls_to Tryz.func57 S.slices_Compact_uint32_uint32_code S.slices_Compact_uint32_uint32_enter (Nat.le_of_ble_eq_true rfl) fun wf => ?_; simp only [S.slices_Compact_uint32_uint32]
  have hlt := wf.lt hg
  have s0 := slsc_all cP_len hg (by omega)
  simp only [Nat.mul_one] at s0
  have hpos : 0 < l.length := List.length_pos_iff.2 hne
  by_cases h2 : l.length < 2
  · have e1 : compactL l = l := by
      match l, hpos, h2 with
      | [a], _, _ => rfl
    have h2' : (l.length : Int) < 2 := by omega
    simp [h2']
    exact q _ _ (fun _ _ => rfl) rfl wf (by rw [e1]; exact s0) trivial
  have h2' : ¬ (l.length : Int) < 2 := by omega
  simp [h2']
  refine loop_up (fun i t h' => (t 0 = .sl j (l.length) 0 l.length none ∧ t 3 = .int .i64 ((i + 1 : Nat) : Int)) ∧ h' = h ∧ i + 1 ≤ l.length ∧ compactL (l.take (i + 1)) = l.take (i + 1)) (l.length - 1) ⟨by simp, rfl, by omega, by
    match l, hpos with
    | a :: r, _ => rfl⟩ ?_
  rintro i t h' hi ⟨⟨t0, t3⟩, rfl, hil, hci⟩ K hK
  obtain ⟨m, hm⟩ : ∃ m, m = i + 1 := ⟨_, rfl⟩
  rw [← hm] at t3 hci hil
  by_cases hlt2 : m < l.length
  · have hltI : (m : Int) < (l.length : Int) := by omega
    obtain ⟨p, qq, o, cs, e1, e2, e3⟩ := s0.at1 (f := fun x : Nat => V.int .u32 x) (k := m) hlt2
    obtain ⟨p', qq', o', cs', b1, b2, b3⟩ := s0.at1 (f := fun x : Nat => V.int .u32 x) (k := m - 1) (by omega)
    have wm : IntKind.i64.wrap ((m : Int) - 1) = ((m - 1 : Nat) : Int) := by rw [wrap_i64_id (by omega) (by omega)]; omega
    simp [t0, t3, hlt2]
    refine dreg_of ?_
    simp [t0, t3, e1, e2, e3, wm, b1, b2, b3]
    by_cases hx : l[m] = l[m - 1]
    · have esl : sliceSlV 1 (some (.int .i64 (m : Int))) none none (.sl j (l.length) 0 l.length none) = some (.sl j (l.length) (m) (l.length - m) none) := by
        simp only [sliceSlV, boundV_none, boundV_nat hil]
        rw [if_pos hlt2, Nat.zero_add, Nat.mul_one]
      simp [hx, t0, t3, esl]
      refine loop_cut (id := 2) (fun t h2 => ∃ cur, cur = compactL l ++ l.drop (compactL l).length ∧ (t 0 = .sl j (l.length) 0 l.length none ∧ t 3 = .int .i64 ((compactL l).length : Nat)) ∧ (compactL l).length < l.length ∧ h2 = h'.set j (.grow 1 (cur.map cP).flatten)) (fun R hR => ?_) ?_
      · refine loop_up (fun k2 t h2 => ∃ cur tt, tt = (compactL (l.take (m + 1 + k2))).length ∧ cur = compactL (l.take (m + 1 + k2)) ++ l.drop tt ∧ tt < m + 1 + k2 ∧ m + 1 + k2 ≤ l.length ∧ (t 0 = .sl j (l.length) 0 l.length none ∧ t 3 = .int .i64 (tt : Nat) ∧ t 4 = .sl j (l.length) (m) (l.length - m) none ∧ t 5 = .int .i64 ((k2 + 1 : Nat) : Int)) ∧ h2 = h'.set j (.grow 1 (cur.map cP).flatten)) (l.length - m - 1) ?_ ?_
        · have ec : compactL (l.take (m + 1)) = l.take m := by rw [compact_at l (by omega) hlt2, if_pos hx.symm, hci]
          refine ⟨l, m, by rw [Nat.add_zero, ec, List.length_take]; omega, by rw [Nat.add_zero, ec, List.take_append_drop], by omega, by omega, by simp [t0, t3], ?_⟩
          exact (H.ext' rfl fun i => by rw [H.get_set]; split <;> simp_all)
        · rintro k2 t h2 hk2 ⟨cur, tt, htt, hcur, htm, hml, ⟨u0, u3, u4, u5⟩, rfl⟩ K hK
          obtain ⟨m2, hm2⟩ : ∃ m2, m2 = m + 1 + k2 := ⟨_, rfl⟩
          rw [← hm2] at htt hcur htm hml
          have hcl : cur.length = l.length := by rw [hcur, List.length_append, List.length_drop, ← htt]; omega
          obtain ⟨h2, hh2⟩ : ∃ h2, h2 = h'.set j (.grow 1 (cur.map cP).flatten) := ⟨_, rfl⟩
          have hgj : h2.get j = some (.grow 1 (cur.map cP).flatten) := by rw [hh2]; simp
          rw [← hh2]
          by_cases hlt3 : m2 < l.length
          · have cA : ∀ x (hx1 : x < cur.length), tt ≤ x → cur[x]'hx1 = l[x]'(by omega) := fun x hx1 hx2 => by
              subst hcur
              rw [List.getElem_append_right (by omega), List.getElem_drop]
              congr 1; omega
            have sp := slsc_part cP_len hgj (by omega) m (by omega)
            rw [hcl] at sp
            simp only [Nat.mul_one] at sp
            obtain ⟨p, qq, o, cs, e1, e2, e3⟩ := sp.at1 (f := fun x : Nat => V.int .u32 x) (k := k2 + 1) (by simp; omega)
            obtain ⟨p', qq', o', cs', b1, b2, b3⟩ := sp.at1 (f := fun x : Nat => V.int .u32 x) (k := k2) (by simp; omega)
            have e4' : cs[o]? = some (.int .u32 (l[m2] : Nat)) := by
              rw [e3]; simp only [List.getElem_drop]
              rw [cA _ (by omega) (by omega)]; simp only [show m + (k2 + 1) = m2 by omega]
            have b4' : cs'[o']? = some (.int .u32 (l[m2 - 1] : Nat)) := by
              rw [b3]; simp only [List.getElem_drop]
              rw [cA _ (by omega) (by omega)]; simp only [show m + k2 = m2 - 1 by omega]
            have e1' := e1 .i64
            have b1' := b1 .i64
            have hc1 : ((k2 + 1 : Nat) : Int) < ((l.length - m : Nat) : Int) := by omega
            have w1 : IntKind.i64.wrap (((k2 + 1 : Nat) : Int) - 1) = (k2 : Int) := by rw [wrap_i64_id (by omega) (by omega)]; omega
            have w2 : IntKind.i64.wrap (((k2 + 1 : Nat) : Int) + 1) = ((k2 + 1 + 1 : Nat) : Int) := by rw [wrap_i64_id (by omega) (by omega)]; omega
            obtain ⟨k3, hk3⟩ : ∃ k3, k3 = k2 + 1 := ⟨_, rfl⟩
            rw [← hk3] at u5 hc1 w1 w2 e1'
            obtain ⟨ln, hln⟩ : ∃ ln, ln = l.length - m := ⟨_, rfl⟩
            rw [← hln] at u4 hc1 e1' b1'
            have hc2 : k3 < ln := by omega
            simp [u4, u5, hc2]
            refine dreg_of ?_
            clear e3 b3
            simp [u4, u5, e1', e2, e4', w1, b1', b2, b4']
            by_cases hy : l[m2] = l[m2 - 1]
            · simp [hy, u5, w2]
              refine hK _ _ (by omega) ⟨cur, tt, ?_, ?_, by omega, by omega, ?_, by rw [hh2]⟩
              · rw [show m + 1 + (k2 + 1) = m2 + 1 by omega, compact_at l (by omega) hlt3, if_pos hy.symm, htt]
              · rw [show m + 1 + (k2 + 1) = m2 + 1 by omega, compact_at l (by omega) hlt3, if_pos hy.symm, hcur]
              · simp [u0, u3, u4, hk3, hln]
            · have hy2 : ((l[m2] : Int) != (l[m2 - 1] : Int)) = true := bne_iff_ne.2 (by omega)
              have htl : tt < l.length := by omega
              have hcs : (V.int .u32 (l[m2] : Nat)).cells = cP l[m2] := rfl
              have hso : (V.int .u32 (l[m2] : Nat)).solid = true := rfl
              have hnl : (cP l[m2]).length = 1 := rfl
              have hfl : (cur.map cP).flatten.length = l.length := by rw [flat_len (map_lenc cP_len cur)]; simp [hcl]
              have hput : O.put (.grow 1 (cur.map cP).flatten) (tt) (cP l[m2]) = some (.grow 1 ((cur.set tt l[m2]).map cP).flatten) := by
                simp only [O.put, hfl, hnl]
                rw [if_pos (by omega), ← flatc_set cP_len cur tt _ (by omega), Nat.mul_one]
              have w3 : IntKind.i64.wrap ((tt : Int) + 1) = ((tt + 1 : Nat) : Int) := by rw [wrap_i64_id (by omega) (by omega)]; omega
              have hst : storeV h2.get 1 (.ptr j (l.length) (tt)) (.int .u32 (l[m2] : Nat)) = some (.set j (.grow 1 ((cur.set tt l[m2]).map cP).flatten)) := by
                rw [storeV_ptr, hcs, hso, hnl, hgj]
                simp only [Bool.true_and, beq_self_eq_true, if_true, Option.bind_some]
                rw [if_pos (by simp only [O.len, O.cells]; exact hfl), hput]; rfl
              simp [-storeV_ptr, hy2, u0, u3, u4, u5, e1', e2, e4', htl, hst, w3, w2]
              have hset : compactL (l.take (m + 1 + (k2 + 1))) = compactL (l.take m2) ++ [l[m2]] := by
                rw [show m + 1 + (k2 + 1) = m2 + 1 by omega, compact_at l (by omega) hlt3, if_neg (fun e => hy e.symm)]
              refine hK _ _ (by omega) ⟨cur.set tt l[m2], tt + 1, ?_, ?_, by omega, by omega, ?_, by rw [hh2, H.set_set, List.map_set]⟩
              · rw [hset, List.length_append, ← htt]; rfl
              · rw [hset, hcur, List.set_append_right _ _ (by omega), ← htt, Nat.sub_self, List.drop_eq_getElem_cons htl, List.set_cons_zero, List.append_assoc]; rfl
              · simp [u0, u4, hk3, hln]
          · have hml2 : m2 = l.length := by omega
            have hle : l.take m2 = l := List.take_of_length_le (by omega)
            rw [hle] at htt hcur
            have hc1 : ¬ ((k2 + 1 : Nat) : Int) < ((l.length - m : Nat) : Int) := by omega
            obtain ⟨k3, hk3⟩ : ∃ k3, k3 = k2 + 1 := ⟨_, rfl⟩
            obtain ⟨ln, hln⟩ : ∃ ln, ln = l.length - m := ⟨_, rfl⟩
            rw [← hk3] at u5 hc1
            rw [← hln] at u4 hc1
            have hc2 : ¬ k3 < ln := by omega
            simp [u4, u5, hc2]
            refine hR _ _ ⟨cur, by rw [hcur, htt], by simp [u0, u3, htt], by rw [htt] at htm; omega, hh2⟩
      · rintro t h2 ⟨cur, hcur, ⟨u0, u3⟩, htl, rfl⟩
        obtain ⟨tt, htt⟩ : ∃ tt, tt = (compactL l).length := ⟨_, rfl⟩
        rw [← htt] at hcur u3 htl
        have hcl : cur.length = l.length := by rw [hcur, List.length_append, List.length_drop, ← htt]; omega
        have hfl : (cur.map cP).flatten.length = l.length := by rw [flat_len (map_lenc cP_len cur)]; simp [hcl]
        have s1 : sliceSlV 1 (some (.int .i64 (tt : Int))) none none (.sl j (l.length) 0 l.length none) = some (.sl j (l.length) (tt) (l.length - tt) none) := by
          simp only [sliceSlV, boundV_none, boundV_nat (show tt ≤ l.length by omega)]
          rw [if_pos htl, Nat.zero_add, Nat.mul_one]
        have s2 : sliceSlV 1 none (some (.int .i64 (tt : Int))) none (.sl j (l.length) 0 l.length none) = some (.sl j (l.length) 0 tt none) := by
          simp only [sliceSlV, boundV_none, boundV_nat (show tt ≤ l.length by omega)]
          rw [if_pos hpos]; simp
        obtain ⟨h2, hh2⟩ : ∃ h2, h2 = h'.set j (.grow 1 (cur.map cP).flatten) := ⟨_, rfl⟩
        have hgj : h2.get j = some (.grow 1 (cur.map cP).flatten) := by rw [hh2]; simp
        rw [← hh2]
        obtain ⟨zs, hzs⟩ : ∃ zs, zs = repCells (l.length - tt) [V.int .u32 0] := ⟨_, rfl⟩
        have hzl : zs.length = (l.length - tt) := by rw [hzs]; unfold repCells; simp
        obtain ⟨pc, hpc⟩ : ∃ pc, pc = putCells (cur.map cP).flatten (tt) zs := ⟨_, rfl⟩
        have hclr : clearSlV h2.get [V.int .u32 0] (.sl j (l.length) (tt) (l.length - tt) none) = some (.set j (.grow 1 pc)) := by
          rw [hpc]
          unfold clearSlV
          simp only
          rw [if_neg (by omega), hgj]
          simp only [len_grow]
          rw [if_pos hfl, put_grow, ← hzs, if_pos (by rw [hzl, hfl]; omega)]; rfl
        simp [u0, u3, s1, s2, hclr]
        have w2 : h2.WF := by rw [hh2]; exact wf.set hlt _
        have hpl : pc.length = l.length := by rw [hpc, put_len _ _ _ (by rw [hzl, hfl]; omega), hfl]
        have hct : cur.take tt = compactL l := by rw [hcur, List.take_append_of_le_length (by omega), List.take_of_length_le (by omega)]
        have hpt : pc.take (tt) = ((compactL l).map cP).flatten := by
          rw [hpc]
          unfold putCells
          rw [List.append_assoc, List.take_append_of_le_length (by rw [List.length_take, hfl]; omega), List.take_take, Nat.min_self, ← Nat.mul_one tt, ← flat_take (map_lenc cP_len cur), ← List.map_take, hct]
        refine q _ _ (fun i hi => by rw [H.get_set, if_neg hi, hh2, H.get_set, if_neg hi]) (by rw [hh2]; simp) (w2.set (by rw [hh2]; simpa using hlt) _) ⟨.inr ⟨j, l.length, 0, none, by simp [htt]⟩, map_lenc cP_len _, ?_, by simp; omega⟩ trivial
        rw [elemsV_sl]
        split
        · rename_i h0
          have : compactL l = [] := List.eq_nil_of_length_eq_zero (by omega)
          rw [this]; rfl
        · rw [cellsAt_of (by rw [H.get_set, if_pos rfl]) (by rw [len_grow]; exact hpl)]
          simp only [cells_grow, Nat.zero_add, List.drop_zero]
          rw [if_pos (by rw [hpl]; omega), Nat.mul_one, hpt]
          simp [htt]
    · have hx2 : ((l[m] : Int) == (l[m - 1] : Int)) = false := beq_eq_false_iff_ne.2 (by omega)
      have w1 : IntKind.i64.wrap ((m : Int) + 1) = ((m + 1 : Nat) : Int) := by rw [wrap_i64_id (by omega) (by omega)]; omega
      simp [hx2, t3, w1]
      refine hK _ _ (by omega) ⟨?_, rfl, by omega, ?_⟩
      · first | (simp [t0, hm]; done) | (simp [t0]; omega)
      rw [← hm, compact_at l (by omega) hlt2, if_neg (fun e => hx e.symm), hci, List.take_add_one, List.getElem?_eq_getElem hlt2]; rfl
  · have hmm : m = l.length := by omega
    have hle : l.take m = l := List.take_of_length_le (by omega)
    rw [hle] at hci
    simp [t0, t3, hlt2]
    exact q _ _ (fun _ _ => rfl) rfl wf (by rw [hci]; exact s0) trivial
theorem compactX_ct {h : H} {j : Nat} {l : List Nat} (hg : h.get j = some (.grow 1 (l.map cX).flatten)) (hl : l.length ≤ 140737488355328) (hne : l ≠ []) {Q : V → H → Prop}
    (q : ∀ v' h', (∀ i, i ≠ j → h'.get i = h.get i) → h'.next = h.next → h'.WF → Sls h'.get 1 v' ((compactL l).map cX) → CapOk v' → Q v' h') : Acalls Tryz.prog 62 [.sl j (l.length) 0 l.length none] h Q := by
  refine acalls_to Tryz.func62 S.slices_Compact_uint64_uint64_code S.slices_Compact_uint64_uint64_enter (Nat.le_of_ble_eq_true rfl) fun wf => ?_; simp only [S.slices_Compact_uint64_uint64]
  have hlt := wf.lt hg
  have s0 := slsc_all cX_len hg (by omega)
  simp only [Nat.mul_one] at s0
  have hpos : 0 < l.length := List.length_pos_iff.2 hne
  by_cases h2 : l.length < 2
  · have e1 : compactL l = l := by
      match l, hpos, h2 with
      | [a], _, _ => rfl
    have h2' : (l.length : Int) < 2 := by omega
    simp [h2']
    exact q _ _ (fun _ _ => rfl) rfl wf (by rw [e1]; exact s0) trivial
  have h2' : ¬ (l.length : Int) < 2 := by omega
  simp [h2']
  refine loop_up (fun i t h' => (t 0 = .sl j (l.length) 0 l.length none ∧ t 3 = .int .i64 ((i + 1 : Nat) : Int)) ∧ h' = h ∧ i + 1 ≤ l.length ∧ compactL (l.take (i + 1)) = l.take (i + 1)) (l.length - 1) ⟨by simp, rfl, by omega, by
    match l, hpos with
    | a :: r, _ => rfl⟩ ?_
  rintro i t h' hi ⟨⟨t0, t3⟩, rfl, hil, hci⟩ K hK
  obtain ⟨m, hm⟩ : ∃ m, m = i + 1 := ⟨_, rfl⟩
  rw [← hm] at t3 hci hil
  by_cases hlt2 : m < l.length
  · have hltI : (m : Int) < (l.length : Int) := by omega
    obtain ⟨p, qq, o, cs, e1, e2, e3⟩ := s0.at1 (f := fun x : Nat => V.int .u64 x) (k := m) hlt2
    obtain ⟨p', qq', o', cs', b1, b2, b3⟩ := s0.at1 (f := fun x : Nat => V.int .u64 x) (k := m - 1) (by omega)
    have wm : IntKind.i64.wrap ((m : Int) - 1) = ((m - 1 : Nat) : Int) := by rw [wrap_i64_id (by omega) (by omega)]; omega
    simp [t0, t3, hlt2]
    refine dreg_of ?_
    simp [t0, t3, e1, e2, e3, wm, b1, b2, b3]
    by_cases hx : l[m] = l[m - 1]
    · have esl : sliceSlV 1 (some (.int .i64 (m : Int))) none none (.sl j (l.length) 0 l.length none) = some (.sl j (l.length) (m) (l.length - m) none) := by
        simp only [sliceSlV, boundV_none, boundV_nat hil]
        rw [if_pos hlt2, Nat.zero_add, Nat.mul_one]
      simp [hx, t0, t3, esl]
      refine loop_cut (id := 2) (fun t h2 => ∃ cur, cur = compactL l ++ l.drop (compactL l).length ∧ (t 0 = .sl j (l.length) 0 l.length none ∧ t 3 = .int .i64 ((compactL l).length : Nat)) ∧ (compactL l).length < l.length ∧ h2 = h'.set j (.grow 1 (cur.map cX).flatten)) (fun R hR => ?_) ?_
      · refine loop_up (fun k2 t h2 => ∃ cur tt, tt = (compactL (l.take (m + 1 + k2))).length ∧ cur = compactL (l.take (m + 1 + k2)) ++ l.drop tt ∧ tt < m + 1 + k2 ∧ m + 1 + k2 ≤ l.length ∧ (t 0 = .sl j (l.length) 0 l.length none ∧ t 3 = .int .i64 (tt : Nat) ∧ t 4 = .sl j (l.length) (m) (l.length - m) none ∧ t 5 = .int .i64 ((k2 + 1 : Nat) : Int)) ∧ h2 = h'.set j (.grow 1 (cur.map cX).flatten)) (l.length - m - 1) ?_ ?_
        · have ec : compactL (l.take (m + 1)) = l.take m := by rw [compact_at l (by omega) hlt2, if_pos hx.symm, hci]
          refine ⟨l, m, by rw [Nat.add_zero, ec, List.length_take]; omega, by rw [Nat.add_zero, ec, List.take_append_drop], by omega, by omega, by simp [t0, t3], ?_⟩
          exact (H.ext' rfl fun i => by rw [H.get_set]; split <;> simp_all)
        · rintro k2 t h2 hk2 ⟨cur, tt, htt, hcur, htm, hml, ⟨u0, u3, u4, u5⟩, rfl⟩ K hK
          obtain ⟨m2, hm2⟩ : ∃ m2, m2 = m + 1 + k2 := ⟨_, rfl⟩
          rw [← hm2] at htt hcur htm hml
          have hcl : cur.length = l.length := by rw [hcur, List.length_append, List.length_drop, ← htt]; omega
          obtain ⟨h2, hh2⟩ : ∃ h2, h2 = h'.set j (.grow 1 (cur.map cX).flatten) := ⟨_, rfl⟩
          have hgj : h2.get j = some (.grow 1 (cur.map cX).flatten) := by rw [hh2]; simp
          rw [← hh2]
          by_cases hlt3 : m2 < l.length
          · have cA : ∀ x (hx1 : x < cur.length), tt ≤ x → cur[x]'hx1 = l[x]'(by omega) := fun x hx1 hx2 => by
              subst hcur
              rw [List.getElem_append_right (by omega), List.getElem_drop]
              congr 1; omega
            have sp := slsc_part cX_len hgj (by omega) m (by omega)
            rw [hcl] at sp
            simp only [Nat.mul_one] at sp
            obtain ⟨p, qq, o, cs, e1, e2, e3⟩ := sp.at1 (f := fun x : Nat => V.int .u64 x) (k := k2 + 1) (by simp; omega)
            obtain ⟨p', qq', o', cs', b1, b2, b3⟩ := sp.at1 (f := fun x : Nat => V.int .u64 x) (k := k2) (by simp; omega)
            have e4' : cs[o]? = some (.int .u64 (l[m2] : Nat)) := by
              rw [e3]; simp only [List.getElem_drop]
              rw [cA _ (by omega) (by omega)]; simp only [show m + (k2 + 1) = m2 by omega]
            have b4' : cs'[o']? = some (.int .u64 (l[m2 - 1] : Nat)) := by
              rw [b3]; simp only [List.getElem_drop]
              rw [cA _ (by omega) (by omega)]; simp only [show m + k2 = m2 - 1 by omega]
            have e1' := e1 .i64
            have b1' := b1 .i64
            have hc1 : ((k2 + 1 : Nat) : Int) < ((l.length - m : Nat) : Int) := by omega
            have w1 : IntKind.i64.wrap (((k2 + 1 : Nat) : Int) - 1) = (k2 : Int) := by rw [wrap_i64_id (by omega) (by omega)]; omega
            have w2 : IntKind.i64.wrap (((k2 + 1 : Nat) : Int) + 1) = ((k2 + 1 + 1 : Nat) : Int) := by rw [wrap_i64_id (by omega) (by omega)]; omega
            obtain ⟨k3, hk3⟩ : ∃ k3, k3 = k2 + 1 := ⟨_, rfl⟩
            rw [← hk3] at u5 hc1 w1 w2 e1'
            obtain ⟨ln, hln⟩ : ∃ ln, ln = l.length - m := ⟨_, rfl⟩
            rw [← hln] at u4 hc1 e1' b1'
            have hc2 : k3 < ln := by omega
            simp [u4, u5, hc2]
            refine dreg_of ?_
            clear e3 b3
            simp [u4, u5, e1', e2, e4', w1, b1', b2, b4']
            by_cases hy : l[m2] = l[m2 - 1]
            · simp [hy, u5, w2]
              refine hK _ _ (by omega) ⟨cur, tt, ?_, ?_, by omega, by omega, ?_, by rw [hh2]⟩
              · rw [show m + 1 + (k2 + 1) = m2 + 1 by omega, compact_at l (by omega) hlt3, if_pos hy.symm, htt]
              · rw [show m + 1 + (k2 + 1) = m2 + 1 by omega, compact_at l (by omega) hlt3, if_pos hy.symm, hcur]
              · simp [u0, u3, u4, hk3, hln]
            · have hy2 : ((l[m2] : Int) != (l[m2 - 1] : Int)) = true := bne_iff_ne.2 (by omega)
              have htl : tt < l.length := by omega
              have hcs : (V.int .u64 (l[m2] : Nat)).cells = cX l[m2] := rfl
              have hso : (V.int .u64 (l[m2] : Nat)).solid = true := rfl
              have hnl : (cX l[m2]).length = 1 := rfl
              have hfl : (cur.map cX).flatten.length = l.length := by rw [flat_len (map_lenc cX_len cur)]; simp [hcl]
              have hput : O.put (.grow 1 (cur.map cX).flatten) (tt) (cX l[m2]) = some (.grow 1 ((cur.set tt l[m2]).map cX).flatten) := by
                simp only [O.put, hfl, hnl]
                rw [if_pos (by omega), ← flatc_set cX_len cur tt _ (by omega), Nat.mul_one]
              have w3 : IntKind.i64.wrap ((tt : Int) + 1) = ((tt + 1 : Nat) : Int) := by rw [wrap_i64_id (by omega) (by omega)]; omega
              have hst : storeV h2.get 1 (.ptr j (l.length) (tt)) (.int .u64 (l[m2] : Nat)) = some (.set j (.grow 1 ((cur.set tt l[m2]).map cX).flatten)) := by
                rw [storeV_ptr, hcs, hso, hnl, hgj]
                simp only [Bool.true_and, beq_self_eq_true, if_true, Option.bind_some]
                rw [if_pos (by simp only [O.len, O.cells]; exact hfl), hput]; rfl
              simp [-storeV_ptr, hy2, u0, u3, u4, u5, e1', e2, e4', htl, hst, w3, w2]
              have hset : compactL (l.take (m + 1 + (k2 + 1))) = compactL (l.take m2) ++ [l[m2]] := by
                rw [show m + 1 + (k2 + 1) = m2 + 1 by omega, compact_at l (by omega) hlt3, if_neg (fun e => hy e.symm)]
              refine hK _ _ (by omega) ⟨cur.set tt l[m2], tt + 1, ?_, ?_, by omega, by omega, ?_, by rw [hh2, H.set_set, List.map_set]⟩
              · rw [hset, List.length_append, ← htt]; rfl
              · rw [hset, hcur, List.set_append_right _ _ (by omega), ← htt, Nat.sub_self, List.drop_eq_getElem_cons htl, List.set_cons_zero, List.append_assoc]; rfl
              · simp [u0, u4, hk3, hln]
          · have hml2 : m2 = l.length := by omega
            have hle : l.take m2 = l := List.take_of_length_le (by omega)
            rw [hle] at htt hcur
            have hc1 : ¬ ((k2 + 1 : Nat) : Int) < ((l.length - m : Nat) : Int) := by omega
            obtain ⟨k3, hk3⟩ : ∃ k3, k3 = k2 + 1 := ⟨_, rfl⟩
            obtain ⟨ln, hln⟩ : ∃ ln, ln = l.length - m := ⟨_, rfl⟩
            rw [← hk3] at u5 hc1
            rw [← hln] at u4 hc1
            have hc2 : ¬ k3 < ln := by omega
            simp [u4, u5, hc2]
            refine hR _ _ ⟨cur, by rw [hcur, htt], by simp [u0, u3, htt], by rw [htt] at htm; omega, hh2⟩
      · rintro t h2 ⟨cur, hcur, ⟨u0, u3⟩, htl, rfl⟩
        obtain ⟨tt, htt⟩ : ∃ tt, tt = (compactL l).length := ⟨_, rfl⟩
        rw [← htt] at hcur u3 htl
        have hcl : cur.length = l.length := by rw [hcur, List.length_append, List.length_drop, ← htt]; omega
        have hfl : (cur.map cX).flatten.length = l.length := by rw [flat_len (map_lenc cX_len cur)]; simp [hcl]
        have s1 : sliceSlV 1 (some (.int .i64 (tt : Int))) none none (.sl j (l.length) 0 l.length none) = some (.sl j (l.length) (tt) (l.length - tt) none) := by
          simp only [sliceSlV, boundV_none, boundV_nat (show tt ≤ l.length by omega)]
          rw [if_pos htl, Nat.zero_add, Nat.mul_one]
        have s2 : sliceSlV 1 none (some (.int .i64 (tt : Int))) none (.sl j (l.length) 0 l.length none) = some (.sl j (l.length) 0 tt none) := by
          simp only [sliceSlV, boundV_none, boundV_nat (show tt ≤ l.length by omega)]
          rw [if_pos hpos]; simp
        obtain ⟨h2, hh2⟩ : ∃ h2, h2 = h'.set j (.grow 1 (cur.map cX).flatten) := ⟨_, rfl⟩
        have hgj : h2.get j = some (.grow 1 (cur.map cX).flatten) := by rw [hh2]; simp
        rw [← hh2]
        obtain ⟨zs, hzs⟩ : ∃ zs, zs = repCells (l.length - tt) [V.int .u64 0] := ⟨_, rfl⟩
        have hzl : zs.length = (l.length - tt) := by rw [hzs]; unfold repCells; simp
        obtain ⟨pc, hpc⟩ : ∃ pc, pc = putCells (cur.map cX).flatten (tt) zs := ⟨_, rfl⟩
        have hclr : clearSlV h2.get [V.int .u64 0] (.sl j (l.length) (tt) (l.length - tt) none) = some (.set j (.grow 1 pc)) := by
          rw [hpc]
          unfold clearSlV
          simp only
          rw [if_neg (by omega), hgj]
          simp only [len_grow]
          rw [if_pos hfl, put_grow, ← hzs, if_pos (by rw [hzl, hfl]; omega)]; rfl
        simp [u0, u3, s1, s2, hclr]
        have w2 : h2.WF := by rw [hh2]; exact wf.set hlt _
        have hpl : pc.length = l.length := by rw [hpc, put_len _ _ _ (by rw [hzl, hfl]; omega), hfl]
        have hct : cur.take tt = compactL l := by rw [hcur, List.take_append_of_le_length (by omega), List.take_of_length_le (by omega)]
        have hpt : pc.take (tt) = ((compactL l).map cX).flatten := by
          rw [hpc]
          unfold putCells
          rw [List.append_assoc, List.take_append_of_le_length (by rw [List.length_take, hfl]; omega), List.take_take, Nat.min_self, ← Nat.mul_one tt, ← flat_take (map_lenc cX_len cur), ← List.map_take, hct]
        refine q _ _ (fun i hi => by rw [H.get_set, if_neg hi, hh2, H.get_set, if_neg hi]) (by rw [hh2]; simp) (w2.set (by rw [hh2]; simpa using hlt) _) ⟨.inr ⟨j, l.length, 0, none, by simp [htt]⟩, map_lenc cX_len _, ?_, by simp; omega⟩ trivial
        rw [elemsV_sl]
        split
        · rename_i h0
          have : compactL l = [] := List.eq_nil_of_length_eq_zero (by omega)
          rw [this]; rfl
        · rw [cellsAt_of (by rw [H.get_set, if_pos rfl]) (by rw [len_grow]; exact hpl)]
          simp only [cells_grow, Nat.zero_add, List.drop_zero]
          rw [if_pos (by rw [hpl]; omega), Nat.mul_one, hpt]
          simp [htt]
    · have hx2 : ((l[m] : Int) == (l[m - 1] : Int)) = false := beq_eq_false_iff_ne.2 (by omega)
      have w1 : IntKind.i64.wrap ((m : Int) + 1) = ((m + 1 : Nat) : Int) := by rw [wrap_i64_id (by omega) (by omega)]; omega
      simp [hx2, t3, w1]
      refine hK _ _ (by omega) ⟨?_, rfl, by omega, ?_⟩
      · first | (simp [t0, hm]; done) | (simp [t0]; omega)
      rw [← hm, compact_at l (by omega) hlt2, if_neg (fun e => hx e.symm), hci, List.take_add_one, List.getElem?_eq_getElem hlt2]; rfl
  · have hmm : m = l.length := by omega
    have hle : l.take m = l := List.take_of_length_le (by omega)
    rw [hle] at hci
    simp [t0, t3, hlt2]
    exact q _ _ (fun _ _ => rfl) rfl wf (by rw [hci]; exact s0) trivial
theorem compactL_ct {h : H} {j : Nat} {l : List Lg} (hg : h.get j = some (.grow 3 (l.map cL).flatten)) (hl : l.length ≤ 140737488355328) (hne : l ≠ []) {Q : V → H → Prop}
    (q : ∀ v' h', (∀ i, i ≠ j → h'.get i = h.get i) → h'.next = h.next → h'.WF → Sls h'.get 3 v' ((compactL l).map cL) → CapOk v' → Q v' h') : Acalls Tryz.prog 65 [.sl j (l.length * 3) 0 l.length none] h Q := by
  refine acalls_to Tryz.func65 S.slices_Compact_api_Large_api_Large_code S.slices_Compact_api_Large_api_Large_enter (Nat.le_of_ble_eq_true rfl) fun wf => ?_; simp only [S.slices_Compact_api_Large_api_Large]
  have hlt := wf.lt hg
  have s0 := slsc_all cL_len hg (by omega)
  have hpos : 0 < l.length := List.length_pos_iff.2 hne
  by_cases h2 : l.length < 2
  · have e1 : compactL l = l := by
      match l, hpos, h2 with
      | [a], _, _ => rfl
    have h2' : (l.length : Int) < 2 := by omega
    simp [h2']
    exact q _ _ (fun _ _ => rfl) rfl wf (by rw [e1]; exact s0) trivial
  have h2' : ¬ (l.length : Int) < 2 := by omega
  simp [h2']
  refine loop_up (fun i t h' => (t 0 = .sl j (l.length * 3) 0 l.length none ∧ t 3 = .int .i64 ((i + 1 : Nat) : Int)) ∧ h' = h ∧ i + 1 ≤ l.length ∧ compactL (l.take (i + 1)) = l.take (i + 1)) (l.length - 1) ⟨by simp, rfl, by omega, by
    match l, hpos with
    | a :: r, _ => rfl⟩ ?_
  rintro i t h' hi ⟨⟨t0, t3⟩, rfl, hil, hci⟩ K hK
  obtain ⟨m, hm⟩ : ∃ m, m = i + 1 := ⟨_, rfl⟩
  rw [← hm] at t3 hci hil
  by_cases hlt2 : m < l.length
  · have hltI : (m : Int) < (l.length : Int) := by omega
    obtain ⟨p, qq, o, cs, e1, e2, e3, e4, e5⟩ := s0.at (k := m) (by simpa using hlt2)
    obtain ⟨p', qq', o', cs', b1, b2, b3, b4, b5⟩ := s0.at (k := m - 1) (by simp; omega)
    have e4' : (cs.drop o).take 3 = cL l[m] := by rw [e4]; simp
    have b4' : (cs'.drop o').take 3 = cL l[m - 1] := by rw [b4]; simp
    have wm : IntKind.i64.wrap ((m : Int) - 1) = ((m - 1 : Nat) : Int) := by rw [wrap_i64_id (by omega) (by omega)]; omega
    have eq := eq_lg l[m] l[m - 1]
    simp [t0, t3, hlt2]
    refine dreg_of ?_
    simp [t0, t3, e1, e2, e3, e4', wm, b1, b2, b3, b4', eq]
    by_cases hx : l[m] = l[m - 1]
    · have esl : sliceSlV 3 (some (.int .i64 (m : Int))) none none (.sl j (l.length * 3) 0 l.length none) = some (.sl j (l.length * 3) (m * 3) (l.length - m) none) := by
        simp only [sliceSlV, boundV_none, boundV_nat hil]
        rw [if_pos hlt2, Nat.zero_add]
      simp [hx, t0, t3, esl]
      refine loop_cut (id := 2) (fun t h2 => ∃ cur, cur = compactL l ++ l.drop (compactL l).length ∧ (t 0 = .sl j (l.length * 3) 0 l.length none ∧ t 3 = .int .i64 ((compactL l).length : Nat)) ∧ (compactL l).length < l.length ∧ h2 = h'.set j (.grow 3 (cur.map cL).flatten)) (fun R hR => ?_) ?_
      · refine loop_up (fun k2 t h2 => ∃ cur tt, tt = (compactL (l.take (m + 1 + k2))).length ∧ cur = compactL (l.take (m + 1 + k2)) ++ l.drop tt ∧ tt < m + 1 + k2 ∧ m + 1 + k2 ≤ l.length ∧ (t 0 = .sl j (l.length * 3) 0 l.length none ∧ t 3 = .int .i64 (tt : Nat) ∧ t 4 = .sl j (l.length * 3) (m * 3) (l.length - m) none ∧ t 5 = .int .i64 ((k2 + 1 : Nat) : Int)) ∧ h2 = h'.set j (.grow 3 (cur.map cL).flatten)) (l.length - m - 1) ?_ ?_
        · have ec : compactL (l.take (m + 1)) = l.take m := by rw [compact_at l (by omega) hlt2, if_pos hx.symm, hci]
          refine ⟨l, m, by rw [Nat.add_zero, ec, List.length_take]; omega, by rw [Nat.add_zero, ec, List.take_append_drop], by omega, by omega, by simp [t0, t3], ?_⟩
          exact (H.ext' rfl fun i => by rw [H.get_set]; split <;> simp_all)
        · rintro k2 t h2 hk2 ⟨cur, tt, htt, hcur, htm, hml, ⟨u0, u3, u4, u5⟩, rfl⟩ K hK
          obtain ⟨m2, hm2⟩ : ∃ m2, m2 = m + 1 + k2 := ⟨_, rfl⟩
          rw [← hm2] at htt hcur htm hml
          have hcl : cur.length = l.length := by rw [hcur, List.length_append, List.length_drop, ← htt]; omega
          obtain ⟨h2, hh2⟩ : ∃ h2, h2 = h'.set j (.grow 3 (cur.map cL).flatten) := ⟨_, rfl⟩
          have hgj : h2.get j = some (.grow 3 (cur.map cL).flatten) := by rw [hh2]; simp
          rw [← hh2]
          by_cases hlt3 : m2 < l.length
          · have cA : ∀ x (hx1 : x < cur.length), tt ≤ x → cur[x]'hx1 = l[x]'(by omega) := fun x hx1 hx2 => by
              subst hcur
              rw [List.getElem_append_right (by omega), List.getElem_drop]
              congr 1; omega
            have sp := slsc_part cL_len hgj (by omega) m (by omega)
            rw [hcl] at sp
            obtain ⟨p, qq, o, cs, e1, e2, e3, e4, e5⟩ := sp.at (k := k2 + 1) (by simp; omega)
            obtain ⟨p', qq', o', cs', b1, b2, b3, b4, b5⟩ := sp.at (k := k2) (by simp; omega)
            have e4' : (cs.drop o).take 3 = cL l[m2] := by
              rw [e4]; simp only [List.getElem_map, List.getElem_drop]
              rw [cA _ (by omega) (by omega)]; congr 2; omega
            have b4' : (cs'.drop o').take 3 = cL l[m2 - 1] := by
              rw [b4]; simp only [List.getElem_map, List.getElem_drop]
              rw [cA _ (by omega) (by omega)]; congr 2; omega
            have e1' := e1 .i64
            have b1' := b1 .i64
            have hc1 : ((k2 + 1 : Nat) : Int) < ((l.length - m : Nat) : Int) := by omega
            have w1 : IntKind.i64.wrap (((k2 + 1 : Nat) : Int) - 1) = (k2 : Int) := by rw [wrap_i64_id (by omega) (by omega)]; omega
            have w2 : IntKind.i64.wrap (((k2 + 1 : Nat) : Int) + 1) = ((k2 + 1 + 1 : Nat) : Int) := by rw [wrap_i64_id (by omega) (by omega)]; omega
            obtain ⟨k3, hk3⟩ : ∃ k3, k3 = k2 + 1 := ⟨_, rfl⟩
            rw [← hk3] at u5 hc1 w1 w2 e1'
            obtain ⟨ln, hln⟩ : ∃ ln, ln = l.length - m := ⟨_, rfl⟩
            rw [← hln] at u4 hc1 e1' b1'
            have hc2 : k3 < ln := by omega
            have eq := eq_lg l[m2] l[m2 - 1]
            simp [u4, u5, hc2]
            refine dreg_of ?_
            simp [u4, u5, e1', e2, e3, e4', w1, b1', b2, b3, b4', eq]
            by_cases hy : l[m2] = l[m2 - 1]
            · simp [hy, u5, w2]
              refine hK _ _ (by omega) ⟨cur, tt, ?_, ?_, by omega, by omega, ?_, by rw [hh2]⟩
              · rw [show m + 1 + (k2 + 1) = m2 + 1 by omega, compact_at l (by omega) hlt3, if_pos hy.symm, htt]
              · rw [show m + 1 + (k2 + 1) = m2 + 1 by omega, compact_at l (by omega) hlt3, if_pos hy.symm, hcur]
              · simp [u0, u3, u4, hk3, hln]
            · have htl : tt < l.length := by omega
              have hcs : (V.agg (cL l[m2])).cells = cL l[m2] := rfl
              have hso : (V.agg (cL l[m2])).solid = true := rfl
              have hnl : (cL l[m2]).length = 3 := rfl
              have hfl : (cur.map cL).flatten.length = l.length * 3 := by rw [flat_len (map_lenc cL_len cur)]; simp [hcl]
              have hput : O.put (.grow 3 (cur.map cL).flatten) (tt * 3) (cL l[m2]) = some (.grow 3 ((cur.set tt l[m2]).map cL).flatten) := by
                simp only [O.put, hfl, hnl]
                rw [if_pos (by omega), flatc_set cL_len cur tt _ (by omega)]
              have w3 : IntKind.i64.wrap ((tt : Int) + 1) = ((tt + 1 : Nat) : Int) := by rw [wrap_i64_id (by omega) (by omega)]; omega
              have hst : storeV h2.get 3 (.ptr j (l.length * 3) (tt * 3)) (.agg (cL l[m2])) = some (.set j (.grow 3 ((cur.set tt l[m2]).map cL).flatten)) := by
                rw [storeV_ptr, hcs, hso, hnl, hgj]
                simp only [Bool.true_and, beq_self_eq_true, if_true, Option.bind_some]
                rw [if_pos (by simp only [O.len, O.cells]; exact hfl), hput]; rfl
              simp [-storeV_ptr, hy, u0, u3, u4, u5, e1', e2, e3, e4', htl, hst, w3, w2]
              have hset : compactL (l.take (m + 1 + (k2 + 1))) = compactL (l.take m2) ++ [l[m2]] := by
                rw [show m + 1 + (k2 + 1) = m2 + 1 by omega, compact_at l (by omega) hlt3, if_neg (fun e => hy e.symm)]
              refine hK _ _ (by omega) ⟨cur.set tt l[m2], tt + 1, ?_, ?_, by omega, by omega, ?_, by rw [hh2, H.set_set, List.map_set]⟩
              · rw [hset, List.length_append, ← htt]; rfl
              · rw [hset, hcur, List.set_append_right _ _ (by omega), ← htt, Nat.sub_self, List.drop_eq_getElem_cons htl, List.set_cons_zero, List.append_assoc]; rfl
              · simp [u0, u4, hk3, hln]
          · have hml2 : m2 = l.length := by omega
            have hle : l.take m2 = l := List.take_of_length_le (by omega)
            rw [hle] at htt hcur
            have hc1 : ¬ ((k2 + 1 : Nat) : Int) < ((l.length - m : Nat) : Int) := by omega
            obtain ⟨k3, hk3⟩ : ∃ k3, k3 = k2 + 1 := ⟨_, rfl⟩
            obtain ⟨ln, hln⟩ : ∃ ln, ln = l.length - m := ⟨_, rfl⟩
            rw [← hk3] at u5 hc1
            rw [← hln] at u4 hc1
            have hc2 : ¬ k3 < ln := by omega
            simp [u4, u5, hc2]
            refine hR _ _ ⟨cur, by rw [hcur, htt], by simp [u0, u3, htt], by rw [htt] at htm; omega, hh2⟩
      · rintro t h2 ⟨cur, hcur, ⟨u0, u3⟩, htl, rfl⟩
        obtain ⟨tt, htt⟩ : ∃ tt, tt = (compactL l).length := ⟨_, rfl⟩
        rw [← htt] at hcur u3 htl
        have hcl : cur.length = l.length := by rw [hcur, List.length_append, List.length_drop, ← htt]; omega
        have hfl : (cur.map cL).flatten.length = l.length * 3 := by rw [flat_len (map_lenc cL_len cur)]; simp [hcl]
        have s1 : sliceSlV 3 (some (.int .i64 (tt : Int))) none none (.sl j (l.length * 3) 0 l.length none) = some (.sl j (l.length * 3) (tt * 3) (l.length - tt) none) := by
          simp only [sliceSlV, boundV_none, boundV_nat (show tt ≤ l.length by omega)]
          rw [if_pos htl, Nat.zero_add]
        have s2 : sliceSlV 3 none (some (.int .i64 (tt : Int))) none (.sl j (l.length * 3) 0 l.length none) = some (.sl j (l.length * 3) 0 tt none) := by
          simp only [sliceSlV, boundV_none, boundV_nat (show tt ≤ l.length by omega)]
          rw [if_pos hpos]; simp
        obtain ⟨h2, hh2⟩ : ∃ h2, h2 = h'.set j (.grow 3 (cur.map cL).flatten) := ⟨_, rfl⟩
        have hgj : h2.get j = some (.grow 3 (cur.map cL).flatten) := by rw [hh2]; simp
        rw [← hh2]
        obtain ⟨zs, hzs⟩ : ∃ zs, zs = repCells (l.length - tt) [V.int .u32 0, .int .u32 0, .int .u32 0] := ⟨_, rfl⟩
        have hzl : zs.length = (l.length - tt) * 3 := by rw [hzs]; unfold repCells; simp
        obtain ⟨pc, hpc⟩ : ∃ pc, pc = putCells (cur.map cL).flatten (tt * 3) zs := ⟨_, rfl⟩
        have hclr : clearSlV h2.get [V.int .u32 0, .int .u32 0, .int .u32 0] (.sl j (l.length * 3) (tt * 3) (l.length - tt) none) = some (.set j (.grow 3 pc)) := by
          rw [hpc]
          unfold clearSlV
          simp only
          rw [if_neg (by omega), hgj]
          simp only [len_grow]
          rw [if_pos hfl, put_grow, ← hzs, if_pos (by rw [hzl, hfl]; omega)]; rfl
        simp [u0, u3, s1, s2, hclr]
        have w2 : h2.WF := by rw [hh2]; exact wf.set hlt _
        have hpl : pc.length = l.length * 3 := by rw [hpc, put_len _ _ _ (by rw [hzl, hfl]; omega), hfl]
        have hct : cur.take tt = compactL l := by rw [hcur, List.take_append_of_le_length (by omega), List.take_of_length_le (by omega)]
        have hpt : pc.take (tt * 3) = ((compactL l).map cL).flatten := by
          rw [hpc]
          unfold putCells
          rw [List.append_assoc, List.take_append_of_le_length (by rw [List.length_take, hfl]; omega), List.take_take, Nat.min_self, ← flat_take (map_lenc cL_len cur), ← List.map_take, hct]
        refine q _ _ (fun i hi => by rw [H.get_set, if_neg hi, hh2, H.get_set, if_neg hi]) (by rw [hh2]; simp) (w2.set (by rw [hh2]; simpa using hlt) _) ⟨.inr ⟨j, l.length * 3, 0, none, by simp [htt]⟩, map_lenc cL_len _, ?_, by simp; omega⟩ trivial
        rw [elemsV_sl]
        split
        · rename_i h0
          have : compactL l = [] := List.eq_nil_of_length_eq_zero (by omega)
          rw [this]; rfl
        · rw [cellsAt_of (by rw [H.get_set, if_pos rfl]) (by rw [len_grow]; exact hpl)]
          simp only [cells_grow, Nat.zero_add, List.drop_zero]
          rw [if_pos (by rw [hpl]; omega), hpt]
          simp [htt]
    · have w1 : IntKind.i64.wrap ((m : Int) + 1) = ((m + 1 : Nat) : Int) := by rw [wrap_i64_id (by omega) (by omega)]; omega
      simp [hx, t3, w1]
      refine hK _ _ (by omega) ⟨?_, rfl, by omega, ?_⟩
      · first | (simp [t0, hm]; done) | (simp [t0]; omega)
      rw [← hm, compact_at l (by omega) hlt2, if_neg (fun e => hx e.symm), hci, List.take_add_one, List.getElem?_eq_getElem hlt2]; rfl
  · have hmm : m = l.length := by omega
    have hle : l.take m = l := List.take_of_length_le (by omega)
    rw [hle] at hci
    simp [t0, t3, hlt2]
    exact q _ _ (fun _ _ => rfl) rfl wf (by rw [hci]; exact s0) trivial
end Go.Am

/-
  The reference's: a number of four bytes; among them?; one put at its place.
-/
namespace Go.Am
open Go.Proofs

set_option maxRecDepth 100000
theorem or32 (k x b : Nat) (hb : b < 2 ^ k) (hv : x * 2 ^ k + b < 4294967296) {p q r : Int} (hp : p = ((x * 2 ^ k : Nat) : Int)) (hq : q = (b : Int)) (hr : r = ((x * 2 ^ k + b : Nat) : Int)) : intV .or .u32 p q = some (.int .u32 r) := by
  subst hp hq hr
  have hy : ∀ y : Nat, y < 4294967296 → (BitVec.ofInt 32 (y : Int)).toNat = y := fun y h => by simp; omega
  have h1 := hy (x * 2 ^ k) (by omega)
  have h2 := hy b (by omega)
  have h3 : (BitVec.ofInt 32 ((x * 2 ^ k : Nat) : Int) ||| BitVec.ofInt 32 (b : Int)).toNat = x * 2 ^ k + b := by
    rw [BitVec.toNat_or, h1, h2, Nat.mul_comm x, ← Nat.two_pow_add_eq_or_of_lt hb]
  show some (V.int .u32 (IntKind.u32.wrap ((BitVec.ofInt 32 ((x * 2 ^ k : Nat) : Int) ||| BitVec.ofInt 32 (b : Int)).toNat : Int))) = _
  rw [h3]
  congr 2
  simp only [IntKind.wrap, IntKind.bits, IntKind.signed, Bool.false_and, Bool.false_eq_true, if_false]
  omega
theorem u32w {n : Nat} {z : Int} (e : z = (n : Int)) (h : n < 4294967296) : IntKind.u32.wrap z = (n : Int) := by subst e; simp [IntKind.wrap, IntKind.bits, IntKind.signed]; omega
theorem num_ct {h : H} {s : List UInt8} (hs : 4 ≤ s.length) : Pure Tryz.prog 30 [.str s] h (.int .u32 (val (s.take 4) : Nat)) := by
  refine pure_to Tryz.func30 S.Href05_Number_code S.Href05_Number_enter rfl (Nat.le_of_ble_eq_true rfl) fun wf => ?_; simp only [S.Href05_Number]
  match s, hs with
  | b0 :: b1 :: b2 :: b3 :: r, _ =>
    have hv : val ((b0 :: b1 :: b2 :: b3 :: r).take 4) = b0.toNat * 16777216 + b1.toNat * 65536 + b2.toNat * 256 + b3.toNat := by
      simp [val]; omega
    rw [hv]
    have l0 := b0.toNat_lt
    have l1 := b1.toNat_lt
    have l2 := b2.toNat_lt
    have l3 := b3.toNat_lt
    obtain ⟨n0, e0⟩ : ∃ n, n = b0.toNat := ⟨_, rfl⟩
    obtain ⟨n1, e1⟩ : ∃ n, n = b1.toNat := ⟨_, rfl⟩
    obtain ⟨n2, e2⟩ : ∃ n, n = b2.toNat := ⟨_, rfl⟩
    obtain ⟨n3, e3⟩ : ∃ n, n = b3.toNat := ⟨_, rfl⟩
    rw [← e0] at l0
    rw [← e1] at l1
    rw [← e2] at l2
    rw [← e3] at l3
    rw [← e0, ← e1, ← e2, ← e3]
    obtain ⟨p1, hp1⟩ : ∃ p : Int, p = ((n0 * 16777216 : Nat) : Int) := ⟨_, rfl⟩
    obtain ⟨p2, hp2⟩ : ∃ p : Int, p = ((n1 * 65536 : Nat) : Int) := ⟨_, rfl⟩
    obtain ⟨p3, hp3⟩ : ∃ p : Int, p = ((n2 * 256 : Nat) : Int) := ⟨_, rfl⟩
    obtain ⟨q1, hq1⟩ : ∃ p : Int, p = ((n0 * 16777216 + n1 * 65536 : Nat) : Int) := ⟨_, rfl⟩
    obtain ⟨q2, hq2⟩ : ∃ p : Int, p = ((n0 * 16777216 + n1 * 65536 + n2 * 256 : Nat) : Int) := ⟨_, rfl⟩
    obtain ⟨q3, hq3⟩ : ∃ p : Int, p = ((n0 * 16777216 + n1 * 65536 + n2 * 256 + n3 : Nat) : Int) := ⟨_, rfl⟩
    have s1 : IntKind.u32.wrap ((n0 : Int) * 2 ^ min 24 IntKind.u32.bits) = p1 := by rw [hp1]; exact u32w (by rw [show min 24 IntKind.u32.bits = 24 from rfl]; omega) (by omega)
    have s2 : IntKind.u32.wrap ((n1 : Int) * 2 ^ min 16 IntKind.u32.bits) = p2 := by rw [hp2]; exact u32w (by rw [show min 16 IntKind.u32.bits = 16 from rfl]; omega) (by omega)
    have s3 : IntKind.u32.wrap ((n2 : Int) * 2 ^ min 8 IntKind.u32.bits) = p3 := by rw [hp3]; exact u32w (by rw [show min 8 IntKind.u32.bits = 8 from rfl]; omega) (by omega)
    have o1 : intV .or .u32 p1 p2 = some (.int .u32 q1) := or32 24 n0 (n1 * 65536) (by omega) (by omega) hp1 hp2 hq1
    have o2 : intV .or .u32 q1 p3 = some (.int .u32 q2) := or32 16 (n0 * 256 + n1) (n2 * 256) (by omega) (by omega) (by rw [hq1]; omega) hp3 (by rw [hq2]; omega)
    have o3 : intV .or .u32 q2 (n3 : Int) = some (.int .u32 q3) := or32 8 (n0 * 65536 + n1 * 256 + n2) n3 (by omega) (by omega) (by rw [hq2]; omega) rfl (by rw [hq3]; omega)
    have c0 : IntKind.u32.wrap (n0 : Int) = n0 := u32w rfl (by omega)
    have c1 : IntKind.u32.wrap (n1 : Int) = n1 := u32w rfl (by omega)
    have c2 : IntKind.u32.wrap (n2 : Int) = n2 := u32w rfl (by omega)
    have c3 : IntKind.u32.wrap (n3 : Int) = n3 := u32w rfl (by omega)
    rw [← hq3]
    clear hp1 hp2 hp3 hq1 hq2 hq3
    simp
    refine dreg_of ?_
    simp [← e0, ← e1, ← e2, ← e3, c0, c1, c2, c3, s1, s2, s3, o1, o2, o3]
end Go.Am

/-
  The reference's: one put at its place; plain ones decoded; lists compared.
-/
namespace Go.Am
open Go.Proofs

set_option maxRecDepth 100000
theorem has_ct {h : H} {v : V} {l : List Nat} {c : Nat} (hs : Sls h.get 1 v (l.map cP)) : Pure Tryz.prog 60 [v, .int .u32 (c : Nat)] h (.bool (decide (c ∈ l))) := by
  refine pure_to Tryz.func60 S.Href05_Has_code S.Href05_Has_enter rfl (Nat.le_of_ble_eq_true rfl) fun wf => ?_; simp only [S.Href05_Has]
  have hlen := hs.len
  have hb := hs.bound
  simp at hlen hb
  simp
  refine loop_up (fun i t h' => (t 0 = v ∧ t 1 = .int .u32 (c : Nat) ∧ t 5 = .int .i64 (i : Nat)) ∧ h' = h ∧ c ∉ l.take i) l.length ⟨by simp, rfl, by simp⟩ ?_
  rintro i t h' hi ⟨⟨t0, t1, t5⟩, rfl, hn⟩ K hK
  by_cases hlt : i < l.length
  · obtain ⟨p, qq, o, cs, e1, e2, e3⟩ := hs.at1 (f := fun x : Nat => V.int .u32 x) hlt
    have hw := wrap_succ hlt hb
    by_cases hx : l[i] = c
    · have b1 : ((l[i] : Int) == (c : Int)) = true := beq_iff_eq.2 (by omega)
      have hm : c ∈ l := by rw [← hx]; exact List.getElem_mem hlt
      simp [t0, t1, t5, hlen, hlt, e1, e2, e3, b1, hm]
    · have b1 : ((l[i] : Int) == (c : Int)) = false := beq_eq_false_iff_ne.2 (by omega)
      simp [t0, t1, t5, hlen, hlt, e1, e2, e3, b1, hw]
      refine hK _ _ hlt ⟨by simp [t0, t1], rfl, ?_⟩
      rw [List.take_add_one, List.getElem?_eq_getElem hlt, List.mem_append]
      simp [hn, Ne.symm hx]
  · have : i = l.length := by omega
    subst this
    rw [List.take_length] at hn
    simp [t0, t5, hlen, hn]
/-- Ahead of the first one that is greater. -/
def insF (c : Nat) : List Nat → List Nat
  | [] => [c]
  | x :: l => if c < x then c :: x :: l else x :: insF c l
theorem insF_all {c : Nat} : ∀ {l : List Nat}, (∀ x ∈ l, ¬ c < x) → insF c l = l ++ [c]
  | [], _ => rfl
  | x :: l, h => by rw [insF, if_neg (h x (by simp)), insF_all (fun y hy => h y (by simp [hy]))]; rfl
theorem insF_first {c x : Nat} (hx : c < x) : ∀ {l : List Nat}, (∀ x ∈ l, ¬ c < x) → insF c (l ++ [x]) = l ++ [c] ++ [x]
  | [], _ => by simp [insF, hx]
  | y :: l, h => by rw [List.cons_append, insF, if_neg (h y (by simp)), insF_first hx (fun y hy => h y (by simp [hy]))]; rfl
theorem insF_more {c x : Nat} : ∀ {l : List Nat}, (∃ x ∈ l, c < x) → insF c (l ++ [x]) = insF c l ++ [x]
  | [], h => by simp at h
  | y :: l, h => by
    rw [List.cons_append, insF, insF]
    by_cases hy : c < y
    · rw [if_pos hy, if_pos hy]; rfl
    · rw [if_neg hy, if_neg hy, insF_more (by
        obtain ⟨z, hz, hcz⟩ := h
        rcases List.mem_cons.1 hz with rfl | hz
        · exact absurd hcz hy
        · exact ⟨z, hz, hcz⟩)]
      rfl
theorem insF_mem {c x : Nat} : ∀ {l : List Nat}, x ∈ insF c l ↔ x = c ∨ x ∈ l
  | [] => by simp [insF]
  | y :: l => by
    rw [insF]
    split
    · simp
    · rw [List.mem_cons, insF_mem, List.mem_cons]
      constructor
      · rintro (h | h | h)
        · exact .inr (.inl h)
        · exact .inl h
        · exact .inr (.inr h)
      · rintro (h | h | h)
        · exact .inr (.inl h)
        · exact .inl h
        · exact .inr (.inr h)
theorem oN_lt (a b : Nat) : oN a b < 0 ↔ a < b := by unfold oN cmpI; split <;> (try split) <;> omega
theorem insF_rise {c : Nat} : ∀ {l : List Nat}, Rise oN l → c ∉ l → Rise oN (insF c l)
  | [], _, _ => List.pairwise_singleton _ _
  | y :: l, h, hc => by
    have g := List.pairwise_cons.1 h
    rw [insF]
    split
    · rename_i hy
      refine List.pairwise_cons.2 ⟨fun x hx => ?_, h⟩
      rcases List.mem_cons.1 hx with rfl | hx
      · exact (oN_lt _ _).2 hy
      · have := (oN_lt _ _).1 (g.1 x hx)
        exact (oN_lt _ _).2 (by omega)
    · rename_i hy
      refine List.pairwise_cons.2 ⟨fun x hx => ?_, insF_rise g.2 (fun h => hc (by simp [h]))⟩
      rw [insF_mem] at hx
      rcases hx with rfl | hx
      · exact (oN_lt _ _).2 (by have : ¬ x = y := fun e => hc (by simp [e]); omega)
      · exact g.1 x hx
theorem insF_put {c : Nat} {l : List Nat} (h : Rise oN l) (hc : c ∉ l) : insF c l = putL oN l c :=
  rise_ext ordr_n (insF_rise h hc) (putL_rise ordr_n oN_eq h c) fun x => by rw [insF_mem, putL_mem]
theorem putL_in {c : Nat} {l : List Nat} (h : Rise oN l) (hc : c ∈ l) : putL oN l c = l :=
  rise_ext ordr_n (putL_rise ordr_n oN_eq h c) h fun x => by
    rw [putL_mem]
    constructor
    · rintro (rfl | h)
      · exact hc
      · exact h
    · exact .inr
theorem rputP_ct {h : H} {v : V} {l : List Nat} {c : Nat} (hs : Sls h.get 1 v (l.map cP)) (hr : Rise oN l) (hl : l.length ≤ 1000000) {Q : V → H → Prop}
    (q : ∀ v' h', Ge h h' → h'.WF → Sls h'.get 1 v' ((putL oN l c).map cP) → Q v' h') : Acalls Tryz.prog 29 [v, .int .u32 (c : Nat)] h Q := by
  refine acalls_to Tryz.func29 S.Href05_put_code S.Href05_put_enter (Nat.le_of_ble_eq_true rfl) fun wf => ?_; simp only [S.Href05_put]
  simp
  refine has_ct hs _ ?_
  by_cases hc : c ∈ l
  · simp [hc]
    exact q _ _ (Ge.refl _) wf (by rw [putL_in hr hc]; exact hs)
  · have hlen := hs.lenG wf (n := l.length) (by simp)
    simp [hc]
    refine loop_up (fun i t h' => ∃ v2 done es, (t 0 = v ∧ t 1 = .int .u32 (c : Nat) ∧ t 5 = v2 ∧ t 6 = .bool done ∧ t 7 = .int .i64 (i : Nat)) ∧ Ge h h' ∧ h'.WF ∧ Gl h' h.next 1 v2 (es.map cP) ∧ ((done = false ∧ es = l.take i ∧ ∀ x ∈ l.take i, ¬ c < x) ∨ (done = true ∧ es = insF c (l.take i) ∧ ∃ x ∈ l.take i, c < x)) ∧ es.length ≤ i + 1) l.length ⟨.nilsl, false, [], by simp, Ge.refl _, wf, Gl.nil _ _ _, .inl ⟨rfl, by simp, by simp⟩, by simp⟩ ?_
    rintro i t h' hi ⟨v2, done, es, ⟨t0, t1, t5, t6, t7⟩, gb, wb, gl, hes, hel⟩ K hK
    have hlen' := hlen h' gb
    -- one more at the end of the list
    have more : ∀ {g : H} {w : V} {fs : List Nat} (y : Nat), Ge h g → g.WF → Gl g h.next 1 w (fs.map cP) → fs.length ≤ 2000000 → ∃ w' d, appendV (g.push (.row [V.int .u32 (y : Int)])).get (g.next + 1) 1 4 w (.sl g.next 1 0 1 (some 1)) = some (w', d) ∧ Gl ((g.push (.row [V.int .u32 (y : Int)])).app d) h.next 1 w' ((fs ++ [y]).map cP) ∧ Ge h ((g.push (.row [V.int .u32 (y : Int)])).app d) ∧ ((g.push (.row [V.int .u32 (y : Int)])).app d).WF := by
      intro g w fs y gg wg glg hf
      have gl3 : Gl (g.push (.row (cP y))) h.next 1 w (fs.map cP) := glg.keep (by simp) fun x hx => by
        have := (glg.lo x hx).2
        rw [H.get_push, if_neg (by omega)]
      obtain ⟨w', d, ea, gl4, hn4, hk4, hw4⟩ := gl3.append (bytes := 4) (x := .sl g.next 1 0 1 (some 1)) (e := cP y) (by have := gg.1; simp; omega) (map_lenc cP_len _) (cP_len y) (by simp [elemsV_sl, cP]) rfl (by decide) (by simp; omega) (by simp; omega)
      refine ⟨w', d, ea, by rw [List.map_append]; exact gl4, ⟨Nat.le_trans gg.1 (Nat.le_trans (by simp) hn4), fun x hx => ?_⟩, hw4 (wg.push _)⟩
      have := hk4 x (fun hx2 => by have := (glg.lo _ hx2).1; omega) (by have := gg.1; simp; omega)
      refine this.trans ?_
      rw [H.get_push, if_neg (by have := gg.1; omega)]
      exact gg.2 x hx
    by_cases hlt : i < l.length
    · obtain ⟨p, qq, o, cs, e1, pl, e2, e3⟩ := hs.at1G (f := fun x : Nat => V.int .u32 x) wf hlt
      have hw := wrap_succ hlt (by omega)
      have e2' := e2 h' gb
      have htk : l.take (i + 1) = l.take i ++ [l[i]] := by rw [List.take_add_one, List.getElem?_eq_getElem hlt]; rfl
      simp [t0, t7, hlen', hlt]
      rcases hes with ⟨rfl, rfl, ha⟩ | ⟨rfl, rfl, ha⟩
      · by_cases hx : c < l[i]
        · obtain ⟨w1, d1, x1, gl1, g1, k1⟩ := more c gb wb gl (by omega)
          obtain ⟨h2, hh2⟩ : ∃ h2, h2 = (h'.push (.row [V.int .u32 (c : Int)])).app d1 := ⟨_, rfl⟩
          rw [← hh2] at gl1 g1 k1
          obtain ⟨w2, d2, x2, gl2, g2, k2⟩ := more l[i] g1 k1 gl1 (by simp; omega)
          have e2'' := e2 h2 g1
          simp [t0, t1, t5, t6, t7, e1, e2', e3, hx, x1, ← hh2, e2'', x2, hw]
          refine hK _ _ hlt ⟨w2, true, _, by simp [t0, t1], g2, k2, gl2, .inr ⟨rfl, ?_, l[i], ?_, hx⟩, by simp; omega⟩
          · rw [htk, insF_first hx ha]
          · rw [htk]; exact List.mem_append_right _ (by simp)
        · obtain ⟨w2, d2, x2, gl2, g2, k2⟩ := more l[i] gb wb gl (by omega)
          simp [t0, t1, t5, t6, t7, e1, e2', e3, hx, x2, hw]
          refine hK _ _ hlt ⟨w2, false, _, by simp [t0, t1, t6], g2, k2, gl2, .inl ⟨rfl, by rw [htk], ?_⟩, by simp; omega⟩
          intro x hx2
          rw [htk] at hx2
          rcases List.mem_append.1 hx2 with h | h
          · exact ha x h
          · rw [List.mem_singleton] at h; subst h; exact hx
      · obtain ⟨w2, d2, x2, gl2, g2, k2⟩ := more l[i] gb wb gl (by omega)
        simp [t0, t5, t6, t7, e1, e2', e3, x2, hw]
        refine hK _ _ hlt ⟨w2, true, _, by simp [t0, t1, t6], g2, k2, gl2, .inr ⟨rfl, by rw [htk, insF_more ha], ?_⟩, by simp; omega⟩
        obtain ⟨x, hx, hcx⟩ := ha
        exact ⟨x, by rw [htk]; exact List.mem_append_left _ hx, hcx⟩
    · have hie : i = l.length := by omega
      subst hie
      rw [List.take_length] at hes
      simp [t0, t7, hlen']
      rcases hes with ⟨rfl, rfl, ha⟩ | ⟨rfl, rfl, ha⟩
      · obtain ⟨w2, d2, x2, gl2, g2, k2⟩ := more c gb wb gl (by omega)
        simp [t1, t5, t6, x2]
        refine q _ _ g2 k2 ?_
        rw [← insF_put hr hc, insF_all ha]
        exact gl2.sls (map_lenc cP_len _) (by simp; omega)
      · simp [t5, t6]
        refine q _ _ gb wb ?_
        rw [← insF_put hr hc]
        exact gl.sls (map_lenc cP_len _) (by simp; omega)
end Go.Am

/-
  The reference's: lists read from bytes; lists compared (written by program, wip/comm/CR6.py).
-/
namespace Go.Am
open Go.Proofs

set_option maxRecDepth 100000
theorem from_at {s : List UInt8} {k : Nat} (h : k ≤ s.length) : sliceStrV (some (.int .i64 (k : Int))) none (.str s) = some (.str (s.drop k)) := by
  rw [sliceStrV_str, show boundV s.length s.length none = some s.length from rfl, Option.bind_some, boundV_nat h, Option.bind_some, List.take_length]
theorem rdecP_ct {h : H} {s : List UInt8} (hl : s.length ≤ 140737488351232) {Q : V → H → Prop}
    (q : ∀ v' h', Ge h h' → h'.WF → Sls h'.get 1 v' ((decL oN 4 fP s).1.map cP) → Q (.tup [v', .int .i64 (decL oN 4 fP s).2]) h') : Acalls Tryz.prog 7 [.str s] h Q := by
  refine acalls_to Tryz.func7 S.Href05_Decode_code S.Href05_Decode_enter (Nat.le_of_ble_eq_true rfl) fun wf => ?_; simp only [S.Href05_Decode]
  have nilS : ∀ g : H, Sls g.get 1 .nilsl (([] : List Nat).map cP) := fun g => ⟨.inl ⟨rfl, .inl rfl⟩, by simp, rfl, by simp⟩
  by_cases h0 : s.length = 0
  · have hd : decL oN 4 fP s = ([], 4) := if_pos (.inl h0)
    rw [hd] at q
    have b0 : ((s.length : Int) == 0) = true := beq_iff_eq.2 (by omega)
    simp [b0]
    exact q _ _ (Ge.refl _) wf (nilS _)
  · have b0 : ((s.length : Int) == 0) = false := beq_eq_false_iff_ne.2 (by omega)
    by_cases hm : s.length % 4 = 0
    · have hrem : intV .rem .i64 (s.length : Int) 4 = some (.int .i64 0) := by
        show (if (4 : Int) = 0 then none else some (V.int .i64 ((s.length : Int).tmod 4))) = _
        rw [if_neg (by decide), Int.tmod_eq_emod_of_nonneg (by omega)]; congr 2; omega
      obtain ⟨n, hn⟩ : ∃ n, n = s.length / 4 := ⟨_, rfl⟩
      have hnk : s.length = n * 4 := by omega
      obtain ⟨L, hL⟩ : ∃ L, L = chop 4 fP n s := ⟨_, rfl⟩
      have hLl : L.length = n := by rw [hL, chop_len]
      have hd : decL oN 4 fP s = if 64 < (putsL oN L).length then ([], 3) else (putsL oN L, 0) := by
        unfold decL
        rw [if_neg (by omega), hL, hn]
      simp [b0, hrem]
      refine loop_up (fun i t h' => ∃ v, (t 0 = .str s ∧ t 4 = v ∧ t 5 = .int .i64 ((i * 4 : Nat) : Int)) ∧ Ge h h' ∧ h'.WF ∧ Sls h'.get 1 v ((putsL oN (L.take i)).map cP) ∧ (putsL oN (L.take i)).length ≤ 64) n ⟨.nilsl, by simp, Ge.refl _, wf, nilS _, by simp [putsL]⟩ ?_
      rintro i t h' hi ⟨v, ⟨t0, t4, t5⟩, gb, wb, sb, lb⟩ K hK
      obtain ⟨k, hk⟩ : ∃ k, k = i * 4 := ⟨_, rfl⟩
      rw [← hk] at t5
      by_cases hlt : i < n
      · have hks : k < s.length := by omega
        have hw : IntKind.i64.wrap ((k : Int) + 4) = (((i + 1) * 4 : Nat) : Int) := by rw [wrap_i64_id (by omega) (by omega)]; omega
        have fa := from_at (s := s) (k := k) (by omega)
        obtain ⟨hr, _⟩ := puts_rise_mem ordr_n oN_eq (L.take i) [] List.Pairwise.nil
        have ps := puts_snoc oN L (i := i) (by omega)
        have hci : L[i]'(by omega) = val ((s.drop k).take 4) := by
          subst hL
          rw [chop_at 4 fP n s i hlt, ← hk]; rfl
        rw [hci] at ps
        simp [-sliceStrV_str, t0, t4, t5, hks, fa]
        refine num_ct (s := s.drop k) (by simp; omega) _ ?_
        simp
        refine rputP_ct sb hr (by omega) fun v2 h2 g2 w2 s2 => ?_
        rw [← ps] at s2
        obtain ⟨m, hm2⟩ : ∃ m, m = putsL oN (L.take (i + 1)) := ⟨_, rfl⟩
        rw [← hm2] at s2
        have hl2 := s2.len
        simp only [List.length_map] at hl2
        simp [hl2]
        have hle := puts_take_len oN L (i + 1)
        rw [← hm2] at hle
        by_cases hb : 64 < m.length
        · have hb' : (64 : Int) < m.length := by omega
          rw [if_pos (by omega)] at hd
          rw [hd] at q
          simp [hb']
          exact q _ _ (gb.trans g2) w2 (nilS _)
        · have hb' : ¬ (64 : Int) < m.length := by omega
          simp [hb', t5, hw]
          refine hK _ _ hlt ⟨v2, by simp [t0], gb.trans g2, w2, by rw [← hm2]; exact s2, by rw [← hm2]; omega⟩
      · have hie : i = n := by omega
        subst hie
        have hks : ¬ k < s.length := by omega
        rw [List.take_of_length_le (by omega)] at sb lb
        rw [if_neg (by omega)] at hd
        rw [hd] at q
        simp [t0, t4, t5, hks]
        exact q _ _ gb wb sb
    · have hrem : intV .rem .i64 (s.length : Int) 4 = some (.int .i64 ((s.length % 4 : Nat) : Int)) := by
        show (if (4 : Int) = 0 then none else some (V.int .i64 ((s.length : Int).tmod 4))) = _
        rw [if_neg (by decide), Int.tmod_eq_emod_of_nonneg (by omega)]; rfl
      obtain ⟨m, hmm⟩ : ∃ m, m = s.length % 4 := ⟨_, rfl⟩
      rw [← hmm] at hrem hm
      have b1 : ((m : Int) != 0) = true := bne_iff_ne.2 (by omega)
      have hd : decL oN 4 fP s = ([], 4) := if_pos (.inr (by rw [← hmm]; exact hm))
      rw [hd] at q
      simp [b0, hrem, b1]
      exact q _ _ (Ge.refl _) wf (nilS _)

theorem sameP_ct {h : H} {v1 v2 : V} {l m : List Nat} (s1 : Sls h.get 1 v1 (l.map cP)) (s2 : Sls h.get 1 v2 (m.map cP)) : Pure Tryz.prog 8 [v1, v2] h (.bool (decide (l = m))) := by
  refine pure_to Tryz.func8 S.Href05_Same_code S.Href05_Same_enter rfl (Nat.le_of_ble_eq_true rfl) fun wf => ?_; simp only [S.Href05_Same]
  have l1 := s1.lenG wf (n := l.length) (by simp)
  have l2 := s2.lenG wf (n := m.length) (by simp)
  have hb := s1.bound
  simp only [List.length_map] at hb
  by_cases hl : l.length = m.length
  · have bl : ((l.length : Int) != (m.length : Int)) = false := by rw [hl]; simp
    simp [l1, l2, bl]
    refine loop_up (fun i t h' => (t 0 = v1 ∧ t 1 = v2 ∧ t 5 = .int .i64 (i : Nat)) ∧ h' = h ∧ l.take i = m.take i) l.length ⟨by simp, rfl, by simp⟩ ?_
    rintro i t h' hi ⟨⟨t0, t1, t5⟩, rfl, htk⟩ K hK
    by_cases hlt : i < l.length
    · have hlt2 : i < m.length := by omega
      obtain ⟨p, q, o, cs, a1, pl, a3, a5⟩ := s1.at1G (f := fun x : Nat => V.int .u32 x) wf hlt
      obtain ⟨p', q', o', cs', b1, pl', b3, b5⟩ := s2.at1G (f := fun x : Nat => V.int .u32 x) wf hlt2
      have hw := wrap_succ hlt hb
      have a3' := a3 h' (Ge.refl _)
      have b3' := b3 h' (Ge.refl _)
      simp [t0, t5, l1, hlt]
      refine dreg_of ?_
      by_cases hx : l[i] = m[i]
      · have eq : ((l[i] : Int) != (m[i] : Int)) = false := by rw [hx]; simp
        simp [t0, t1, t5, a1, a3', a5, b1, b3', b5, eq, hw]
        refine hK _ _ hlt ⟨by simp [t0, t1], rfl, ?_⟩
        rw [List.take_add_one, List.take_add_one, htk, List.getElem?_eq_getElem hlt, List.getElem?_eq_getElem hlt2, hx]
      · have hne : l ≠ m := fun e => hx (by subst e; rfl)
        have eq : ((l[i] : Int) != (m[i] : Int)) = true := bne_iff_ne.2 (by omega)
        simp [t0, t1, t5, a1, a3', a5, b1, b3', b5, eq, hne]
    · have hie : i = l.length := by omega
      subst hie
      have he : l = m := by rw [← List.take_length (l := l), htk, hl, List.take_length]
      simp [t0, t5, l1, he]
  · have bl : ((l.length : Int) != (m.length : Int)) = true := bne_iff_ne.2 (by omega)
    have hne : l ≠ m := fun e => hl (by rw [e])
    simp [l1, l2, bl, hne]

theorem sameX_ct {h : H} {v1 v2 : V} {l m : List Nat} (s1 : Sls h.get 1 v1 (l.map cX)) (s2 : Sls h.get 1 v2 (m.map cX)) : Pure Tryz.prog 11 [v1, v2] h (.bool (decide (l = m))) := by
  refine pure_to Tryz.func11 S.Href05_SameExts_code S.Href05_SameExts_enter rfl (Nat.le_of_ble_eq_true rfl) fun wf => ?_; simp only [S.Href05_SameExts]
  have l1 := s1.lenG wf (n := l.length) (by simp)
  have l2 := s2.lenG wf (n := m.length) (by simp)
  have hb := s1.bound
  simp only [List.length_map] at hb
  by_cases hl : l.length = m.length
  · have bl : ((l.length : Int) != (m.length : Int)) = false := by rw [hl]; simp
    simp [l1, l2, bl]
    refine loop_up (fun i t h' => (t 0 = v1 ∧ t 1 = v2 ∧ t 5 = .int .i64 (i : Nat)) ∧ h' = h ∧ l.take i = m.take i) l.length ⟨by simp, rfl, by simp⟩ ?_
    rintro i t h' hi ⟨⟨t0, t1, t5⟩, rfl, htk⟩ K hK
    by_cases hlt : i < l.length
    · have hlt2 : i < m.length := by omega
      obtain ⟨p, q, o, cs, a1, pl, a3, a5⟩ := s1.at1G (f := fun x : Nat => V.int .u64 x) wf hlt
      obtain ⟨p', q', o', cs', b1, pl', b3, b5⟩ := s2.at1G (f := fun x : Nat => V.int .u64 x) wf hlt2
      have hw := wrap_succ hlt hb
      have a3' := a3 h' (Ge.refl _)
      have b3' := b3 h' (Ge.refl _)
      simp [t0, t5, l1, hlt]
      refine dreg_of ?_
      by_cases hx : l[i] = m[i]
      · have eq : ((l[i] : Int) != (m[i] : Int)) = false := by rw [hx]; simp
        simp [t0, t1, t5, a1, a3', a5, b1, b3', b5, eq, hw]
        refine hK _ _ hlt ⟨by simp [t0, t1], rfl, ?_⟩
        rw [List.take_add_one, List.take_add_one, htk, List.getElem?_eq_getElem hlt, List.getElem?_eq_getElem hlt2, hx]
      · have hne : l ≠ m := fun e => hx (by subst e; rfl)
        have eq : ((l[i] : Int) != (m[i] : Int)) = true := bne_iff_ne.2 (by omega)
        simp [t0, t1, t5, a1, a3', a5, b1, b3', b5, eq, hne]
    · have hie : i = l.length := by omega
      subst hie
      have he : l = m := by rw [← List.take_length (l := l), htk, hl, List.take_length]
      simp [t0, t5, l1, he]
  · have bl : ((l.length : Int) != (m.length : Int)) = true := bne_iff_ne.2 (by omega)
    have hne : l ≠ m := fun e => hl (by rw [e])
    simp [l1, l2, bl, hne]

theorem sameL_ct {h : H} {v1 v2 : V} {l m : List Lg} (s1 : Sls h.get 3 v1 (l.map cL)) (s2 : Sls h.get 3 v2 (m.map cL)) : Pure Tryz.prog 14 [v1, v2] h (.bool (decide (l = m))) := by
  refine pure_to Tryz.func14 S.Href05_SameLarges_code S.Href05_SameLarges_enter rfl (Nat.le_of_ble_eq_true rfl) fun wf => ?_; simp only [S.Href05_SameLarges]
  have l1 := s1.lenG wf (n := l.length) (by simp)
  have l2 := s2.lenG wf (n := m.length) (by simp)
  have hb := s1.bound
  simp only [List.length_map] at hb
  by_cases hl : l.length = m.length
  · have bl : ((l.length : Int) != (m.length : Int)) = false := by rw [hl]; simp
    simp [l1, l2, bl]
    refine loop_up (fun i t h' => (t 0 = v1 ∧ t 1 = v2 ∧ t 5 = .int .i64 (i : Nat)) ∧ h' = h ∧ l.take i = m.take i) l.length ⟨by simp, rfl, by simp⟩ ?_
    rintro i t h' hi ⟨⟨t0, t1, t5⟩, rfl, htk⟩ K hK
    by_cases hlt : i < l.length
    · have hlt2 : i < m.length := by omega
      obtain ⟨p, q, o, cs, a1, a2, a3, a4, a5, a6⟩ := s1.atG wf (k := i) (by simpa using hlt)
      obtain ⟨p', q', o', cs', b1, b2, b3, b4, b5, b6⟩ := s2.atG wf (k := i) (by simpa using hlt2)
      have a5' : (cs.drop o).take 3 = cL l[i] := by rw [a5]; simp
      have b5' : (cs'.drop o').take 3 = cL m[i] := by rw [b5]; simp
      have hw := wrap_succ hlt hb
      have a3' := a3 h' (Ge.refl _)
      have b3' := b3 h' (Ge.refl _)
      have eq := eq_lg l[i] m[i]
      simp [t0, t5, l1, hlt]
      refine dreg_of ?_
      by_cases hx : l[i] = m[i]
      · rw [decide_eq_true hx] at eq
        simp [t0, t1, t5, a1, a3', a4, a5', b1, b3', b4, b5', eq, hw]
        refine hK _ _ hlt ⟨by simp [t0, t1], rfl, ?_⟩
        rw [List.take_add_one, List.take_add_one, htk, List.getElem?_eq_getElem hlt, List.getElem?_eq_getElem hlt2, hx]
      · have hne : l ≠ m := fun e => hx (by subst e; rfl)
        rw [decide_eq_false hx] at eq
        simp [t0, t1, t5, a1, a3', a4, a5', b1, b3', b4, b5', eq, hne]
    · have hie : i = l.length := by omega
      subst hie
      have he : l = m := by rw [← List.take_length (l := l), htk, hl, List.take_length]
      simp [t0, t5, l1, he]
  · have bl : ((l.length : Int) != (m.length : Int)) = true := bne_iff_ne.2 (by omega)
    have hne : l ≠ m := fun e => hl (by rw [e])
    simp [l1, l2, bl, hne]
end Go.Am

/-
  The reference's: extended and large ones read from bytes (written by program, wip/comm/CR7.py).
-/
namespace Go.Am
open Go.Proofs

set_option maxRecDepth 100000
theorem from_at2 {s : List UInt8} {k : Nat} {z : Int} (e : z = (k : Int)) (h : k ≤ s.length) : sliceStrV (some (.int .i64 z)) none (.str s) = some (.str (s.drop k)) := by subst e; exact from_at h
theorem owp_cut {P : Program} {K : Tm → H → Prop} {ops : List SI} {t : Tm} {h : H} (J : Tm → H → Prop) (ha : ∀ K' : Tm → H → Prop, (∀ t' h', J t' h' → K' t' h') → Owp P K' ops t h) (k : ∀ t' h', J t' h' → K t' h') : Owp P K ops t h := ha K k
def numP : List V → Option V
  | [.str s] => if 4 ≤ s.length then some (.int .u32 (val (s.take 4) : Nat)) else none
  | _ => none
theorem numP_eq {s : List UInt8} (h : 4 ≤ s.length) : numP [.str s] = some (.int .u32 (val (s.take 4) : Nat)) := by simp [numP, h]
theorem numP_ok : ∀ p ∈ [(30, numP)], ∀ vals v, p.2 vals = some v → ∀ h, Acalls Tryz.prog p.1 vals h fun u h' => u = v ∧ h' = h := by
  refine plain1 fun vals v e h => ?_
  unfold numP at e
  split at e
  · split at e
    · rename_i hs
      cases e; exact num_ct hs
    · cases e
  · cases e
theorem map_onec {α : Type} {c : α → List V} (h1 : ∀ x, (c x).all V.one = true) (l : List α) : ∀ e ∈ l.map c, e.all V.one = true := fun e he => by obtain ⟨n, _, rfl⟩ := List.mem_map.1 he; exact h1 n

theorem rdecX_ct {h : H} {s : List UInt8} (hl : s.length ≤ 140737488351232) {Q : V → H → Prop}
    (q : ∀ v' h', Ge h h' → h'.WF → Sls h'.get 1 v' ((decL oN 8 fX s).1.map cX) → Q (.tup [v', .int .i64 (decL oN 8 fX s).2]) h') : Acalls Tryz.prog 10 [.str s] h Q := by
  refine acalls_to Tryz.func10 S.Href05_DecodeExts_code S.Href05_DecodeExts_enter (Nat.le_of_ble_eq_true rfl) fun wf => ?_; simp only [S.Href05_DecodeExts]
  have nilS : ∀ g : H, Sls g.get 1 .nilsl (([] : List Nat).map cX) := fun g => ⟨.inl ⟨rfl, .inl rfl⟩, by simp, rfl, by simp⟩
  by_cases h0 : s.length = 0
  · have hd : decL oN 8 fX s = ([], 4) := if_pos (.inl h0)
    rw [hd] at q
    have b0 : ((s.length : Int) == 0) = true := beq_iff_eq.2 (by omega)
    simp [b0]
    exact q _ _ (Ge.refl _) wf (nilS _)
  · have b0 : ((s.length : Int) == 0) = false := beq_eq_false_iff_ne.2 (by omega)
    by_cases hm : s.length % 8 = 0
    · have hrem : intV .rem .i64 (s.length : Int) 8 = some (.int .i64 0) := by
        show (if (8 : Int) = 0 then none else some (V.int .i64 ((s.length : Int).tmod 8))) = _
        rw [if_neg (by decide), Int.tmod_eq_emod_of_nonneg (by omega)]; congr 2; omega
      obtain ⟨n, hn⟩ : ∃ n, n = s.length / 8 := ⟨_, rfl⟩
      have hnk : s.length = n * 8 := by omega
      obtain ⟨L, hL⟩ : ∃ L, L = chop 8 fX n s := ⟨_, rfl⟩
      have hLl : L.length = n := by rw [hL, chop_len]
      have hd : decL oN 8 fX s = if 64 < (putsL oN L).length then ([], 3) else (putsL oN L, 0) := by
        unfold decL
        rw [if_neg (by omega), hL, hn]
      simp [b0, hrem]
      refine loop_up (fun i t h' => ∃ v, (t 0 = .str s ∧ t 4 = v ∧ t 5 = .int .i64 ((i * 8 : Nat) : Int)) ∧ Ge h h' ∧ h'.WF ∧ Sls h'.get 1 v ((putsL oN (L.take i)).map cX) ∧ CapOk v ∧ (putsL oN (L.take i)).length ≤ 64) n ⟨.nilsl, by simp, Ge.refl _, wf, nilS _, trivial, by simp [putsL]⟩ ?_
      rintro i t h' hi ⟨v, ⟨t0, t4, t5⟩, gb, wb, sb, cb, lb⟩ K hK
      obtain ⟨k, hk⟩ : ∃ k, k = i * 8 := ⟨_, rfl⟩
      rw [← hk] at t5
      by_cases hlt : i < n
      · have hks : k < s.length := by omega
        have hw : IntKind.i64.wrap ((k : Int) + 8) = (((i + 1) * 8 : Nat) : Int) := by rw [wrap_i64_id (by omega) (by omega)]; omega
        have ps := puts_snoc oN L (i := i) (by omega)
        have hci : L[i]'(by omega) = fX ((s.drop k).take 8) := by
          subst hL
          rw [chop_at 8 fX n s i hlt, ← hk]
        have hck : ∀ j, j + 4 ≤ 8 → 4 ≤ (s.drop (k + j)).length := fun j hj => by rw [List.length_drop, hnk]; have := Nat.mul_le_mul_right 8 (show i + 1 ≤ n by omega); rw [Nat.add_mul] at this; omega
        have wk4 : IntKind.i64.wrap ((k : Int) + 4) = ((k + 4 : Nat) : Int) := by rw [wrap_i64_id (by omega) (by omega)]; omega
        have f0 := from_at (s := s) (k := k) (by omega)
        have f4 := from_at2 wk4 (s := s) (by have := hck 4 (by omega); rw [List.length_drop] at this; omega)
        have m0 := numP_eq (hck 0 (by omega))
        have m4 := numP_eq (hck 4 (by omega))
        rw [Nat.add_zero] at m0
        obtain ⟨a, ha⟩ : ∃ a, a = val ((s.drop k).take 4) := ⟨_, rfl⟩
        obtain ⟨b, hb⟩ : ∃ b, b = val ((s.drop (k + 4)).take 4) := ⟨_, rfl⟩
        have v1 := val_lt 4 ((s.drop k).take 4) (by have := hck 0 (by omega); rw [Nat.add_zero] at this; rw [List.length_take]; omega)
        have v2 := val_lt 4 ((s.drop (k + 4)).take 4) (by have := hck 4 (by omega); rw [List.length_take]; omega)
        obtain ⟨x, hx⟩ : ∃ x, x = a * 4294967296 + b := ⟨_, rfl⟩
        have hxf : x = fX ((s.drop k).take 8) := by
          rw [hx, ha, hb]; unfold fX
          rw [List.take_take, List.drop_take, List.drop_drop]
          rfl
        rw [← ha] at m0 v1
        rw [← hb] at m4 v2
        have wa : IntKind.u64.wrap (a : Int) = a := u64_id (by omega)
        have wb' : IntKind.u64.wrap (b : Int) = b := u64_id (by omega)
        obtain ⟨y, hy⟩ : ∃ y : Int, y = ((a * 4294967296 : Nat) : Int) := ⟨_, rfl⟩
        have sh : IntKind.u64.wrap ((a : Int) * 2 ^ min 32 IntKind.u64.bits) = y := by rw [hy]; exact shl32 a (by omega)
        have oy : intV .or .u64 y (b : Int) = some (.int .u64 (x : Nat)) := by rw [hy, hx]; exact u64_high a b (by omega) (by omega)
        clear hy hx ha hb
        simp [t0, t5, hks]
        refine dreg_plain _ numP_ok (by rfl) ?_
        simp [-sliceStrV_str, List.lookup, t0, t4, t5, f0, f4, m0, m4, wa, wb', sh, oy]
        have gb2 := gb
        have wb2 := wb
        have sb2 := sb
        rw [hci, ← hxf] at ps
        obtain ⟨l, hlq⟩ : ∃ l, l = putsL oN (L.take i) := ⟨_, rfl⟩
        rw [← hlq] at ps sb sb2 lb
        have hle := puts_take_len oN L (i + 1)
        have hl1 := sb2.len
        simp only [List.length_map] at hl1
        simp [hl1]
        refine loop_cut (id := 2) (fun t' g => (t' 0 = .str s ∧ t' 4 = v ∧ t' 5 = .int .i64 (k : Nat) ∧ t' 6 = .int .u64 (x : Nat) ∧ t' 7 = .int .i64 ((spot oN x l l.length : Nat) : Int)) ∧ g = h') (fun R hR => ?_) ?_
        · refine loop_up (fun j t' g => (t' 0 = .str s ∧ t' 4 = v ∧ t' 5 = .int .i64 (k : Nat) ∧ t' 6 = .int .u64 (x : Nat) ∧ t' 7 = .int .i64 ((l.length - j : Nat) : Int)) ∧ g = h' ∧ j ≤ l.length ∧ spot oN x l l.length = spot oN x l (l.length - j)) l.length ⟨by simp [t0, t4, t5], rfl, by omega, rfl⟩ ?_
          rintro j t' g hj ⟨⟨u0, u4, u5, u6, u7⟩, rfl, hjl, hsp⟩ K2 hK2
          obtain ⟨m, hmj⟩ : ∃ m, m = l.length - j := ⟨_, rfl⟩
          rw [← hmj] at u7 hsp
          by_cases h0 : 0 < m
          · have hml : m - 1 < l.length := by omega
            have w1' : IntKind.i64.wrap ((m : Int) - 1) = ((m - 1 : Nat) : Int) := by rw [wrap_i64_id (by omega) (by omega)]; omega
            have sp : spot oN x l m = if oN x l[m - 1] < 0 then spot oN x l (m - 1) else m := by
              obtain ⟨m', rfl⟩ : ∃ m', m = m' + 1 := ⟨m - 1, by omega⟩
              rw [spot, show l[m']? = some l[m'] from List.getElem?_eq_getElem (by omega)]
              simp
            obtain ⟨p, qq, o, cs, e1, e2, e3⟩ := sb2.at1 (f := fun x : Nat => V.int .u64 x) (k := m - 1) hml
            have e1' := e1 .i64
            by_cases hc : x < l[m - 1]
            · have hc2 : oN x l[m - 1] < 0 := (oN_lt _ _).2 hc
              simp [u4, u6, u7, h0, w1', e1', e2, e3, hc]
              refine hK2 _ _ (by omega) ⟨by simp [u0, u4, u5, u6]; omega, rfl, by omega, ?_⟩
              rw [hsp, sp, if_pos hc2]; congr 1; omega
            · have hc2 : ¬ oN x l[m - 1] < 0 := fun e => hc ((oN_lt _ _).1 e)
              simp [u4, u6, u7, h0, w1', e1', e2, e3, hc]
              refine hR _ _ ⟨by simp [u0, u4, u5, u6, u7, hsp, sp, hc2], rfl⟩
          · have m0 : m = 0 := by omega
            subst m0
            simp [u7]
            refine hR _ _ ⟨by simp [u0, u4, u5, u6, u7, hsp, spot], rfl⟩
        rintro t' g ⟨⟨u0, u4, u5, u6, u7⟩, rfl⟩
        obtain ⟨at', hat⟩ : ∃ at', at' = spot oN x l l.length := ⟨_, rfl⟩
        have hal := spot_le (c := oN) x l l.length
        rw [← hat] at u7 hal
        have hput : putL oN l x = if 0 < at' ∧ l[at' - 1]? = some x then l else l.take at' ++ x :: l.drop at' := by unfold putL; rw [← hat]
        simp only [thenA_normal, Cwp_seq, Cwp_reg]
        refine owp_cut (fun t' g' => (t' 0 = .str s ∧ t' 4 = v ∧ t' 5 = .int .i64 (k : Nat) ∧ t' 6 = .int .u64 (x : Nat) ∧ t' 7 = .int .i64 (at' : Nat) ∧ t' 62 = .bool (decide (0 < at' ∧ l[at' - 1]? = some x))) ∧ g' = g) (fun K' hK' => ?_) ?_
        · by_cases h0 : 0 < at'
          · have hkl1 : at' - 1 < l.length := by omega
            have w1' : IntKind.i64.wrap ((at' : Int) - 1) = ((at' - 1 : Nat) : Int) := by rw [wrap_i64_id (by omega) (by omega)]; omega
            obtain ⟨p, qq, o, cs, e1, e2, e3⟩ := sb2.at1 (f := fun x : Nat => V.int .u64 x) (k := at' - 1) hkl1
            have e1' := e1 .i64
            have hg : l[at' - 1]? = some l[at' - 1] := List.getElem?_eq_getElem hkl1
            have hd2 : decide (0 < at' ∧ l[at' - 1]? = some x) = decide (l[at' - 1] = x) := by rw [hg]; simp [h0]
            have eq : ((l[at' - 1] : Int) == (x : Int)) = decide (l[at' - 1] = x) := by
              by_cases e : l[at' - 1] = x
              · rw [decide_eq_true e]; exact beq_iff_eq.2 (by omega)
              · rw [decide_eq_false e]; exact beq_eq_false_iff_ne.2 (by omega)
            simp [u4, u6, u7, h0, w1', e1', e2, e3, eq]
            exact hK' _ _ ⟨by simp [u0, u4, u5, u6, u7, hd2], rfl⟩
          · have k0 : at' = 0 := by omega
            rw [k0] at u7
            simp [u7]
            exact hK' _ _ ⟨by simp [u0, u4, u5, u6, u7, k0], rfl⟩
        clear u0 u4 u5 u6 u7
        rintro t'' g' ⟨⟨u0, u4, u5, u6, u7, u62⟩, rfl⟩
        simp [u62]
        by_cases hp : 0 < at' ∧ l[at' - 1]? = some x
        · rw [if_pos hp] at hput
          rw [hput] at ps
          simp [hp, u5, hw]
          exact hK _ _ hlt ⟨v, by simp [u0, u4], gb2, wb2, by rw [ps]; exact sb2, cb, by rw [ps]; omega⟩
        · rw [if_neg hp] at hput
          have hd2 : (decide (0 < at') && decide (l[at' - 1]? = some x)) = false := by simpa using hp
          simp only [hd2]
          obtain ⟨va, ea, sa, _⟩ := sb2.take cb (k := at') (by simpa using hal) .i64
          rw [← List.map_take] at sa
          obtain ⟨v1, d1, x1, gl1, m1, k1, y1, _⟩ := (Gl.nil g' g'.next 1).appends (bytes := 8) (Nat.le_refl _) (by simp) sa (map_onec (fun _ => rfl) _) (by decide) (by simp; omega) (by simp; omega)
          rw [List.nil_append] at gl1
          simp [u4, u7, ea, x1]
          obtain ⟨h5, hh5⟩ : ∃ h5, h5 = g'.app d1 := ⟨_, rfl⟩
          rw [← hh5] at gl1 m1 k1 y1 ⊢
          have ge5 : Ge g' h5 := ⟨m1, fun i hi => k1 i (by simp [V.ids]) hi⟩
          have w5 := y1 wb2
          simp [u6]
          obtain ⟨h3, hh3⟩ : ∃ h3, h3 = h5.push (.row (cX x)) := ⟨_, rfl⟩
          have ge3 : Ge h5 h3 := by rw [hh3]; exact (Ge.refl _).push _
          have w3 : h3.WF := by rw [hh3]; exact w5.push _
          have n3 : h3.next = h5.next + 1 := by rw [hh3]; simp
          have gl2 : Gl h3 g'.next 1 v1 ((l.take at').map cX) := gl1.keep ge3.1 (fun i hi => ge3.2 i (gl1.lo i hi).2)
          have hx2 : elemsV h3.get 1 (.sl h5.next 1 0 1 (some 1)) = some (1, cX x) := by
            rw [elemsV_sl, if_neg (by omega), hh3, cellsAt_push, if_pos rfl]
            simp [cX]
          obtain ⟨v2, d2, x2, gl3, m2, k2, y2, i2⟩ := gl2.append2 (bytes := 8) (by omega) (map_lenc cX_len _) (cX_len x) hx2 rfl (by decide) (by simp; omega) (by simp; omega)
          rw [n3] at x2
          simp only [cX] at hh3
          rw [← hh3]
          simp [x2]
          obtain ⟨h4, hh4⟩ : ∃ h4, h4 = h3.app d2 := ⟨_, rfl⟩
          rw [← hh4] at gl3 m2 k2 y2 ⊢
          have ge4 : Ge g' h4 := ⟨by have := ge5.1; have := ge3.1; omega, fun i hi => by
            rw [k2 i (fun hm => by have := (gl2.lo i hm).1; omega) (by have := ge5.1; have := ge3.1; omega), ge3.2 i (by have := ge5.1; omega), ge5.2 i hi]⟩
          have w4 := y2 w3
          have s4 := sb2.ge wb2 ge4
          obtain ⟨vb, eb, sd, _⟩ := s4.drop cb (k := at') (by simpa using hal) .i64
          rw [← List.map_drop] at sd
          obtain ⟨v3, d3, x3, gl4, m3, k3, y3, _⟩ := gl3.appends (bytes := 8) (by have := ge4.1; omega) (fun e he => by
            rcases List.mem_append.1 he with he | he
            · exact map_lenc cX_len _ e he
            · rw [List.mem_singleton] at he; subst he; exact cX_len x) sd (map_onec (fun _ => rfl) _) (by decide) (by simp; omega) (by simp; omega)
          simp [u4, u7, eb, x3]
          obtain ⟨h6, hh6⟩ : ∃ h6, h6 = h4.app d3 := ⟨_, rfl⟩
          rw [← hh6] at gl4 m3 k3 y3 ⊢
          have hes : List.map cX (l.take at') ++ [cX x] ++ List.map cX (l.drop at') = (putL oN l x).map cX := by rw [hput]; simp
          rw [hes, ← ps] at gl4
          have ge6 : Ge h h6 := gb2.trans ⟨by have := ge4.1; omega, fun i hi => by
            rw [k3 i (fun hm => by have := (gl3.lo i hm).1; omega) (by have := ge4.1; omega), ge4.2 i hi]⟩
          have hpl := putL_len (c := oN) l x
          rw [← ps] at hpl
          obtain ⟨mm, hmm⟩ : ∃ mm, mm = putsL oN (L.take (i + 1)) := ⟨_, rfl⟩
          rw [← hmm] at gl4 hpl hle
          have s6 := gl4.sls (map_lenc cX_len _) (by simp only [List.length_map]; omega)
          have hl6 := s6.len
          simp only [List.length_map] at hl6
          simp [hl6]
          by_cases hb6 : 64 < mm.length
          · have hb' : (64 : Int) < mm.length := by omega
            rw [if_pos (by omega)] at hd
            rw [hd] at q
            simp [hb']
            exact q _ _ ge6 (y3 w4) (nilS _)
          · have hb' : ¬ (64 : Int) < mm.length := by omega
            simp [hb', u5, hw]
            refine hK _ _ hlt ⟨v3, by simp [u0], ge6, y3 w4, by rw [← hmm]; exact s6, gl4.cap, by rw [← hmm]; omega⟩
      · have hie : i = n := by omega
        subst hie
        have hks : ¬ k < s.length := by omega
        rw [List.take_of_length_le (by omega)] at sb lb
        rw [if_neg (by omega)] at hd
        rw [hd] at q
        simp [t0, t4, t5, hks]
        exact q _ _ gb wb sb
    · have hrem : intV .rem .i64 (s.length : Int) 8 = some (.int .i64 ((s.length % 8 : Nat) : Int)) := by
        show (if (8 : Int) = 0 then none else some (V.int .i64 ((s.length : Int).tmod 8))) = _
        rw [if_neg (by decide), Int.tmod_eq_emod_of_nonneg (by omega)]; rfl
      obtain ⟨m, hmm⟩ : ∃ m, m = s.length % 8 := ⟨_, rfl⟩
      rw [← hmm] at hrem hm
      have b1 : ((m : Int) != 0) = true := bne_iff_ne.2 (by omega)
      have hd : decL oN 8 fX s = ([], 4) := if_pos (.inr (by rw [← hmm]; exact hm))
      rw [hd] at q
      simp [b0, hrem, b1]
      exact q _ _ (Ge.refl _) wf (nilS _)

theorem rdecL_ct {h : H} {s : List UInt8} (hl : s.length ≤ 140737488351232) {Q : V → H → Prop}
    (q : ∀ v' h', Ge h h' → h'.WF → Sls h'.get 3 v' ((decL oL 12 fL s).1.map cL) → Q (.tup [v', .int .i64 (decL oL 12 fL s).2]) h') : Acalls Tryz.prog 13 [.str s] h Q := by
  refine acalls_to Tryz.func13 S.Href05_DecodeLarges_code S.Href05_DecodeLarges_enter (Nat.le_of_ble_eq_true rfl) fun wf => ?_; simp only [S.Href05_DecodeLarges]
  have nilS : ∀ g : H, Sls g.get 3 .nilsl (([] : List Lg).map cL) := fun g => ⟨.inl ⟨rfl, .inl rfl⟩, by simp, rfl, by simp⟩
  by_cases h0 : s.length = 0
  · have hd : decL oL 12 fL s = ([], 4) := if_pos (.inl h0)
    rw [hd] at q
    have b0 : ((s.length : Int) == 0) = true := beq_iff_eq.2 (by omega)
    simp [b0]
    exact q _ _ (Ge.refl _) wf (nilS _)
  · have b0 : ((s.length : Int) == 0) = false := beq_eq_false_iff_ne.2 (by omega)
    by_cases hm : s.length % 12 = 0
    · have hrem : intV .rem .i64 (s.length : Int) 12 = some (.int .i64 0) := by
        show (if (12 : Int) = 0 then none else some (V.int .i64 ((s.length : Int).tmod 12))) = _
        rw [if_neg (by decide), Int.tmod_eq_emod_of_nonneg (by omega)]; congr 2; omega
      obtain ⟨n, hn⟩ : ∃ n, n = s.length / 12 := ⟨_, rfl⟩
      have hnk : s.length = n * 12 := by omega
      obtain ⟨L, hL⟩ : ∃ L, L = chop 12 fL n s := ⟨_, rfl⟩
      have hLl : L.length = n := by rw [hL, chop_len]
      have hd : decL oL 12 fL s = if 64 < (putsL oL L).length then ([], 3) else (putsL oL L, 0) := by
        unfold decL
        rw [if_neg (by omega), hL, hn]
      simp [b0, hrem]
      refine loop_up (fun i t h' => ∃ v, (t 0 = .str s ∧ t 4 = v ∧ t 5 = .int .i64 ((i * 12 : Nat) : Int)) ∧ Ge h h' ∧ h'.WF ∧ Sls h'.get 3 v ((putsL oL (L.take i)).map cL) ∧ CapOk v ∧ (putsL oL (L.take i)).length ≤ 64) n ⟨.nilsl, by simp, Ge.refl _, wf, nilS _, trivial, by simp [putsL]⟩ ?_
      rintro i t h' hi ⟨v, ⟨t0, t4, t5⟩, gb, wb, sb, cb, lb⟩ K hK
      obtain ⟨k, hk⟩ : ∃ k, k = i * 12 := ⟨_, rfl⟩
      rw [← hk] at t5
      by_cases hlt : i < n
      · have hks : k < s.length := by omega
        have hw : IntKind.i64.wrap ((k : Int) + 12) = (((i + 1) * 12 : Nat) : Int) := by rw [wrap_i64_id (by omega) (by omega)]; omega
        have ps := puts_snoc oL L (i := i) (by omega)
        have hci : L[i]'(by omega) = fL ((s.drop k).take 12) := by
          subst hL
          rw [chop_at 12 fL n s i hlt, ← hk]
        have hck : ∀ j, j + 4 ≤ 12 → 4 ≤ (s.drop (k + j)).length := fun j hj => by rw [List.length_drop, hnk]; have := Nat.mul_le_mul_right 12 (show i + 1 ≤ n by omega); rw [Nat.add_mul] at this; omega
        have wk4 : IntKind.i64.wrap ((k : Int) + 4) = ((k + 4 : Nat) : Int) := by rw [wrap_i64_id (by omega) (by omega)]; omega
        have wk8 : IntKind.i64.wrap ((k : Int) + 8) = ((k + 8 : Nat) : Int) := by rw [wrap_i64_id (by omega) (by omega)]; omega
        have f0 := from_at (s := s) (k := k) (by omega)
        have f4 := from_at2 wk4 (s := s) (by have := hck 4 (by omega); rw [List.length_drop] at this; omega)
        have f8 := from_at2 wk8 (s := s) (by have := hck 8 (by omega); rw [List.length_drop] at this; omega)
        have m0 := numP_eq (hck 0 (by omega))
        have m4 := numP_eq (hck 4 (by omega))
        have m8 := numP_eq (hck 8 (by omega))
        rw [Nat.add_zero] at m0
        obtain ⟨x, hx⟩ : ∃ x : Lg, x = (val ((s.drop k).take 4), val ((s.drop (k + 4)).take 4), val ((s.drop (k + 8)).take 4)) := ⟨_, rfl⟩
        have hxf : x = fL ((s.drop k).take 12) := by
          rw [hx]; unfold fL
          rw [List.take_take, List.drop_take, List.drop_take, List.drop_drop, List.drop_drop, List.take_take]
          rfl
        have x1 : val ((s.drop k).take 4) = x.1 := by rw [hx]
        have x2 : val ((s.drop (k + 4)).take 4) = x.2.1 := by rw [hx]
        have x3 : val ((s.drop (k + 8)).take 4) = x.2.2 := by rw [hx]
        rw [x1] at m0
        rw [x2] at m4
        rw [x3] at m8
        clear hx x1 x2 x3
        simp [t0, t5, hks]
        refine dreg_plain _ numP_ok (by rfl) ?_
        simp [-sliceStrV_str, List.lookup, t0, t4, t5, f0, f4, f8, m0, m4, m8]
        obtain ⟨h2, hh2⟩ : ∃ h2, h2 = h'.push (.row (cL x)) := ⟨_, rfl⟩
        have gb2 : Ge h h2 := by rw [hh2]; exact gb.push _
        have wb2 : h2.WF := by rw [hh2]; exact wb.push _
        have c2 : cellsAt h2.get h'.next 3 = some (cL x) := by rw [hh2]; simp [cL]
        have sb2 := sb.ge wb (show Ge h' h2 by rw [hh2]; exact (Ge.refl _).push _)
        have n2 : h2.next = h'.next + 1 := by rw [hh2]; simp
        simp only [cL] at hh2
        rw [H.push_set, ← hh2]
        clear hh2
        rw [hci, ← hxf] at ps
        obtain ⟨l, hlq⟩ : ∃ l, l = putsL oL (L.take i) := ⟨_, rfl⟩
        rw [← hlq] at ps sb sb2 lb
        have hle := puts_take_len oL L (i + 1)
        have hl1 := sb2.len
        simp only [List.length_map] at hl1
        simp [hl1]
        refine loop_cut (id := 2) (fun t' g => (t' 0 = .str s ∧ t' 4 = v ∧ t' 5 = .int .i64 (k : Nat) ∧ t' 6 = .ptr h'.next 3 0 ∧ t' 7 = .int .i64 ((spot oL x l l.length : Nat) : Int)) ∧ g = h2) (fun R hR => ?_) ?_
        · refine loop_up (fun j t' g => (t' 0 = .str s ∧ t' 4 = v ∧ t' 5 = .int .i64 (k : Nat) ∧ t' 6 = .ptr h'.next 3 0 ∧ t' 7 = .int .i64 ((l.length - j : Nat) : Int)) ∧ g = h2 ∧ j ≤ l.length ∧ spot oL x l l.length = spot oL x l (l.length - j)) l.length ⟨by simp [t0, t4, t5], rfl, by omega, rfl⟩ ?_
          rintro j t' g hj ⟨⟨u0, u4, u5, u6, u7⟩, rfl, hjl, hsp⟩ K2 hK2
          obtain ⟨m, hmj⟩ : ∃ m, m = l.length - j := ⟨_, rfl⟩
          rw [← hmj] at u7 hsp
          by_cases h0 : 0 < m
          · have hml : m - 1 < l.length := by omega
            have w1' : IntKind.i64.wrap ((m : Int) - 1) = ((m - 1 : Nat) : Int) := by rw [wrap_i64_id (by omega) (by omega)]; omega
            have sp : spot oL x l m = if oL x l[m - 1] < 0 then spot oL x l (m - 1) else m := by
              obtain ⟨m', rfl⟩ : ∃ m', m = m' + 1 := ⟨m - 1, by omega⟩
              rw [spot, show l[m']? = some l[m'] from List.getElem?_eq_getElem (by omega)]
              simp
            obtain ⟨p, qq, o, cs, e1, e2, e3, e4, _⟩ := sb2.at (k := m - 1) (by simpa using hml)
            have e1' := e1 .i64
            have e4' : (cs.drop o).take 3 = cL l[m - 1] := by rw [e4]; simp
            simp only [cL] at e4' c2
            simp
            refine dreg_of ?_
            simp [u4, u6, u7, h0, w1', e1', e2, e3, e4', c2]
            refine scall_of (less_ct (x := x) (y := l[m - 1])) ?_
            by_cases hc : oL x l[m - 1] < 0
            · simp [hc, u7, w1']
              refine hK2 _ _ (by omega) ⟨by simp [u0, u4, u5, u6]; omega, rfl, by omega, ?_⟩
              rw [hsp, sp, if_pos hc]; congr 1; omega
            · simp [hc]
              refine hR _ _ ⟨by simp [u0, u4, u5, u6, u7, hsp, sp, hc], rfl⟩
          · have m0 : m = 0 := by omega
            subst m0
            simp
            refine dreg_of ?_
            simp [u7]
            refine hR _ _ ⟨by simp [u0, u4, u5, u6, u7, hsp, spot], rfl⟩
        rintro t' g ⟨⟨u0, u4, u5, u6, u7⟩, rfl⟩
        obtain ⟨at', hat⟩ : ∃ at', at' = spot oL x l l.length := ⟨_, rfl⟩
        have hal := spot_le (c := oL) x l l.length
        rw [← hat] at u7 hal
        have hput : putL oL l x = if 0 < at' ∧ l[at' - 1]? = some x then l else l.take at' ++ x :: l.drop at' := by unfold putL; rw [← hat]
        simp
        refine dreg_of ?_
        refine swp_cut (fun t' g' => (t' 0 = .str s ∧ t' 4 = v ∧ t' 5 = .int .i64 (k : Nat) ∧ t' 6 = .ptr h'.next 3 0 ∧ t' 7 = .int .i64 (at' : Nat) ∧ t' 64 = .bool (decide (0 < at' ∧ l[at' - 1]? = some x))) ∧ g' = g) (fun K' hK' => ?_) ?_
        · by_cases h0 : 0 < at'
          · have hkl1 : at' - 1 < l.length := by omega
            have w1' : IntKind.i64.wrap ((at' : Int) - 1) = ((at' - 1 : Nat) : Int) := by rw [wrap_i64_id (by omega) (by omega)]; omega
            obtain ⟨p, qq, o, cs, e1, e2, e3, e4, _⟩ := sb2.at (k := at' - 1) (by simpa using hkl1)
            have e1' := e1 .i64
            have e4' : (cs.drop o).take 3 = cL l[at' - 1] := by rw [e4]; simp
            have eq := eq_lg l[at' - 1] x
            have hg : l[at' - 1]? = some l[at' - 1] := List.getElem?_eq_getElem hkl1
            have hd2 : decide (0 < at' ∧ l[at' - 1]? = some x) = decide (l[at' - 1] = x) := by rw [hg]; simp [h0]
            simp only [cL] at e4' c2 eq
            simp [u4, u6, u7, h0, w1', e1', e2, e3, e4', c2, eq]
            exact hK' _ _ ⟨by simp [u0, u4, u5, u6, u7, hd2], rfl⟩
          · have hd2 : decide (0 < at' ∧ l[at' - 1]? = some x) = false := by simp [h0]
            have k0 : at' = 0 := by omega
            rw [k0] at u7
            simp [u7]
            exact hK' _ _ ⟨by simp [u0, u4, u5, u6, u7, k0], rfl⟩
        clear u0 u4 u5 u6 u7
        rintro t'' g' ⟨⟨u0, u4, u5, u6, u7, u64⟩, rfl⟩
        simp [u64]
        by_cases hp : 0 < at' ∧ l[at' - 1]? = some x
        · rw [if_pos hp] at hput
          rw [hput] at ps
          simp [hp, u5, hw]
          exact hK _ _ hlt ⟨v, by simp [u0, u4], gb2, wb2, by rw [ps]; exact sb2, cb, by rw [ps]; omega⟩
        · rw [if_neg hp] at hput
          have hd2 : (decide (0 < at') && decide (l[at' - 1]? = some x)) = false := by simpa using hp
          simp only [hd2]
          obtain ⟨va, ea, sa, _⟩ := sb2.take cb (k := at') (by simpa using hal) .i64
          rw [← List.map_take] at sa
          obtain ⟨v1, d1, x1, gl1, m1, k1, y1, _⟩ := (Gl.nil g' g'.next 3).appends (bytes := 12) (Nat.le_refl _) (by simp) sa (map_onec (fun _ => rfl) _) (by decide) (by simp; omega) (by simp; omega)
          rw [List.nil_append] at gl1
          simp [u4, u7, ea, x1]
          obtain ⟨h5, hh5⟩ : ∃ h5, h5 = g'.app d1 := ⟨_, rfl⟩
          rw [← hh5] at gl1 m1 k1 y1 ⊢
          have ge5 : Ge g' h5 := ⟨m1, fun i hi => k1 i (by simp [V.ids]) hi⟩
          have w5 := y1 wb2
          have c5 : cellsAt h5.get h'.next 3 = some (cL x) := by rw [ge5.cells (by omega), c2]
          simp only [cL] at c5
          simp [u6, c5]
          obtain ⟨h3, hh3⟩ : ∃ h3, h3 = h5.push (.row (cL x)) := ⟨_, rfl⟩
          have ge3 : Ge h5 h3 := by rw [hh3]; exact (Ge.refl _).push _
          have w3 : h3.WF := by rw [hh3]; exact w5.push _
          have n3 : h3.next = h5.next + 1 := by rw [hh3]; simp
          have gl2 : Gl h3 g'.next 3 v1 ((l.take at').map cL) := gl1.keep ge3.1 (fun i hi => ge3.2 i (gl1.lo i hi).2)
          have hx2 : elemsV h3.get 3 (.sl h5.next 3 0 1 (some 1)) = some (1, cL x) := by
            rw [elemsV_sl, if_neg (by omega), hh3, cellsAt_push, if_pos rfl]
            simp [cL]
          obtain ⟨v2, d2, x2, gl3, m2, k2, y2, i2⟩ := gl2.append2 (bytes := 12) (by omega) (map_lenc cL_len _) (cL_len x) hx2 rfl (by decide) (by simp; omega) (by simp; omega)
          rw [n3] at x2
          simp only [cL] at hh3
          rw [← hh3]
          simp [x2]
          obtain ⟨h4, hh4⟩ : ∃ h4, h4 = h3.app d2 := ⟨_, rfl⟩
          rw [← hh4] at gl3 m2 k2 y2 ⊢
          have ge4 : Ge g' h4 := ⟨by have := ge5.1; have := ge3.1; omega, fun i hi => by
            rw [k2 i (fun hm => by have := (gl2.lo i hm).1; omega) (by have := ge5.1; have := ge3.1; omega), ge3.2 i (by have := ge5.1; omega), ge5.2 i hi]⟩
          have w4 := y2 w3
          have s4 := sb2.ge wb2 ge4
          obtain ⟨vb, eb, sd, _⟩ := s4.drop cb (k := at') (by simpa using hal) .i64
          rw [← List.map_drop] at sd
          obtain ⟨v3, d3, x3, gl4, m3, k3, y3, _⟩ := gl3.appends (bytes := 12) (by have := ge4.1; omega) (fun e he => by
            rcases List.mem_append.1 he with he | he
            · exact map_lenc cL_len _ e he
            · rw [List.mem_singleton] at he; subst he; exact cL_len x) sd (map_onec (fun _ => rfl) _) (by decide) (by simp; omega) (by simp; omega)
          simp [u4, u7, eb, x3]
          obtain ⟨h6, hh6⟩ : ∃ h6, h6 = h4.app d3 := ⟨_, rfl⟩
          rw [← hh6] at gl4 m3 k3 y3 ⊢
          have hes : List.map cL (l.take at') ++ [cL x] ++ List.map cL (l.drop at') = (putL oL l x).map cL := by rw [hput]; simp
          rw [hes, ← ps] at gl4
          have ge6 : Ge h h6 := gb2.trans ⟨by have := ge4.1; omega, fun i hi => by
            rw [k3 i (fun hm => by have := (gl3.lo i hm).1; omega) (by have := ge4.1; omega), ge4.2 i hi]⟩
          have hpl := putL_len (c := oL) l x
          rw [← ps] at hpl
          obtain ⟨mm, hmm⟩ : ∃ mm, mm = putsL oL (L.take (i + 1)) := ⟨_, rfl⟩
          rw [← hmm] at gl4 hpl hle
          have s6 := gl4.sls (map_lenc cL_len _) (by simp only [List.length_map]; omega)
          have hl6 := s6.len
          simp only [List.length_map] at hl6
          simp [hl6]
          by_cases hb6 : 64 < mm.length
          · have hb' : (64 : Int) < mm.length := by omega
            rw [if_pos (by omega)] at hd
            rw [hd] at q
            simp [hb']
            exact q _ _ ge6 (y3 w4) (nilS _)
          · have hb' : ¬ (64 : Int) < mm.length := by omega
            simp [hb', u5, hw]
            refine hK _ _ hlt ⟨v3, by simp [u0], ge6, y3 w4, by rw [← hmm]; exact s6, gl4.cap, by rw [← hmm]; omega⟩
      · have hie : i = n := by omega
        subst hie
        have hks : ¬ k < s.length := by omega
        rw [List.take_of_length_le (by omega)] at sb lb
        rw [if_neg (by omega)] at hd
        rw [hd] at q
        simp [t0, t4, t5, hks]
        exact q _ _ gb wb sb
    · have hrem : intV .rem .i64 (s.length : Int) 12 = some (.int .i64 ((s.length % 12 : Nat) : Int)) := by
        show (if (12 : Int) = 0 then none else some (V.int .i64 ((s.length : Int).tmod 12))) = _
        rw [if_neg (by decide), Int.tmod_eq_emod_of_nonneg (by omega)]; rfl
      obtain ⟨m, hmm⟩ : ∃ m, m = s.length % 12 := ⟨_, rfl⟩
      rw [← hmm] at hrem hm
      have b1 : ((m : Int) != 0) = true := bne_iff_ne.2 (by omega)
      have hd : decL oL 12 fL s = ([], 4) := if_pos (.inr (by rw [← hmm]; exact hm))
      rw [hd] at q
      simp [b0, hrem, b1]
      exact q _ _ (Ge.refl _) wf (nilS _)
end Go.Am
