/-
  WN, N3, in one text.
-/
import Derived.Test.YtcokdbloajhapaaGreatDoorMA
import Derived.Test.YtcokdbloajhapaaGreatDoorSkP
import Derived.Test.YtcokdbloajhapaaGreatDoorAm31
/-
  Contracts of the layer of bytes: readers, Put.
-/
namespace Go.Am
open Go.Proofs

theorem new_ct {h : H} {l : List UInt8} {Q : V → H → Prop} (q : Q (.ptr h.next 2 0) (h.push (rdr l))) : Acalls Tryz.prog 42 [.str l] h Q := by
  refine acalls_to Tryz.func42 S.wire_New_code S.wire_New_enter (Nat.le_of_ble_eq_true rfl) fun wf => ?_; simp only [S.wire_New]
  simp
  exact q
theorem left_ct {h : H} {i : Nat} {l : List UInt8} (r : h.get i = some (rdr l)) : Pure Tryz.prog 45 [.ptr i 2 0] h (.int .i64 l.length) := by
  refine pure_to Tryz.func45 S.wire_Reader_Left_code S.wire_Reader_Left_enter rfl (Nat.le_of_ble_eq_true rfl) fun wf => ?_; simp only [S.wire_Reader_Left]
  simp [cellsAt_of r, rdr, eqV]
theorem take_yes {h : H} {i : Nat} {l : List UInt8} (r : h.get i = some (rdr l)) {z : Int} (n : Nat) (ez : z = n) (hn : n ≤ l.length) {Q : V → H → Prop} (q : Q (.tup [.str (l.take n), .bool true]) (h.set i (rdr (l.drop n)))) : Acalls Tryz.prog 46 [.ptr i 2 0, .int .i64 z] h Q := by
  subst ez
  refine acalls_to Tryz.func46 S.wire_Reader_Take_code S.wire_Reader_Take_enter (Nat.le_of_ble_eq_true rfl) fun wf => ?_; simp only [S.wire_Reader_Take]
  have n0 : ¬ (n : Int) < 0 := by omega
  have n1 : ¬ (l.length : Int) < n := by omega
  have r' : h.get i = some (.row [.bool true, .str l]) := r
  simp [cellsAt_of r, r', rdr, eqV, n0, n1, hn]
  exact q
theorem take_no {h : H} {i : Nat} {l : List UInt8} (r : h.get i = some (rdr l)) {z : Int} (hz : z < 0 ∨ (l.length : Int) < z) : Pure Tryz.prog 46 [.ptr i 2 0, .int .i64 z] h (.tup [.str [], .bool false]) := by
  refine pure_to Tryz.func46 S.wire_Reader_Take_code S.wire_Reader_Take_enter rfl (Nat.le_of_ble_eq_true rfl) fun wf => ?_; simp only [S.wire_Reader_Take]
  have r' : h.get i = some (.row [.bool true, .str l]) := r
  by_cases h0 : z < 0
  · simp [cellsAt_of r, rdr, eqV, h0]
  · have h1 : (l.length : Int) < z := by omega
    simp [cellsAt_of r, rdr, eqV, h0, h1]
theorem or_low : ∀ v b : Nat, b < 256 → v * 256 + b < 18446744073709551616 → (BitVec.ofInt 64 ((v * 256 : Nat) : Int) ||| BitVec.ofInt 64 (b : Int)).toNat = v * 256 + b := by
  intro v b hb hv
  have h1 : (BitVec.ofInt 64 ((v * 256 : Nat) : Int)).toNat = 2 ^ 8 * v := by simp [BitVec.toNat_ofInt]; omega
  have h2 : (BitVec.ofInt 64 (b : Int)).toNat = b := by simp; omega
  rw [BitVec.toNat_or, h1, h2, ← Nat.two_pow_add_eq_or_of_lt (by omega)]; omega
theorem more_ct {h : H} {j : Nat} {v : Nat} (r : h.get j = some (.row [.int .u64 v])) {b : UInt8} (hv : v * 256 + b.toNat < 18446744073709551616) {Q : V → H → Prop} (q : Q (.tup []) (h.set j (.row [.int .u64 ((v * 256 + b.toNat : Nat) : Int)]))) : Acalls Tryz.prog 90 [byteV b, .ptr j 1 0] h Q := by
  refine acalls_to Tryz.func90 S.wire_sum_1_code S.wire_sum_1_enter (Nat.le_of_ble_eq_true rfl) fun wf => ?_; simp only [S.wire_sum_1]
  have hb : b.toNat < 256 := b.toNat_lt
  have w1 : IntKind.u64.wrap ((v : Int) * 2 ^ min 8 IntKind.u64.bits) = ((v * 256 : Nat) : Int) := by simp [IntKind.wrap, IntKind.bits, IntKind.signed]; omega
  have w2 : IntKind.u64.wrap (b.toNat : Int) = (b.toNat : Int) := u64_id (by omega)
  have orb : intV .or .u64 ((v * 256 : Nat) : Int) (b.toNat : Int) = some (.int .u64 ((v * 256 + b.toNat : Nat) : Int)) := by
    show some (V.int .u64 (IntKind.u64.wrap ((BitVec.ofInt 64 ((v * 256 : Nat) : Int) ||| BitVec.ofInt 64 (b.toNat : Int)).toNat : Int))) = _
    rw [or_low v b.toNat hb hv, u64_id hv]
  simp only [byteV]
  simp [cellsAt_of r]
  rw [w1, w2, orb]
  simp [r]
  simpa using q
theorem value_ct {h : H} {j : Nat} {v : Int} (r : h.get j = some (.row [.int .u64 v])) : Pure Tryz.prog 91 [.ptr j 1 0] h (.int .u64 v) := by
  refine pure_to Tryz.func91 S.wire_sum_2_code S.wire_sum_2_enter rfl (Nat.le_of_ble_eq_true rfl) fun wf => ?_; simp only [S.wire_sum_2]
  simp [cellsAt_of r]
theorem sum_ct {h : H} {Q : V → H → Prop} (q : Q (.tup [.func (.func 90) [] [.ptr h.next 1 0], .func (.func 91) [] [.ptr h.next 1 0]]) (h.push (.row [.int .u64 0]))) : Acalls Tryz.prog 72 [] h Q := by
  refine acalls_to Tryz.func72 S.wire_sum_code S.wire_sum_enter (Nat.le_of_ble_eq_true rfl) fun wf => ?_; simp only [S.wire_sum]
  simp
  rw [H.push_set]; exact q

set_option maxRecDepth 100000
theorem number_yes {h : H} {i : Nat} {l : List UInt8} (r : h.get i = some (rdr l)) {z : Int} (n : Nat) (ez : z = n) (h1 : 1 ≤ n ∧ n ≤ 8) (hn : n ≤ l.length) {Q : V → H → Prop} (q : Q (.tup [.int .u64 (val (l.take n)), .bool true]) (h.set i (rdr (l.drop n)))) : Acalls Tryz.prog 44 [.ptr i 2 0, .int .i64 z] h Q := by
  subst ez
  refine Acalls.turn (i := i) (o' := rdr (l.drop n)) ⟨_, r⟩ rfl (fun wf => ?_) (by kernel_rfl)
  refine acalls_to Tryz.func44 S.wire_Reader_Number_code S.wire_Reader_Number_enter (Nat.le_of_ble_eq_true rfl) fun wf => ?_; simp only [S.wire_Reader_Number]
  have e1 : ¬ (n : Int) < 1 := by omega
  have e2 : ¬ (8 : Int) < n := by omega
  have hlt := wf.lt r
  simp [e1, e2]
  refine take_yes r n rfl hn ?_
  simp
  refine sum_ct ?_
  have hl : (l.take n).length = n := by rw [List.length_take]; omega
  simp [hl]
  obtain ⟨g, hg⟩ : ∃ g, g = h.set i (rdr (l.drop n)) := ⟨_, rfl⟩
  have gn : g.next = h.next := by rw [hg]; rfl
  rw [← hg, ← gn]
  refine loop_up (fun k t h' => (t 7 = .str (l.take n) ∧ t 8 = .bool true ∧ t 9 = .func (.func 90) [] [.ptr g.next 1 0] ∧ t 10 = .func (.func 91) [] [.ptr g.next 1 0] ∧ t 31 = .int .i64 n ∧ t 32 = .int .i64 k) ∧ g.push (.row [.int .u64 (val ((l.take n).take k))]) = h') n ⟨by simp, by simp [val]⟩ ?_
  rintro k t _ hk ⟨⟨t7, t8, t9, t10, t31, t32⟩, rfl⟩ K hK
  have r2 : (g.push (.row [.int .u64 (val ((l.take n).take k))])).get g.next = some (.row [.int .u64 (val ((l.take n).take k))]) := by simp
  by_cases hlt' : k < n
  · have hkl : k < (l.take n).length := by omega
    have hw := wrap_succ hlt' (by omega)
    have hlk : (l.take n)[k] = l[k] := List.getElem_take
    have hs : val ((l.take n).take (k + 1)) = val ((l.take n).take k) * 256 + (l[k]).toNat := by
      rw [← hlk, ← val_snoc, List.take_append_getElem hkl]
    have hv : val ((l.take n).take k) * 256 + (l[k]).toNat < 18446744073709551616 := by
      rw [← hs]; exact val_lt8 (by rw [List.length_take]; omega)
    have hix : l[k]? = some l[k] := List.getElem?_eq_getElem (by omega)
    simp [t7, t9, t31, t32, hlt', hl]
    refine more_ct (b := l[k]) r2 hv ?_
    rw [H.push_set, ← hs]
    simp [t32, hw]
    exact hK _ _ hlt' ⟨by simp [t7, t8, t9, t10, t31], rfl⟩
  · have hke : k = n := by omega
    subst hke
    simp [t10, t31, t32]
    refine value_ct r2 _ ?_
    simp [t8]
    rw [List.take_of_length_le (by omega)]
    exact ⟨rfl, by rw [hg]; exact q⟩
theorem number_no {h : H} {i : Nat} {l : List UInt8} (r : h.get i = some (rdr l)) {z : Int} (n : Nat) (ez : z = n) (h1 : 1 ≤ n ∧ n ≤ 8) (hn : l.length < n) : Pure Tryz.prog 44 [.ptr i 2 0, .int .i64 z] h (.tup [.int .u64 0, .bool false]) := by
  subst ez
  refine pure_to Tryz.func44 S.wire_Reader_Number_code S.wire_Reader_Number_enter rfl (Nat.le_of_ble_eq_true rfl) fun wf => ?_; simp only [S.wire_Reader_Number]
  have e1 : ¬ (n : Int) < 1 := by omega
  have e2 : ¬ (8 : Int) < n := by omega
  simp [e1, e2]
  refine take_no r (.inr (by omega)) _ ?_
  simp
  refine sum_ct ?_
  simp
  refine loop_up (fun k t h' => (t 8 = .bool false ∧ t 10 = .func (.func 91) [] [.ptr h.next 1 0] ∧ t 31 = .int .i64 0 ∧ t 32 = .int .i64 0) ∧ h.push (.row [.int .u64 0]) = h') 0 ⟨by simp, rfl⟩ ?_
  rintro k t _ hk ⟨⟨t8, t10, t31, t32⟩, rfl⟩ K hK
  simp [t31, t32, t10]
  refine value_ct (v := 0) (by simp) _ ?_
  simp [t8]
/-- What Len64 tells. -/
def len8 : List UInt8 := [0, 1, 2, 2, 3, 3, 3, 3, 4, 4, 4, 4, 4, 4, 4, 4, 5, 5, 5, 5, 5, 5, 5, 5, 5, 5, 5, 5, 5, 5, 5, 5, 6, 6, 6, 6, 6, 6, 6, 6, 6, 6, 6, 6, 6, 6, 6, 6, 6, 6, 6, 6, 6, 6, 6, 6, 6, 6, 6, 6, 6, 6, 6, 6, 7, 7, 7, 7, 7, 7, 7, 7, 7, 7, 7, 7, 7, 7, 7, 7, 7, 7, 7, 7, 7, 7, 7, 7, 7, 7, 7, 7, 7, 7, 7, 7, 7, 7, 7, 7, 7, 7, 7, 7, 7, 7, 7, 7, 7, 7, 7, 7, 7, 7, 7, 7, 7, 7, 7, 7, 7, 7, 7, 7, 7, 7, 7, 7, 8, 8, 8, 8, 8, 8, 8, 8, 8, 8, 8, 8, 8, 8, 8, 8, 8, 8, 8, 8, 8, 8, 8, 8, 8, 8, 8, 8, 8, 8, 8, 8, 8, 8, 8, 8, 8, 8, 8, 8, 8, 8, 8, 8, 8, 8, 8, 8, 8, 8, 8, 8, 8, 8, 8, 8, 8, 8, 8, 8, 8, 8, 8, 8, 8, 8, 8, 8, 8, 8, 8, 8, 8, 8, 8, 8, 8, 8, 8, 8, 8, 8, 8, 8, 8, 8, 8, 8, 8, 8, 8, 8, 8, 8, 8, 8, 8, 8, 8, 8, 8, 8, 8, 8, 8, 8, 8, 8, 8, 8, 8, 8, 8, 8, 8, 8, 8, 8, 8, 8, 8, 8, 8, 8, 8, 8, 8, 8]
theorem len8_ok : len8.length = 256 ∧ ∀ x : Nat, x < 256 → (len8.getD x 0).toNat ≤ 8 ∧ ∀ k : Nat, k < 9 → (k < (len8.getD x 0).toNat ↔ 2 ^ k ≤ x) := by decide +kernel
theorem shr_n (v k : Nat) (hk : k ≤ 64) : ((v : Int).fdiv (2 ^ min k IntKind.u64.bits)) = ((v / 2 ^ k : Nat) : Int) := by
  rw [show IntKind.u64.bits = 64 from rfl, Nat.min_eq_left hk, show (2 : Int) ^ k = ((2 ^ k : Nat) : Int) by simp, Int.fdiv_eq_ediv_of_nonneg _ (Int.natCast_nonneg _), ← Int.natCast_ediv]
theorem len_step {v m n : Nat} (h : 2 ^ m ≤ v) (hn : ∀ k, k < n ↔ 2 ^ k ≤ v / 2 ^ m) : ∀ k, k < n + m ↔ 2 ^ k ≤ v := by
  intro k
  rcases Nat.lt_or_ge k m with c | c
  · exact ⟨fun _ => Nat.le_trans (Nat.pow_le_pow_right (by omega) (by omega)) h, fun _ => by omega⟩
  · obtain ⟨j, rfl⟩ := Nat.exists_eq_add_of_le c
    have := hn j
    rw [Nat.le_div_iff_mul_le (Nat.pos_of_ne_zero (by simp)), Nat.mul_comm, ← Nat.pow_add] at this
    rw [← this]; omega
set_option maxRecDepth 100000 in
theorem len64_ct {v : Nat} (hv : v < 18446744073709551616) : ∃ n : Nat, n ≤ 64 ∧ (∀ k, k ≤ 64 → (k < n ↔ 2 ^ k ≤ v)) ∧ ∀ h : H, Pure Tryz.prog 64 [.int .u64 v] h (.int .i64 n) := by
  obtain ⟨a1, ha1⟩ : ∃ a, a = if 4294967296 ≤ v then 32 else 0 := ⟨_, rfl⟩
  obtain ⟨v1, hv1⟩ : ∃ a, a = if 4294967296 ≤ v then v / 4294967296 else v := ⟨_, rfl⟩
  obtain ⟨a2, ha2⟩ : ∃ a, a = if 65536 ≤ v1 then a1 + 16 else a1 := ⟨_, rfl⟩
  obtain ⟨v2, hv2⟩ : ∃ a, a = if 65536 ≤ v1 then v1 / 65536 else v1 := ⟨_, rfl⟩
  obtain ⟨a3, ha3⟩ : ∃ a, a = if 256 ≤ v2 then a2 + 8 else a2 := ⟨_, rfl⟩
  obtain ⟨v3, hv3⟩ : ∃ a, a = if 256 ≤ v2 then v2 / 256 else v2 := ⟨_, rfl⟩
  have b1 : v1 < 4294967296 := by rw [hv1]; split <;> omega
  have b2 : v2 < 65536 := by rw [hv2]; split <;> omega
  have b3 : v3 < 256 := by rw [hv3]; split <;> omega
  obtain ⟨T, hT⟩ : ∃ T, T = len8 := ⟨_, rfl⟩
  obtain ⟨tl, tx⟩ := len8_ok
  rw [← hT] at tl tx
  obtain ⟨c, hc⟩ : ∃ c, T[v3]? = some c := ⟨_, List.getElem?_eq_getElem (by omega)⟩
  have tc := tx v3 b3
  rw [List.getD_eq_getElem?_getD, hc, Option.getD_some] at tc
  refine ⟨a3 + c.toNat, ?_, ?_, fun h => ?_⟩
  · have : a3 ≤ 56 := by rw [ha3, ha2, ha1]; split <;> split <;> split <;> omega
    omega
  · have n3 : ∀ k, k < c.toNat ↔ 2 ^ k ≤ v3 := fun k => by
      rcases Nat.lt_or_ge k 9 with hk | hk
      · exact tc.2 k hk
      · have : 2 ^ 9 ≤ 2 ^ k := Nat.pow_le_pow_right (by omega) hk
        omega
    have n2 : ∃ n, a3 + c.toNat = a2 + n ∧ ∀ k, k < n ↔ 2 ^ k ≤ v2 := by
      by_cases g : 256 ≤ v2
      · rw [if_pos g] at ha3 hv3
        exact ⟨c.toNat + 8, by omega, len_step g (by rw [show 2 ^ 8 = 256 from rfl, ← hv3]; exact n3)⟩
      · rw [if_neg g] at ha3 hv3
        exact ⟨c.toNat, by omega, by rw [← hv3]; exact n3⟩
    obtain ⟨q2, e2, n2⟩ := n2
    have n1 : ∃ n, a3 + c.toNat = a1 + n ∧ ∀ k, k < n ↔ 2 ^ k ≤ v1 := by
      by_cases g : 65536 ≤ v1
      · rw [if_pos g] at ha2 hv2
        exact ⟨q2 + 16, by omega, len_step g (by rw [show 2 ^ 16 = 65536 from rfl, ← hv2]; exact n2)⟩
      · rw [if_neg g] at ha2 hv2
        exact ⟨q2, by omega, by rw [← hv2]; exact n2⟩
    obtain ⟨q1, e1, n1⟩ := n1
    intro k _
    by_cases g : 4294967296 ≤ v
    · rw [if_pos g] at ha1 hv1
      have := len_step g (by rw [show 2 ^ 32 = 4294967296 from rfl, ← hv1]; exact n1) k
      rw [← this]; omega
    · rw [if_neg g] at ha1 hv1
      have := n1 k
      rw [hv1] at this
      rw [← this]; omega
  · refine pure_to Tryz.func64 S.math_bits_Len64_code S.math_bits_Len64_enter rfl (Nat.le_of_ble_eq_true rfl) fun wf => ?_; simp only [S.math_bits_Len64]
    rw [show ([0, 1, 2, 2, 3, 3, 3, 3, 4, 4, 4, 4, 4, 4, 4, 4, 5, 5, 5, 5, 5, 5, 5, 5, 5, 5, 5, 5, 5, 5, 5, 5, 6, 6, 6, 6, 6, 6, 6, 6, 6, 6, 6, 6, 6, 6, 6, 6, 6, 6, 6, 6, 6, 6, 6, 6, 6, 6, 6, 6, 6, 6, 6, 6, 7, 7, 7, 7, 7, 7, 7, 7, 7, 7, 7, 7, 7, 7, 7, 7, 7, 7, 7, 7, 7, 7, 7, 7, 7, 7, 7, 7, 7, 7, 7, 7, 7, 7, 7, 7, 7, 7, 7, 7, 7, 7, 7, 7, 7, 7, 7, 7, 7, 7, 7, 7, 7, 7, 7, 7, 7, 7, 7, 7, 7, 7, 7, 7, 8, 8, 8, 8, 8, 8, 8, 8, 8, 8, 8, 8, 8, 8, 8, 8, 8, 8, 8, 8, 8, 8, 8, 8, 8, 8, 8, 8, 8, 8, 8, 8, 8, 8, 8, 8, 8, 8, 8, 8, 8, 8, 8, 8, 8, 8, 8, 8, 8, 8, 8, 8, 8, 8, 8, 8, 8, 8, 8, 8, 8, 8, 8, 8, 8, 8, 8, 8, 8, 8, 8, 8, 8, 8, 8, 8, 8, 8, 8, 8, 8, 8, 8, 8, 8, 8, 8, 8, 8, 8, 8, 8, 8, 8, 8, 8, 8, 8, 8, 8, 8, 8, 8, 8, 8, 8, 8, 8, 8, 8, 8, 8, 8, 8, 8, 8, 8, 8, 8, 8, 8, 8, 8, 8, 8, 8, 8, 8] : List UInt8) = T from hT.symm]
    have s1 := shr_n v 32 (by omega)
    have s2 := shr_n v1 16 (by omega)
    have s3 := shr_n v2 8 (by omega)
    have w3 : IntKind.u8.wrap (v3 : Int) = v3 := by simp [IntKind.wrap, IntKind.bits, IntKind.signed]; omega
    have w4 : IntKind.i64.wrap (c.toNat : Int) = c.toNat := wrap_nat (by omega)
    have wa : ∀ x : Nat, x < 1000 → IntKind.i64.wrap (x : Int) = x := fun x hx => wrap_nat (by omega)
    have wb : ∀ x y : Nat, x < 1000 → y < 1000 → IntKind.i64.wrap ((x : Int) + (y : Int)) = ((x + y : Nat) : Int) := fun x y hx hy => by rw [← Int.natCast_add]; exact wrap_nat (by omega)
    have zz1 : ∀ n : Nat, ((4294967296 : Int) ≤ n) = (4294967296 ≤ n) := fun n => propext (by omega)
    have zz2 : ∀ n : Nat, ((65536 : Int) ≤ n) = (65536 ≤ n) := fun n => propext (by omega)
    have zz3 : ∀ n : Nat, ((256 : Int) ≤ n) = (256 ≤ n) := fun n => propext (by omega)
    have lo : ∀ n : Nat, (0 : Int) ≤ n := fun n => by omega
    by_cases g1 : 4294967296 ≤ v <;> by_cases g2 : 65536 ≤ v1 <;> by_cases g3 : 256 ≤ v2 <;>
    (first | (rw [if_pos g1] at ha1 hv1; rw [show (v / 2 ^ 32) = v1 from hv1.symm] at s1) | (rw [if_neg g1] at ha1 hv1; replace s1 := hv1.symm; rw [s1] at g1)) <;>
    (first | (rw [if_pos g2] at ha2 hv2; rw [show (v1 / 2 ^ 16) = v2 from hv2.symm] at s2) | (rw [if_neg g2] at ha2 hv2; replace s2 := hv2.symm; rw [s2] at g2)) <;>
    (first | (rw [if_pos g3] at ha3 hv3; rw [show (v2 / 2 ^ 8) = v3 from hv3.symm] at s3) | (rw [if_neg g3] at ha3 hv3; replace s3 := hv3.symm; rw [s3] at g3)) <;>
    (try rw [s2] at g1) <;> (try rw [s3] at g1) <;> (try rw [s3] at g2) <;>
    (clear hT tx; simp [zz1, zz2, zz3, g1, g2, g3, s1, s2, s3, w3, w4, hc, lo]) <;>
    (subst ha1; subst ha2; subst ha3; have t1 := tc.1; simp [IntKind.wrap, IntKind.bits, IntKind.signed] <;> omega)
theorem byte_of (v k : Nat) (hk : k ≤ 7) : IntKind.u8.wrap ((v : Int).fdiv (2 ^ min (8 * (k : Int)).toNat IntKind.u64.bits)) = ((UInt8.ofNat (v / 256 ^ k)).toNat : Int) := by
  have e1 : min (8 * (k : Int)).toNat IntKind.u64.bits = 8 * k := by simp [IntKind.bits]; omega
  rw [e1, show (2 : Int) ^ (8 * k) = ((256 ^ k : Nat) : Int) by rw [Int.pow_mul]; simp]
  rw [Int.fdiv_eq_ediv_of_nonneg _ (Int.natCast_nonneg _), ← Int.natCast_ediv]
  simp only [IntKind.wrap, IntKind.bits, IntKind.signed, Bool.false_and, Bool.false_eq_true, if_false, UInt8.toNat_ofNat']
  omega
/-- A list of bytes, as cells. -/
theorem byteV_u8 (b : Nat) (h : b < 256) : V.int .u8 b = byteV (UInt8.ofNat b) := by
  simp [byteV]; omega
theorem mapM_u8 : ∀ l : List UInt8, (l.map byteV).mapM u8Of = some l
  | [] => rfl
  | b :: l => by
    rw [List.map_cons, List.mapM_cons, mapM_u8 l]
    simp [u8Of, byteV]
@[simp] theorem mapM_u8' (l : List UInt8) : l.mapM (u8Of ∘ byteV) = some l := by
  have := mapM_u8 l
  rwa [List.mapM_map] at this
theorem byteV_one (l : List UInt8) : (l.map byteV).all V.one = true := by
  simp [byteV]

theorem put_ct {h : H} {b : List UInt8} {v size : Nat} (hs : 1 ≤ size) (hs2 : size ≤ 8) (hv : v < 256 ^ size) (hb : b.length ≤ 1000000) : Pure Tryz.prog 34 [.str b, .int .u64 v, .int .i64 size] h (.tup [.str (b ++ be size v), .int .i64 0]) := by
  have hpow : 256 ^ size ≤ 256 ^ 8 := Nat.pow_le_pow_right (by omega) hs2
  have hv64 : v < 18446744073709551616 := Nat.lt_of_lt_of_le hv (Nat.le_trans hpow (by decide))
  obtain ⟨n, hn, hk, hlen⟩ := len64_ct hv64
  refine pure_to Tryz.func34 S.wire_Put_code S.wire_Put_enter rfl (Nat.le_of_ble_eq_true rfl) fun wf => ?_; simp only [S.wire_Put]
  have z1 : ¬ ((size : Int) < 1) := by omega
  have z2 : ¬ ((8 : Int) < size) := by omega
  have z3 : n ≤ 8 * size := by
    rcases Nat.lt_or_ge (8 * size) n with c | c
    · have := (hk (8 * size) (by omega)).1 c
      rw [Nat.pow_mul, show (2 ^ 8 : Nat) = 256 from rfl] at this
      omega
    · exact c
  have z4 : IntKind.i64.wrap (8 * (size : Int)) = 8 * size := wrap_i64_id (by omega) (by omega)
  have z5 : ¬ (8 * (size : Int) < n) := by omega
  have z6 : IntKind.i64.wrap ((size : Int) - 1) = size - 1 := wrap_i64_id (by omega) (by omega)
  simp [z1, z2]
  refine hlen h _ ?_
  have hbl : b.length ≤ 9223372036854775807 := by omega
  simp [z4, z5, exec, z6, hbl]
  refine loop_up (fun i t h' => ∃ acc : List UInt8, (t 1 = .int .u64 v ∧ t 8 = .sl h.next acc.length 0 acc.length none ∧ t 9 = .int .i64 ((size : Int) - 1 - i)) ∧ Ge h h' ∧ h.next < h'.next ∧ h'.get h.next = some (.grow 1 (acc.map byteV)) ∧ acc.length = b.length + i ∧ acc ++ be (size - i) v = b ++ be size v) size ⟨b, by simp⟩ ?_
  rintro i t h' hi ⟨acc, ⟨h1, h8, h9⟩, hg, hnx, ho, hal, hacc⟩ K hK
  by_cases hlt : i < size
  · have y1 : (0 : Int) ≤ (size : Int) - 1 - i := by omega
    have y2 : IntKind.i64.wrap (8 * ((size : Int) - 1 - i)) = 8 * ((size : Int) - 1 - i) := wrap_i64_id (by omega) (by omega)
    have y3 : IntKind.i64.wrap ((size : Int) - 1 - i - 1) = (size : Int) - 1 - (i + 1) := by rw [wrap_i64_id (by omega) (by omega)]; omega
    have y4 : (0 : Int) ≤ 8 * ((size : Int) - 1 - i) := by omega
    have y5 : (i : Int) ≤ (size : Int) - 1 := by omega
    have y6 : (size : Int) - 1 - i = ((size - 1 - i : Nat) : Int) := by omega
    have y7 := byte_of v (size - 1 - i) (by omega)
    obtain ⟨B, hB⟩ : ∃ B, B = UInt8.ofNat (v / 256 ^ (size - 1 - i)) := ⟨_, rfl⟩
    rw [← y6, ← hB] at y7
    have y8 : ¬ h.next = h'.next := by omega
    have ap := fun c hc => appendV_grow (g := (h'.push (.row [V.int .u8 (B.toNat : Int)])).get) (next := h'.next + 1) (sz := 1) (bytes := 1) (q := h.next) (n := acc.length) (len := acc.length) (m := 1) (cs := acc.map byteV) (xs := [V.int .u8 (B.toNat : Int)]) (x := c) (by simp [y8, ho]) (by simp) (by simp) hc (by simp) (by simp) (by simp) (by omega) (by omega)
    simp [h1, h8, h9, y2, y4, y5, y7]
    rw [ap _ (by simp [elemsV_sl])]
    simp [h9, y3]
    refine hK _ _ hlt ⟨acc ++ [B], ?_, ?_, ?_, ?_, ?_, ?_⟩
    · simp [h1]
    · exact (hg.push _).set (Nat.le_refl _) _
    · simp; omega
    · simp [byteV]
    · simp; omega
    · rw [← hacc, show size - i = (size - 1 - i) + 1 by omega, be, ← hB, show size - (i + 1) = size - 1 - i by omega]; simp
  · have hi2 : i = size := by omega
    subst hi2
    have y1 : ¬ (i : Int) ≤ (i : Int) - 1 := by omega
    have el : elemsV h'.get 1 (.sl h.next acc.length 0 acc.length none) = some (acc.length, acc.map byteV) := by
      rw [elemsV_sl]
      split
      · rename_i h0; have : acc = [] := List.eq_nil_of_length_eq_zero h0
        subst this; rfl
      · rw [cellsAt_of ho (by simp)]; simp [List.take_of_length_le]
    simp [h8, h9, y1, el]
    refine ⟨?_, hg⟩
    simpa [be] using hacc

end Go.Am

/-
  Contracts: families, addresses, prefixes, told prefixes.
-/
namespace Go.Am
open Go.Proofs

set_option maxRecDepth 100000
theorem beq_no {a b : Int} (h : ¬ a = b) : (a == b) = false := by rw [beq_eq_false_iff_ne]; exact h
theorem psize_ct {h : H} {fam : Int} : Pure Tryz.prog 32 [.int .i64 fam] h (.int .i64 (sizeN fam : Nat)) := by
  refine pure_to Tryz.func32 S.prim_Size_code S.prim_Size_enter rfl (Nat.le_of_ble_eq_true rfl) fun wf => ?_; simp only [S.prim_Size]
  by_cases e1 : fam = 1
  · subst e1; simp [sizeN]
  by_cases e3 : fam = 3
  · subst e3; simp [sizeN]
  by_cases e4 : fam = 4
  · subst e4; simp [sizeN]
  by_cases e2 : fam = 2
  · subst e2; simp [sizeN]
  by_cases e5 : fam = 5
  · subst e5; simp [sizeN]
  simp [sizeN, beq_no e1, beq_no e3, beq_no e4, beq_no e2, beq_no e5, e1, e2, e3, e4, e5]
theorem papart_ct {h : H} {fam : Int} : Pure Tryz.prog 52 [.int .i64 fam] h (.bool (apartF fam)) := by
  refine pure_to Tryz.func52 S.prim_apart_code S.prim_apart_enter rfl (Nat.le_of_ble_eq_true rfl) fun wf => ?_; simp only [S.prim_apart]
  simp
  unfold apartF
  cases fam == 4 <;> simp
theorem napart_ct {h : H} {fam : Int} : Pure Tryz.prog 35 [.int .i64 fam] h (.bool (apartF fam)) := by
  refine pure_to Tryz.func35 S.nlri_apart_code S.nlri_apart_enter rfl (Nat.le_of_ble_eq_true rfl) fun wf => ?_; simp only [S.nlri_apart]
  simp
  unfold apartF
  cases fam == 4 <;> simp
theorem nlabel_ct {h : H} {fam : Int} : Pure Tryz.prog 26 [.int .i64 fam] h (.bool (labelF fam)) := by
  refine pure_to Tryz.func26 S.nlri_labelled_code S.nlri_labelled_enter rfl (Nat.le_of_ble_eq_true rfl) fun wf => ?_; simp only [S.nlri_labelled]
  simp
  unfold labelF
  by_cases e : 3 ≤ fam <;> simp [e]
theorem ahead_ct {h : H} {fam : Int} : Pure Tryz.prog 22 [.int .i64 fam] h (.int .i64 (aheadN fam : Nat)) := by
  refine pure_to Tryz.func22 S.nlri_ahead_code S.nlri_ahead_enter rfl (Nat.le_of_ble_eq_true rfl) fun wf => ?_; simp only [S.nlri_ahead]
  have w1 : IntKind.i64.wrap 24 = 24 := by decide
  have w2 : IntKind.i64.wrap 64 = 64 := by decide
  have w3 : IntKind.i64.wrap (24 + 64) = 88 := by decide
  simp
  refine nlabel_ct _ ?_
  unfold aheadN
  cases labelF fam with
  | true =>
    simp [w1]
    refine napart_ct _ ?_
    cases apartF fam <;> simp
    decide
  | false =>
    simp
    refine napart_ct _ ?_
    cases apartF fam <;> simp [w2]
theorem quo8 {z : Int} (h : 0 ≤ z) (h2 : z < 1000000000) : intV .quo .i64 z 8 = some (.int .i64 (z / 8)) := by
  show (if (8 : Int) = 0 then none else some (V.int .i64 (IntKind.i64.wrap (z.tdiv 8)))) = _
  rw [if_neg (by decide), Int.tdiv_eq_ediv_of_nonneg h, wrap_i64_id (by omega) (by omega)]
theorem whole_ct {h : H} {n : Nat} (hn : n < 1000000) : Pure Tryz.prog 21 [.int .i64 (n : Nat)] h (.int .i64 (wholeN n : Nat)) := by
  refine pure_to Tryz.func21 S.nlri_whole_code S.nlri_whole_enter rfl (Nat.le_of_ble_eq_true rfl) fun wf => ?_; simp only [S.nlri_whole]
  have w : IntKind.i64.wrap ((n : Int) + 7) = (n : Int) + 7 := wrap_i64_id (by omega) (by omega)
  have q := quo8 (z := (n : Int) + 7) (by omega) (by omega)
  have e : ((n : Int) + 7) / 8 = (wholeN n : Nat) := by unfold wholeN; omega
  rw [e] at q
  simp [w, q]
theorem maskL_snoc {l : List UInt8} {n : Int} {i : Nat} (h : i < l.length) : maskL (l.take (i + 1)) n = maskL (l.take i) n ++ [UInt8.ofNat (maskN (l[i]).toNat (n - 8 * (i : Int)))] := by
  refine List.ext_getElem (by simp [maskL_len]; omega) fun k h1 h2 => ?_
  rw [maskL_len, List.length_take] at h1
  rw [maskL_get _ _ _ (by rw [List.length_take]; exact h1), List.getElem_take]
  by_cases hk : k < i
  · rw [List.getElem_append_left (by rw [maskL_len, List.length_take]; omega), maskL_get _ _ _ (by rw [List.length_take]; omega), List.getElem_take]
  · have e : k = i := by omega
    subst e
    rw [List.getElem_append_right (by rw [maskL_len, List.length_take]; omega)]
    simp
theorem mask_and : ∀ b : Nat, b < 256 → ∀ k : Nat, k < 8 → (BitVec.ofInt 8 (b : Int) &&& BitVec.ofInt 8 (IntKind.u8.wrap (255 * 2 ^ k))).toNat = b / 2 ^ k * 2 ^ k := by decide +kernel
theorem u8_idN {n : Nat} (h : n < 256) : IntKind.u8.wrap (n : Int) = (n : Int) := by simp [IntKind.wrap, IntKind.bits, IntKind.signed]; omega
theorem mask_op {b : Nat} {left : Int} (hb : b < 256) (h1 : 0 < left) (h2 : left < 8) : intV .and .u8 (b : Int) (IntKind.u8.wrap (255 * 2 ^ min (8 - left).toNat IntKind.u8.bits)) = some (.int .u8 (maskN b left : Nat)) := by
  have e : min (8 - left).toNat IntKind.u8.bits = 8 - left.toNat := by simp [IntKind.bits]; omega
  rw [e]
  show some (V.int .u8 (IntKind.u8.wrap ((BitVec.ofInt 8 (b : Int) &&& BitVec.ofInt 8 (IntKind.u8.wrap (255 * 2 ^ (8 - left.toNat)))).toNat : Int))) = _
  rw [mask_and b hb _ (by omega)]
  have hm : maskN b left = b / 2 ^ (8 - left.toNat) * 2 ^ (8 - left.toNat) := by unfold maskN; rw [if_neg (by omega), if_pos h2]
  rw [← hm, u8_idN (by have := maskN_le b left; omega)]
theorem masked_ct {h : H} {l : List UInt8} {n : Int} (hl : l.length ≤ 1000000) (hn : -1000000 ≤ n ∧ n ≤ 1000000) : Pure Tryz.prog 53 [.str l, .int .i64 n] h (.str (maskL l n)) := by
  refine pure_to Tryz.func53 S.prim_masked_code S.prim_masked_enter rfl (Nat.le_of_ble_eq_true rfl) fun wf => ?_; simp only [S.prim_masked]
  have hll : l.length ≤ 9223372036854775807 := by omega
  simp [exec, hll]
  refine loop_up (fun i t h' => (t 1 = .int .i64 n ∧ t 5 = .sl h.next l.length 0 l.length none ∧ t 11 = .int .i64 l.length ∧ t 12 = .int .i64 i) ∧ Ge h h' ∧ h.next < h'.next ∧ h'.get h.next = some (.grow 1 ((maskL (l.take i) n ++ l.drop i).map byteV))) l.length ⟨by simp, by simp, by simp, by simp [maskL]⟩ ?_
  rintro i t h' hi ⟨⟨t1, t5, t11, t12⟩, hg, hnx, ho⟩ K hK
  by_cases hlt : i < l.length
  · have hw := wrap_succ hlt (by omega)
    have w8 : IntKind.i64.wrap (8 * (i : Int)) = 8 * (i : Int) := wrap_i64_id (by omega) (by omega)
    have wl : IntKind.i64.wrap (n - 8 * (i : Int)) = n - 8 * (i : Int) := wrap_i64_id (by omega) (by omega)
    have hlen : (maskL (l.take i) n ++ l.drop i).length = l.length := by simp [maskL_len]; omega
    have hb : (l[i]).toNat < 256 := (l[i]).toNat_lt
    have hgi : (maskL (l.take i) n ++ l.drop i)[i]? = some l[i] := by
      rw [List.getElem?_append_right (by rw [maskL_len, List.length_take]; omega), maskL_len, List.length_take, Nat.min_eq_left (by omega), Nat.sub_self, List.getElem?_drop]
      simp [List.getElem?_eq_getElem hlt]
    have hset : ∀ v : UInt8, UInt8.ofNat (maskN (l[i]).toNat (n - 8 * (i : Int))) = v → (maskL (l.take i) n ++ l.drop i).set i v = maskL (l.take (i + 1)) n ++ l.drop (i + 1) := fun v hv => by
      rw [maskL_snoc hlt, ← hv, List.set_append_right _ _ (by rw [maskL_len, List.length_take]; omega), maskL_len, List.length_take, Nat.min_eq_left (by omega), Nat.sub_self, List.drop_eq_getElem_cons hlt, List.set_cons_zero]
      simp
    obtain ⟨cur, hcur⟩ : ∃ cur, cur = maskL (l.take i) n ++ l.drop i := ⟨_, rfl⟩
    rw [← hcur] at ho hlen hgi hset
    have hi1 : i + 1 ≤ l.length := by omega
    have cc : cellsAt h'.get h.next l.length = some (cur.map byteV) := by rw [cellsAt_of ho (by simp [hlen])]; rfl
    have hcg : cur[i]'(by omega) = l[i] := by rw [List.getElem?_eq_getElem (by omega)] at hgi; exact Option.some.inj hgi
    have sm : ∀ b : UInt8, List.take i (cur.map byteV) ++ V.int .u8 (b.toNat : Int) :: List.drop (i + 1) (cur.map byteV) = (cur.set i b).map byteV := fun b => by
      rw [List.map_set, List.set_eq_take_append_cons_drop, if_pos (by simp; omega)]; rfl
    have fin : ∀ b : UInt8, UInt8.ofNat (maskN (l[i]).toNat (n - 8 * (i : Int))) = b → ∀ t', (t' 1 = .int .i64 n ∧ t' 5 = .sl h.next l.length 0 l.length none ∧ t' 11 = .int .i64 l.length ∧ t' 12 = .int .i64 ((i + 1 : Nat) : Int)) → K t' (h'.set h.next (.grow 1 ((cur.set i b).map byteV))) := fun b hb t' ht =>
      hK _ _ hlt ⟨ht, hg.set (Nat.le_refl _) _, by simpa using hnx, by simp [hset b hb]⟩
    clear hcur
    simp [t1, t11, t12, hlt, w8, wl]
    by_cases hle : n - 8 * (i : Int) ≤ 0
    · have f := fin 0 (by rw [maskN_small hle]; rfl)
      have s0 := sm 0
      simp at s0
      simp [hle, t5, t12, hlt, ho, hlen, hi1, s0, hw]
      rw [List.map_set] at f
      refine f _ ?_
      simp [t1, t5, t11]
    · by_cases h8 : n - 8 * (i : Int) < 8
      · have w88 : IntKind.i64.wrap (8 - (n - 8 * (i : Int))) = 8 - (n - 8 * (i : Int)) := wrap_i64_id (by omega) (by omega)
        have mo := mask_op hb (left := n - 8 * (i : Int)) (by omega) h8
        have hmb := maskN_le (l[i]).toNat (n - 8 * (i : Int))
        have s1 := sm (UInt8.ofNat (maskN (l[i]).toNat (n - 8 * (i : Int))))
        rw [show ((UInt8.ofNat (maskN (l[i]).toNat (n - 8 * (i : Int)))).toNat : Int) = (maskN (l[i]).toNat (n - 8 * (i : Int)) : Nat) by simp; omega] at s1
        have f := fin _ rfl
        have y0 : (0 : Int) ≤ 8 - (n - 8 * (i : Int)) := by omega
        have sh : shiftV .shl .u8 255 (8 - (n - 8 * (i : Int))) = some (.int .u8 (IntKind.u8.wrap (255 * 2 ^ min (8 - (n - 8 * (i : Int))).toNat IntKind.u8.bits))) := by
          unfold shiftV; rw [if_neg (by omega)]
        simp [hle, h8]
        refine dreg_of ?_
        simp [t5, t12, hlt, ho, cc, hlen, hcg, byteV, w88, sh, mo, hi1, hw]
        rw [s1]
        refine f _ ?_
        simp [t1, t5, t11]
      · simp [hle, h8, t12, hw]
        have e0 : cur.set i l[i] = cur := by rw [← hcg, List.set_getElem_self]
        refine hK _ _ hlt ⟨by simp [t1, t5, t11], hg, hnx, ?_⟩
        rw [ho, ← hset l[i] (by rw [maskN_big (by omega)]; simp), e0]
  · have hi2 : i = l.length := by omega
    subst hi2
    have hle : l.take l.length = l := List.take_of_length_le (Nat.le_refl _)
    have el : elemsV h'.get 1 (.sl h.next l.length 0 l.length none) = some (l.length, (maskL l n).map byteV) := by
      rw [elemsV_sl]
      split
      · rename_i h0
        have : l = [] := List.eq_nil_of_length_eq_zero h0
        subst this; rfl
      · rw [cellsAt_of ho (by simp [maskL_len])]; simp [List.take_of_length_le, maskL_len]
    simp [t5, t11, t12, el]
    exact hg
theorem eqV_str (a b : List UInt8) : eqV .str (.str a) (.str b) = some (a == b) := by simp [eqV]
theorem pcheck_ct {h : H} {p : Pfx} : Pure Tryz.prog 25 [.agg (pfxC p)] h (.int .i64 (if mayP p = true then 0 else 2)) := by
  refine pure_to Tryz.func25 S.prim_Check_code S.prim_Check_enter rfl (Nat.le_of_ble_eq_true rfl) fun wf => ?_; simp only [S.prim_Check]
  simp only [pfxC]
  simp
  refine psize_ct _ ?_
  simp
  have sl := size_le p.fam
  have c1 : cellsAt (h.push (.row (pfxC p))).get h.next 4 = some (pfxC p) := by rw [cellsAt_of (by simp; rfl) (by simp [pfxC])]; rfl
  simp only [pfxC] at c1
  refine dreg_quiet (wf.push _) ?_
  by_cases e0 : sizeN p.fam = 0
  · simp [e0, mayP]
  have b0 : (((sizeN p.fam : Nat) : Int) == 0) = false := beq_no (by omega)
  have ef : ¬ p.fam = 0 := by intro e; apply e0; rw [e]; decide
  have bf := beq_no ef
  have eqz : eqV (TS.st [(0, 1, false, TS.int), (1, 1, false, TS.int), (2, 1, false, TS.str), (3, 1, false, TS.int)]) (.agg [.int .i64 p.fam, .int .u64 (p.rd : Nat), .str p.addr, .int .i64 p.len]) (.agg [.int .i64 0, .int .u64 0, .str [], .int .i64 0]) = some false := by
    simp [eqV, eqFs, bf]
  have ms0 : (decide (sizeN p.fam ≠ 0)) = true := by simpa using e0
  by_cases e1 : p.addr.length = sizeN p.fam
  · have b1 : ((p.addr.length : Int) != ((sizeN p.fam : Nat) : Int)) = false := by rw [e1]; simp
    by_cases e2 : p.len < 0
    · have m : mayP p = false := by
        have : ¬ 0 ≤ p.len := by omega
        simp [mayP, this]
      simp [b0, c1, eqz, b1, e2, m]
    · have e2' : 0 ≤ p.len := by omega
      have w8 : IntKind.i64.wrap (8 * ((sizeN p.fam : Nat) : Int)) = 8 * ((sizeN p.fam : Nat) : Int) := wrap_i64_id (by omega) (by omega)
      by_cases e3 : 8 * ((sizeN p.fam : Nat) : Int) < p.len
      · have m : mayP p = false := by
          have : ¬ p.len ≤ 8 * ((sizeN p.fam : Nat) : Int) := by omega
          simp [mayP, this]
        simp [b0, c1, eqz, b1, e2, w8, e3, m]
      · have e3' : p.len ≤ 8 * ((sizeN p.fam : Nat) : Int) := by omega
        have fin : ∀ (hrd : (decide (p.rd = 0) || apartF p.fam) = true), mayP p = decide (maskL p.addr p.len = p.addr) := fun hrd => by
          simp only [mayP, ms0, e1, e2', e3', hrd, decide_true, Bool.true_and]
        have last : ∀ hrd : (decide (p.rd = 0) || apartF p.fam) = true, (if mayP p = true then (0 : Int) else 2) = if (maskL p.addr p.len != p.addr) = true then 2 else 0 := fun hrd => by
          rw [fin hrd]
          by_cases hm : maskL p.addr p.len = p.addr
          · simp [hm]
          · have : (maskL p.addr p.len != p.addr) = true := by simpa using hm
            rw [this]; simp [hm]
        have mk : ∀ h2, Ge (h.push (.row [.int .i64 p.fam, .int .u64 (p.rd : Nat), .str p.addr, .int .i64 p.len])) h2 → Pure Tryz.prog 53 [.str p.addr, .int .i64 p.len] h2 (.str (maskL p.addr p.len)) := fun h2 _ => masked_ct (by omega) (by omega)
        by_cases e4 : p.rd = 0
        · have b4 : (((p.rd : Nat) : Int) != 0) = false := by rw [e4]; rfl
          rw [last (by simp [e4])]
          simp [b0, c1, eqz, b1, e2, w8, e3, b4]
          refine qcall_of (v := .str (maskL p.addr p.len)) rfl mk ?_
          simp [c1]
          by_cases hq : maskL p.addr p.len = p.addr
          · have hb : (maskL p.addr p.len == p.addr) = true := by simpa using hq
            simp [hq]
          · have hb : (maskL p.addr p.len == p.addr) = false := by simpa using hq
            simp [hb, hq]
        · have b4 : (((p.rd : Nat) : Int) != 0) = true := by
            have : ¬ ((p.rd : Nat) : Int) = 0 := by omega
            simpa using this
          simp [b0, c1, eqz, b1, e2, w8, e3, b4]
          refine qcall_of (v := .bool (apartF p.fam)) rfl (fun h2 _ => papart_ct) ?_
          cases ha : apartF p.fam with
          | false =>
            have m : mayP p = false := by simp [mayP, e4, ha]
            simp [m]
          | true =>
            rw [last (by simp [ha])]
            simp
            refine qcall_of (v := .str (maskL p.addr p.len)) rfl mk ?_
            simp [c1]
            by_cases hq : maskL p.addr p.len = p.addr
            · have hb : (maskL p.addr p.len == p.addr) = true := by simpa using hq
              simp [hq]
            · have hb : (maskL p.addr p.len == p.addr) = false := by simpa using hq
              simp [hb, hq]
  · have b1 : ((p.addr.length : Int) != ((sizeN p.fam : Nat) : Int)) = true := by
      have : ¬ (p.addr.length : Int) = ((sizeN p.fam : Nat) : Int) := by omega
      simpa using this
    have m : mayP p = false := by simp [mayP, e1]
    simp [b0, c1, eqz, b1, m]
theorem ncheck_ct {h : H} {n : Nl} : Pure Tryz.prog 8 [.agg (nlC n)] h (.int .i64 (if mayN n = true then 0 else 2)) := by
  refine pure_to Tryz.func8 S.nlri_Check_code S.nlri_Check_enter rfl (Nat.le_of_ble_eq_true rfl) fun wf => ?_; simp only [S.nlri_Check]
  simp only [nlC]
  simp
  have c1 : cellsAt (h.push (.row (nlC n))).get h.next 6 = some (nlC n) := by rw [cellsAt_of (by simp; rfl) (by simp [nlC])]; rfl
  simp only [nlC] at c1
  refine pcheck_ct (p := n.p) _ ?_
  cases hp : mayP n.p with
  | false =>
    have m : mayN n = false := by simp [mayN, hp]
    simp [m]
  | true =>
    by_cases e1 : (1048575 : Int) < (n.label : Nat)
    · have m : mayN n = false := by
        have : ¬ n.label ≤ 1048575 := by omega
        simp [mayN, this]
      simp [c1, e1, m]
    · have e1' : n.label ≤ 1048575 := by omega
      by_cases e2 : (0 : Int) < (n.label : Nat)
      · have e2' : ¬ n.label = 0 := by omega
        have e2n : 0 < n.label := by omega
        simp [c1, e1, e2n]
        refine nlabel_ct _ ?_
        cases hl : labelF n.p.fam <;> simp [mayN, hp, hl, e1', e2']
      · have e2' : n.label = 0 := by omega
        have m : mayN n = true := by simp [mayN, hp, e2']
        have e2n : ¬ 0 < n.label := by omega
        simp [c1, e1, e2n, m]
theorem size_ct {h : H} {n : Nl} {add : Bool} : Pure Tryz.prog 6 [.agg (nlC n), .bool add] h (.tup [.int .i64 (if mayN n = true then ((enc1 add n).length : Nat) else 0), .int .i64 (if mayN n = true then 0 else 2)]) := by
  refine pure_to Tryz.func6 S.nlri_Size_code S.nlri_Size_enter rfl (Nat.le_of_ble_eq_true rfl) fun wf => ?_; simp only [S.nlri_Size]
  simp only [nlC]
  simp
  have c1 : cellsAt (h.push (.row (nlC n))).get h.next 6 = some (nlC n) := by rw [cellsAt_of (by simp; rfl) (by simp [nlC])]; rfl
  simp only [nlC] at c1
  refine ncheck_ct (n := n) _ ?_
  cases hm : mayN n with
  | false => simp
  | true =>
    have hp : mayP n.p = true := by simp only [mayN, Bool.and_eq_true] at hm; exact hm.1.1
    simp only [mayP, Bool.and_eq_true, Bool.or_eq_true, decide_eq_true_eq] at hp
    obtain ⟨⟨⟨⟨⟨h0, h1⟩, h2⟩, h3⟩, h4⟩, h5⟩ := hp
    have sl := size_le n.p.fam
    have al := ahead_le n.p.fam
    obtain ⟨ln, hln⟩ : ∃ ln : Nat, ln = n.p.len.toNat := ⟨_, rfl⟩
    have el : n.p.len = (ln : Nat) := by omega
    have el1 := enc1_len (fam := n.p.fam) (add := add) (n := n) rfl (by unfold wholeN; omega)
    rw [← hln] at el1
    have wa : wholeN (aheadN n.p.fam) = (if labelF n.p.fam = true then 3 else 0) + (if apartF n.p.fam = true then 8 else 0) := by
      unfold aheadN; cases labelF n.p.fam <;> cases apartF n.p.fam <;> rfl
    have w1 : IntKind.i64.wrap (1 + (wholeN (aheadN n.p.fam) : Nat)) = 1 + (wholeN (aheadN n.p.fam) : Nat) := wrap_i64_id (by unfold wholeN; omega) (by unfold wholeN; omega)
    have w2 : IntKind.i64.wrap (1 + (wholeN (aheadN n.p.fam) : Nat) + (wholeN ln : Nat)) = 1 + (wholeN (aheadN n.p.fam) : Nat) + (wholeN ln : Nat) := wrap_i64_id (by unfold wholeN; omega) (by unfold wholeN; omega)
    have w3 : IntKind.i64.wrap (1 + (wholeN (aheadN n.p.fam) : Nat) + (wholeN ln : Nat) + 4) = 1 + (wholeN (aheadN n.p.fam) : Nat) + (wholeN ln : Nat) + 4 := wrap_i64_id (by unfold wholeN; omega) (by unfold wholeN; omega)
    simp
    refine dreg_quiet (wf.push _) ?_
    simp [c1]
    refine qcall_of (v := .int .i64 (aheadN n.p.fam : Nat)) rfl (fun h2 _ => ahead_ct) ?_
    simp
    refine qcall_of (v := .int .i64 (wholeN (aheadN n.p.fam) : Nat)) rfl (fun h2 _ => whole_ct (by omega)) ?_
    simp [w1, el]
    refine qcall_of (v := .int .i64 (wholeN ln : Nat)) rfl (fun h2 _ => whole_ct (by omega)) ?_
    simp [w2]
    cases add with
    | true =>
      simp [w3]
      rw [el1, wa]
      simp
      omega
    | false =>
      simp
      rw [el1, wa]
      simp
      omega
end Go.Am
