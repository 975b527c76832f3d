/-
  N0, WN, N1, N2, N3, C0, C1, C1b, C2, CR0, CR1, CR3, RP1, in one text.
-/
import Derived.Test.YtjahfjcfjnnnjaaGreatDoorVAm30
import Derived.Test.YtjahfjcfjnnnjaaGreatDoorVSkP
import Derived.Test.YtjahfjcfjnnnjaaGreatDoorVAm31
import Derived.Test.YtjahfjcfjnnnjaaGreatDoorVAm35
import Derived.Test.YtjahfjcfjnnnjaaGreatDoorVAm37
import Derived.KernelRfl
import Derived.Lib.Bytealg
namespace Go.Am

theorem Acalls.turn {P : Program} {f : FuncId} {args : List V} {h : H} {i : Nat} {o' : O} {Q : V → H → Prop} (hi : ∃ o, h.get i = some o) (ho : o'.ids = [])
    (c : h.WF → Acalls P f args h fun v h1 => Ge (h.set i o') h1 ∧ v.ids = [] ∧ Q v (h.set i o')) (he : enterable P f = true) : Acalls P f args h Q := by
  refine Acalls.cl he fun wf cl => Acalls.rename ((c wf).mono ?_)
  rintro v h1 ⟨hg, hv, hq⟩
  obtain ⟨oi, hoi⟩ := hi
  have hlt := wf.lt hoi
  have w2 : (h.set i o').WF := wf.set hlt _
  have liv : ∀ k, (∃ o, h.get k = some o) → ∃ o, (h.set i o').get k = some o := fun k ⟨o, hk⟩ => by
    rw [H.get_set]; split
    · exact ⟨_, rfl⟩
    · exact ⟨o, hk⟩
  refine ⟨id, v, h.set i o', (V.ren_id (σ := id) v (fun _ _ => rfl)).symm, ⟨fun k o hk => by rw [show o.ren id = o from O.ren_id (σ := id) o (fun _ _ => rfl)]; exact hg.keeps w2 k o hk, fun _ _ _ _ _ _ e => e, fun k o hk j hj => ?_, w2⟩, fun k hk => (by rw [hv] at hk; cases hk), fun k o hk => ⟨rfl, liv k ⟨o, hk⟩⟩, hq⟩
  rw [H.get_set] at hk
  split at hk
  · cases hk
    rw [ho] at hj; cases hj
  · exact liv j (cl k o hk j hj)

theorem H.push_set (h : H) (o o' : O) : (h.push o).set h.next o' = h.push o' := H.ext' rfl fun j => by
  rw [H.get_set, H.get_push, H.get_push]; split <;> simp_all
def val (l : List UInt8) : Nat := l.foldl (fun a b => a * 256 + b.toNat) 0
theorem u64_id {n : Nat} (h : n < 18446744073709551616) : IntKind.u64.wrap (n : Int) = n := by simp [IntKind.wrap, IntKind.bits, IntKind.signed]; omega
def be : Nat → Nat → List UInt8
  | 0, _ => []
  | n + 1, v => UInt8.ofNat (v / 256 ^ n) :: be n v
theorem be_len : ∀ n v, (be n v).length = n
  | 0, _ => rfl
  | n + 1, v => by rw [be, List.length_cons, be_len n v]

end Go.Am

namespace Go.Am
open Go.Proofs

set_option maxRecDepth 100000
def len8 : List UInt8 := [0, 1, 2, 2, 3, 3, 3, 3, 4, 4, 4, 4, 4, 4, 4, 4, 5, 5, 5, 5, 5, 5, 5, 5, 5, 5, 5, 5, 5, 5, 5, 5, 6, 6, 6, 6, 6, 6, 6, 6, 6, 6, 6, 6, 6, 6, 6, 6, 6, 6, 6, 6, 6, 6, 6, 6, 6, 6, 6, 6, 6, 6, 6, 6, 7, 7, 7, 7, 7, 7, 7, 7, 7, 7, 7, 7, 7, 7, 7, 7, 7, 7, 7, 7, 7, 7, 7, 7, 7, 7, 7, 7, 7, 7, 7, 7, 7, 7, 7, 7, 7, 7, 7, 7, 7, 7, 7, 7, 7, 7, 7, 7, 7, 7, 7, 7, 7, 7, 7, 7, 7, 7, 7, 7, 7, 7, 7, 7, 8, 8, 8, 8, 8, 8, 8, 8, 8, 8, 8, 8, 8, 8, 8, 8, 8, 8, 8, 8, 8, 8, 8, 8, 8, 8, 8, 8, 8, 8, 8, 8, 8, 8, 8, 8, 8, 8, 8, 8, 8, 8, 8, 8, 8, 8, 8, 8, 8, 8, 8, 8, 8, 8, 8, 8, 8, 8, 8, 8, 8, 8, 8, 8, 8, 8, 8, 8, 8, 8, 8, 8, 8, 8, 8, 8, 8, 8, 8, 8, 8, 8, 8, 8, 8, 8, 8, 8, 8, 8, 8, 8, 8, 8, 8, 8, 8, 8, 8, 8, 8, 8, 8, 8, 8, 8, 8, 8, 8, 8, 8, 8, 8, 8, 8, 8, 8, 8, 8, 8, 8, 8, 8, 8, 8, 8, 8, 8]
theorem len8_ok : len8.length = 256 ∧ ∀ x : Nat, x < 256 → (len8.getD x 0).toNat ≤ 8 ∧ ∀ k : Nat, k < 9 → (k < (len8.getD x 0).toNat ↔ 2 ^ k ≤ x) := by decide +kernel
theorem shr_n (v k : Nat) (hk : k ≤ 64) : ((v : Int).fdiv (2 ^ min k IntKind.u64.bits)) = ((v / 2 ^ k : Nat) : Int) := by
  rw [show IntKind.u64.bits = 64 from rfl, Nat.min_eq_left hk, show (2 : Int) ^ k = ((2 ^ k : Nat) : Int) by simp, Int.fdiv_eq_ediv_of_nonneg _ (Int.natCast_nonneg _), ← Int.natCast_ediv]
theorem len_step {v m n : Nat} (h : 2 ^ m ≤ v) (hn : ∀ k, k < n ↔ 2 ^ k ≤ v / 2 ^ m) : ∀ k, k < n + m ↔ 2 ^ k ≤ v := by
  intro k
  rcases Nat.lt_or_ge k m with c | c
  · exact ⟨fun _ => Nat.le_trans (Nat.pow_le_pow_right (by omega) (by omega)) h, fun _ => by omega⟩
  · obtain ⟨j, rfl⟩ := Nat.exists_eq_add_of_le c
    have := hn j
    rw [Nat.le_div_iff_mul_le (Nat.pos_of_ne_zero (by simp)), Nat.mul_comm, ← Nat.pow_add] at this
    rw [← this]; omega
set_option maxRecDepth 100000 in
theorem len64_ct {v : Nat} (hv : v < 18446744073709551616) : ∃ n : Nat, n ≤ 64 ∧ (∀ k, k ≤ 64 → (k < n ↔ 2 ^ k ≤ v)) ∧ ∀ h : H, Pure Tryz.prog 96 [.int .u64 v] h (.int .i64 n) := by
  obtain ⟨a1, ha1⟩ : ∃ a, a = if 4294967296 ≤ v then 32 else 0 := ⟨_, rfl⟩
  obtain ⟨v1, hv1⟩ : ∃ a, a = if 4294967296 ≤ v then v / 4294967296 else v := ⟨_, rfl⟩
  obtain ⟨a2, ha2⟩ : ∃ a, a = if 65536 ≤ v1 then a1 + 16 else a1 := ⟨_, rfl⟩
  obtain ⟨v2, hv2⟩ : ∃ a, a = if 65536 ≤ v1 then v1 / 65536 else v1 := ⟨_, rfl⟩
  obtain ⟨a3, ha3⟩ : ∃ a, a = if 256 ≤ v2 then a2 + 8 else a2 := ⟨_, rfl⟩
  obtain ⟨v3, hv3⟩ : ∃ a, a = if 256 ≤ v2 then v2 / 256 else v2 := ⟨_, rfl⟩
  have b1 : v1 < 4294967296 := by rw [hv1]; split <;> omega
  have b2 : v2 < 65536 := by rw [hv2]; split <;> omega
  have b3 : v3 < 256 := by rw [hv3]; split <;> omega
  obtain ⟨T, hT⟩ : ∃ T, T = len8 := ⟨_, rfl⟩
  obtain ⟨tl, tx⟩ := len8_ok
  rw [← hT] at tl tx
  obtain ⟨c, hc⟩ : ∃ c, T[v3]? = some c := ⟨_, List.getElem?_eq_getElem (by omega)⟩
  have tc := tx v3 b3
  rw [List.getD_eq_getElem?_getD, hc, Option.getD_some] at tc
  refine ⟨a3 + c.toNat, ?_, ?_, fun h => ?_⟩
  · have : a3 ≤ 56 := by rw [ha3, ha2, ha1]; split <;> split <;> split <;> omega
    omega
  · have n3 : ∀ k, k < c.toNat ↔ 2 ^ k ≤ v3 := fun k => by
      rcases Nat.lt_or_ge k 9 with hk | hk
      · exact tc.2 k hk
      · have : 2 ^ 9 ≤ 2 ^ k := Nat.pow_le_pow_right (by omega) hk
        omega
    have n2 : ∃ n, a3 + c.toNat = a2 + n ∧ ∀ k, k < n ↔ 2 ^ k ≤ v2 := by
      by_cases g : 256 ≤ v2
      · rw [if_pos g] at ha3 hv3
        exact ⟨c.toNat + 8, by omega, len_step g (by rw [show 2 ^ 8 = 256 from rfl, ← hv3]; exact n3)⟩
      · rw [if_neg g] at ha3 hv3
        exact ⟨c.toNat, by omega, by rw [← hv3]; exact n3⟩
    obtain ⟨q2, e2, n2⟩ := n2
    have n1 : ∃ n, a3 + c.toNat = a1 + n ∧ ∀ k, k < n ↔ 2 ^ k ≤ v1 := by
      by_cases g : 65536 ≤ v1
      · rw [if_pos g] at ha2 hv2
        exact ⟨q2 + 16, by omega, len_step g (by rw [show 2 ^ 16 = 65536 from rfl, ← hv2]; exact n2)⟩
      · rw [if_neg g] at ha2 hv2
        exact ⟨q2, by omega, by rw [← hv2]; exact n2⟩
    obtain ⟨q1, e1, n1⟩ := n1
    intro k _
    by_cases g : 4294967296 ≤ v
    · rw [if_pos g] at ha1 hv1
      have := len_step g (by rw [show 2 ^ 32 = 4294967296 from rfl, ← hv1]; exact n1) k
      rw [← this]; omega
    · rw [if_neg g] at ha1 hv1
      have := n1 k
      rw [hv1] at this
      rw [← this]; omega
  · refine pure_to Tryz.func96 S.math_bits_Len64_code S.math_bits_Len64_enter rfl (Nat.le_of_ble_eq_true rfl) fun wf => ?_; simp only [S.math_bits_Len64]
    rw [show ([0, 1, 2, 2, 3, 3, 3, 3, 4, 4, 4, 4, 4, 4, 4, 4, 5, 5, 5, 5, 5, 5, 5, 5, 5, 5, 5, 5, 5, 5, 5, 5, 6, 6, 6, 6, 6, 6, 6, 6, 6, 6, 6, 6, 6, 6, 6, 6, 6, 6, 6, 6, 6, 6, 6, 6, 6, 6, 6, 6, 6, 6, 6, 6, 7, 7, 7, 7, 7, 7, 7, 7, 7, 7, 7, 7, 7, 7, 7, 7, 7, 7, 7, 7, 7, 7, 7, 7, 7, 7, 7, 7, 7, 7, 7, 7, 7, 7, 7, 7, 7, 7, 7, 7, 7, 7, 7, 7, 7, 7, 7, 7, 7, 7, 7, 7, 7, 7, 7, 7, 7, 7, 7, 7, 7, 7, 7, 7, 8, 8, 8, 8, 8, 8, 8, 8, 8, 8, 8, 8, 8, 8, 8, 8, 8, 8, 8, 8, 8, 8, 8, 8, 8, 8, 8, 8, 8, 8, 8, 8, 8, 8, 8, 8, 8, 8, 8, 8, 8, 8, 8, 8, 8, 8, 8, 8, 8, 8, 8, 8, 8, 8, 8, 8, 8, 8, 8, 8, 8, 8, 8, 8, 8, 8, 8, 8, 8, 8, 8, 8, 8, 8, 8, 8, 8, 8, 8, 8, 8, 8, 8, 8, 8, 8, 8, 8, 8, 8, 8, 8, 8, 8, 8, 8, 8, 8, 8, 8, 8, 8, 8, 8, 8, 8, 8, 8, 8, 8, 8, 8, 8, 8, 8, 8, 8, 8, 8, 8, 8, 8, 8, 8, 8, 8, 8, 8] : List UInt8) = T from hT.symm]
    have s1 := shr_n v 32 (by omega)
    have s2 := shr_n v1 16 (by omega)
    have s3 := shr_n v2 8 (by omega)
    have w3 : IntKind.u8.wrap (v3 : Int) = v3 := by simp [IntKind.wrap, IntKind.bits, IntKind.signed]; omega
    have w4 : IntKind.i64.wrap (c.toNat : Int) = c.toNat := wrap_nat (by omega)
    have wa : ∀ x : Nat, x < 1000 → IntKind.i64.wrap (x : Int) = x := fun x hx => wrap_nat (by omega)
    have wb : ∀ x y : Nat, x < 1000 → y < 1000 → IntKind.i64.wrap ((x : Int) + (y : Int)) = ((x + y : Nat) : Int) := fun x y hx hy => by rw [← Int.natCast_add]; exact wrap_nat (by omega)
    have zz1 : ∀ n : Nat, ((4294967296 : Int) ≤ n) = (4294967296 ≤ n) := fun n => propext (by omega)
    have zz2 : ∀ n : Nat, ((65536 : Int) ≤ n) = (65536 ≤ n) := fun n => propext (by omega)
    have zz3 : ∀ n : Nat, ((256 : Int) ≤ n) = (256 ≤ n) := fun n => propext (by omega)
    have lo : ∀ n : Nat, (0 : Int) ≤ n := fun n => by omega
    by_cases g1 : 4294967296 ≤ v <;> by_cases g2 : 65536 ≤ v1 <;> by_cases g3 : 256 ≤ v2 <;>
    (first | (rw [if_pos g1] at ha1 hv1; rw [show (v / 2 ^ 32) = v1 from hv1.symm] at s1) | (rw [if_neg g1] at ha1 hv1; replace s1 := hv1.symm; rw [s1] at g1)) <;>
    (first | (rw [if_pos g2] at ha2 hv2; rw [show (v1 / 2 ^ 16) = v2 from hv2.symm] at s2) | (rw [if_neg g2] at ha2 hv2; replace s2 := hv2.symm; rw [s2] at g2)) <;>
    (first | (rw [if_pos g3] at ha3 hv3; rw [show (v2 / 2 ^ 8) = v3 from hv3.symm] at s3) | (rw [if_neg g3] at ha3 hv3; replace s3 := hv3.symm; rw [s3] at g3)) <;>
    (try rw [s2] at g1) <;> (try rw [s3] at g1) <;> (try rw [s3] at g2) <;>
    (clear hT tx; simp [zz1, zz2, zz3, g1, g2, g3, s1, s2, s3, w3, w4, hc, lo]) <;>
    (subst ha1; subst ha2; subst ha3; have t1 := tc.1; simp [IntKind.wrap, IntKind.bits, IntKind.signed] <;> omega)
theorem byte_of (v k : Nat) (hk : k ≤ 7) : IntKind.u8.wrap ((v : Int).fdiv (2 ^ min (8 * (k : Int)).toNat IntKind.u64.bits)) = ((UInt8.ofNat (v / 256 ^ k)).toNat : Int) := by
  have e1 : min (8 * (k : Int)).toNat IntKind.u64.bits = 8 * k := by simp [IntKind.bits]; omega
  rw [e1, show (2 : Int) ^ (8 * k) = ((256 ^ k : Nat) : Int) by rw [Int.pow_mul]; simp]
  rw [Int.fdiv_eq_ediv_of_nonneg _ (Int.natCast_nonneg _), ← Int.natCast_ediv]
  simp only [IntKind.wrap, IntKind.bits, IntKind.signed, Bool.false_and, Bool.false_eq_true, if_false, UInt8.toNat_ofNat']
  omega
theorem mapM_u8 : ∀ l : List UInt8, (l.map byteV).mapM u8Of = some l
  | [] => rfl
  | b :: l => by
    rw [List.map_cons, List.mapM_cons, mapM_u8 l]
    simp [u8Of, byteV]
@[simp] theorem mapM_u8' (l : List UInt8) : l.mapM (u8Of ∘ byteV) = some l := by
  have := mapM_u8 l
  rwa [List.mapM_map] at this
theorem put_ct {h : H} {b : List UInt8} {v size : Nat} (hs : 1 ≤ size) (hs2 : size ≤ 8) (hv : v < 256 ^ size) (hb : b.length ≤ 1000000) : Pure Tryz.prog 142 [.str b, .int .u64 v, .int .i64 size] h (.tup [.str (b ++ be size v), .int .i64 0]) := by
  have hpow : 256 ^ size ≤ 256 ^ 8 := Nat.pow_le_pow_right (by omega) hs2
  have hv64 : v < 18446744073709551616 := Nat.lt_of_lt_of_le hv (Nat.le_trans hpow (by decide))
  obtain ⟨n, hn, hk, hlen⟩ := len64_ct hv64
  refine pure_to Tryz.func142 S.wire_Put_code S.wire_Put_enter rfl (Nat.le_of_ble_eq_true rfl) fun wf => ?_; simp only [S.wire_Put]
  have z1 : ¬ ((size : Int) < 1) := by omega
  have z2 : ¬ ((8 : Int) < size) := by omega
  have z3 : n ≤ 8 * size := by
    rcases Nat.lt_or_ge (8 * size) n with c | c
    · have := (hk (8 * size) (by omega)).1 c
      rw [Nat.pow_mul, show (2 ^ 8 : Nat) = 256 from rfl] at this
      omega
    · exact c
  have z4 : IntKind.i64.wrap (8 * (size : Int)) = 8 * size := wrap_i64_id (by omega) (by omega)
  have z5 : ¬ (8 * (size : Int) < n) := by omega
  have z6 : IntKind.i64.wrap ((size : Int) - 1) = size - 1 := wrap_i64_id (by omega) (by omega)
  simp [z1, z2]
  refine hlen h _ ?_
  have hbl : b.length ≤ 9223372036854775807 := by omega
  simp [z4, z5, exec, z6, hbl]
  refine loop_up (fun i t h' => ∃ acc : List UInt8, (t 1 = .int .u64 v ∧ t 8 = .sl h.next acc.length 0 acc.length none ∧ t 9 = .int .i64 ((size : Int) - 1 - i)) ∧ Ge h h' ∧ h.next < h'.next ∧ h'.get h.next = some (.grow 1 (acc.map byteV)) ∧ acc.length = b.length + i ∧ acc ++ be (size - i) v = b ++ be size v) size ⟨b, by simp⟩ ?_
  rintro i t h' hi ⟨acc, ⟨h1, h8, h9⟩, hg, hnx, ho, hal, hacc⟩ K hK
  by_cases hlt : i < size
  · have y1 : (0 : Int) ≤ (size : Int) - 1 - i := by omega
    have y2 : IntKind.i64.wrap (8 * ((size : Int) - 1 - i)) = 8 * ((size : Int) - 1 - i) := wrap_i64_id (by omega) (by omega)
    have y3 : IntKind.i64.wrap ((size : Int) - 1 - i - 1) = (size : Int) - 1 - (i + 1) := by rw [wrap_i64_id (by omega) (by omega)]; omega
    have y4 : (0 : Int) ≤ 8 * ((size : Int) - 1 - i) := by omega
    have y5 : (i : Int) ≤ (size : Int) - 1 := by omega
    have y6 : (size : Int) - 1 - i = ((size - 1 - i : Nat) : Int) := by omega
    have y7 := byte_of v (size - 1 - i) (by omega)
    obtain ⟨B, hB⟩ : ∃ B, B = UInt8.ofNat (v / 256 ^ (size - 1 - i)) := ⟨_, rfl⟩
    rw [← y6, ← hB] at y7
    have y8 : ¬ h.next = h'.next := by omega
    have ap := fun c hc => appendV_grow (g := (h'.push (.row [V.int .u8 (B.toNat : Int)])).get) (next := h'.next + 1) (sz := 1) (bytes := 1) (q := h.next) (n := acc.length) (len := acc.length) (m := 1) (cs := acc.map byteV) (xs := [V.int .u8 (B.toNat : Int)]) (x := c) (by simp [y8, ho]) (by simp) (by simp) hc (by simp) (by simp) (by simp) (by omega) (by omega)
    simp [h1, h8, h9, y2, y4, y5, y7]
    rw [ap _ (by simp [elemsV_sl])]
    simp [h9, y3]
    refine hK _ _ hlt ⟨acc ++ [B], ?_, ?_, ?_, ?_, ?_, ?_⟩
    · simp [h1]
    · exact (hg.push _).set (Nat.le_refl _) _
    · simp; omega
    · simp [byteV]
    · simp; omega
    · rw [← hacc, show size - i = (size - 1 - i) + 1 by omega, be, ← hB, show size - (i + 1) = size - 1 - i by omega]; simp
  · have hi2 : i = size := by omega
    subst hi2
    have y1 : ¬ (i : Int) ≤ (i : Int) - 1 := by omega
    have el : elemsV h'.get 1 (.sl h.next acc.length 0 acc.length none) = some (acc.length, acc.map byteV) := by
      rw [elemsV_sl]
      split
      · rename_i h0; have : acc = [] := List.eq_nil_of_length_eq_zero h0
        subst this; rfl
      · rw [cellsAt_of ho (by simp)]; simp [List.take_of_length_le]
    simp [h8, h9, y1, el]
    refine ⟨?_, hg⟩
    simpa [be] using hacc

end Go.Am

namespace Go.Am

set_option maxRecDepth 100000
structure Pfx where
  fam : Int
  rd : Nat
  addr : List UInt8
  len : Int
  deriving DecidableEq
def pfxC (p : Pfx) : List V := [.int .i64 p.fam, .int .u64 (p.rd : Nat), .str p.addr, .int .i64 p.len]
structure Nl where
  p : Pfx
  id : Nat
  label : Nat
  deriving DecidableEq
def nlC (n : Nl) : List V := [.int .i64 n.p.fam, .int .u64 (n.p.rd : Nat), .str n.p.addr, .int .i64 n.p.len, .int .u32 (n.id : Nat), .int .u32 (n.label : Nat)]
def sizeN (fam : Int) : Nat := if fam = 1 ∨ fam = 3 ∨ fam = 4 then 4 else if fam = 2 ∨ fam = 5 then 16 else 0
def apartF (fam : Int) : Bool := fam == 4 || fam == 5
def labelF (fam : Int) : Bool := decide (3 ≤ fam) && decide (fam ≤ 5)
def maskN (b : Nat) (left : Int) : Nat := if left ≤ 0 then 0 else if left < 8 then b / 2 ^ (8 - left.toNat) * 2 ^ (8 - left.toNat) else b
theorem maskN_le (b : Nat) (left : Int) : maskN b left ≤ b := by
  unfold maskN
  split
  · omega
  · split
    · exact Nat.div_mul_le_self _ _
    · omega
def maskL : List UInt8 → Int → List UInt8
  | [], _ => []
  | b :: l, n => UInt8.ofNat (maskN b.toNat n) :: maskL l (n - 8)
theorem maskL_len : ∀ (l : List UInt8) (n : Int), (maskL l n).length = l.length
  | [], _ => rfl
  | b :: l, n => by simp [maskL, maskL_len l]
theorem maskL_get : ∀ (l : List UInt8) (n : Int) (i : Nat) (h : i < l.length), (maskL l n)[i]'(by rw [maskL_len]; exact h) = UInt8.ofNat (maskN (l[i]).toNat (n - 8 * (i : Int)))
  | [], _, i, h => by simp at h
  | b :: l, n, 0, h => by simp [maskL]
  | b :: l, n, i + 1, h => by
    simp only [maskL, List.getElem_cons_succ]
    rw [maskL_get l (n - 8) i (by simpa using h)]
    congr 2
    omega
theorem maskN_big {b : Nat} {n : Int} (h : 8 ≤ n) : maskN b n = b := by unfold maskN; rw [if_neg (by omega), if_neg (by omega)]
theorem maskN_small {b : Nat} {n : Int} (h : n ≤ 0) : maskN b n = 0 := by unfold maskN; rw [if_pos h]
def mayP (p : Pfx) : Bool := decide (sizeN p.fam ≠ 0) && decide (p.addr.length = sizeN p.fam) && decide (0 ≤ p.len) && decide (p.len ≤ 8 * (sizeN p.fam : Int)) && (decide (p.rd = 0) || apartF p.fam) && decide (maskL p.addr p.len = p.addr)
def mayN (n : Nl) : Bool := mayP n.p && decide (n.label ≤ 1048575) && (decide (n.label = 0) || labelF n.p.fam)
end Go.Am

namespace Go.Am

set_option maxRecDepth 100000
def tk (k : Nat) (s : List UInt8) : Option (List UInt8 × List UInt8) := if k ≤ s.length then some (s.take k, s.drop k) else none
structure NlOk (fam : Int) (add : Bool) (n : Nl) : Prop where
  may : mayN n = true
  fam : n.p.fam = fam
  id0 : add = false → n.id = 0
  idb : n.id < 4294967296
  rdb : n.p.rd < 18446744073709551616
theorem NlOk.parts {fam : Int} {add : Bool} {n : Nl} (h : NlOk fam add n) : sizeN fam ≠ 0 ∧ n.p.addr.length = sizeN fam ∧ 0 ≤ n.p.len ∧ n.p.len ≤ 8 * (sizeN fam : Int) ∧ (n.p.rd = 0 ∨ apartF fam = true) ∧ maskL n.p.addr n.p.len = n.p.addr ∧ n.label ≤ 1048575 ∧ (n.label = 0 ∨ labelF fam = true) := by
  have := h.may
  simp only [mayN, mayP, Bool.and_eq_true, Bool.or_eq_true, decide_eq_true_eq, h.fam] at this
  obtain ⟨⟨⟨⟨⟨⟨⟨a, b⟩, c⟩, d⟩, e⟩, f⟩, g⟩, i⟩ := this
  exact ⟨a, b, c, d, e, f, g, i⟩
theorem size_le (fam : Int) : sizeN fam ≤ 16 := by unfold sizeN; split <;> (try split) <;> omega
end Go.Am

namespace Go.Am
open Go.Proofs

set_option maxRecDepth 100000
theorem beq_no {a b : Int} (h : ¬ a = b) : (a == b) = false := by rw [beq_eq_false_iff_ne]; exact h
theorem psize_ct {h : H} {fam : Int} : Pure Tryz.prog 107 [.int .i64 fam] h (.int .i64 (sizeN fam : Nat)) := by
  refine pure_to Tryz.func107 S.prim_Size_code S.prim_Size_enter rfl (Nat.le_of_ble_eq_true rfl) fun wf => ?_; simp only [S.prim_Size]
  by_cases e1 : fam = 1
  · subst e1; simp [sizeN]
  by_cases e3 : fam = 3
  · subst e3; simp [sizeN]
  by_cases e4 : fam = 4
  · subst e4; simp [sizeN]
  by_cases e2 : fam = 2
  · subst e2; simp [sizeN]
  by_cases e5 : fam = 5
  · subst e5; simp [sizeN]
  simp [sizeN, beq_no e1, beq_no e3, beq_no e4, beq_no e2, beq_no e5, e1, e2, e3, e4, e5]
theorem papart_ct {h : H} {fam : Int} : Pure Tryz.prog 63 [.int .i64 fam] h (.bool (apartF fam)) := by
  refine pure_to Tryz.func63 S.prim_apart_code S.prim_apart_enter rfl (Nat.le_of_ble_eq_true rfl) fun wf => ?_; simp only [S.prim_apart]
  simp
  unfold apartF
  cases fam == 4 <;> simp
theorem nlabel_ct {h : H} {fam : Int} : Pure Tryz.prog 143 [.int .i64 fam] h (.bool (labelF fam)) := by
  refine pure_to Tryz.func143 S.nlri_labelled_code S.nlri_labelled_enter rfl (Nat.le_of_ble_eq_true rfl) fun wf => ?_; simp only [S.nlri_labelled]
  simp
  unfold labelF
  by_cases e : 3 ≤ fam <;> simp [e]
theorem maskL_snoc {l : List UInt8} {n : Int} {i : Nat} (h : i < l.length) : maskL (l.take (i + 1)) n = maskL (l.take i) n ++ [UInt8.ofNat (maskN (l[i]).toNat (n - 8 * (i : Int)))] := by
  refine List.ext_getElem (by simp [maskL_len]; omega) fun k h1 h2 => ?_
  rw [maskL_len, List.length_take] at h1
  rw [maskL_get _ _ _ (by rw [List.length_take]; exact h1), List.getElem_take]
  by_cases hk : k < i
  · rw [List.getElem_append_left (by rw [maskL_len, List.length_take]; omega), maskL_get _ _ _ (by rw [List.length_take]; omega), List.getElem_take]
  · have e : k = i := by omega
    subst e
    rw [List.getElem_append_right (by rw [maskL_len, List.length_take]; omega)]
    simp
theorem mask_and : ∀ b : Nat, b < 256 → ∀ k : Nat, k < 8 → (BitVec.ofInt 8 (b : Int) &&& BitVec.ofInt 8 (IntKind.u8.wrap (255 * 2 ^ k))).toNat = b / 2 ^ k * 2 ^ k := by decide +kernel
theorem u8_idN {n : Nat} (h : n < 256) : IntKind.u8.wrap (n : Int) = (n : Int) := by simp [IntKind.wrap, IntKind.bits, IntKind.signed]; omega
theorem mask_op {b : Nat} {left : Int} (hb : b < 256) (h1 : 0 < left) (h2 : left < 8) : intV .and .u8 (b : Int) (IntKind.u8.wrap (255 * 2 ^ min (8 - left).toNat IntKind.u8.bits)) = some (.int .u8 (maskN b left : Nat)) := by
  have e : min (8 - left).toNat IntKind.u8.bits = 8 - left.toNat := by simp [IntKind.bits]; omega
  rw [e]
  show some (V.int .u8 (IntKind.u8.wrap ((BitVec.ofInt 8 (b : Int) &&& BitVec.ofInt 8 (IntKind.u8.wrap (255 * 2 ^ (8 - left.toNat)))).toNat : Int))) = _
  rw [mask_and b hb _ (by omega)]
  have hm : maskN b left = b / 2 ^ (8 - left.toNat) * 2 ^ (8 - left.toNat) := by unfold maskN; rw [if_neg (by omega), if_pos h2]
  rw [← hm, u8_idN (by have := maskN_le b left; omega)]
theorem masked_ct {h : H} {l : List UInt8} {n : Int} (hl : l.length ≤ 1000000) (hn : -1000000 ≤ n ∧ n ≤ 1000000) : Pure Tryz.prog 108 [.str l, .int .i64 n] h (.str (maskL l n)) := by
  refine pure_to Tryz.func108 S.prim_masked_code S.prim_masked_enter rfl (Nat.le_of_ble_eq_true rfl) fun wf => ?_; simp only [S.prim_masked]
  have hll : l.length ≤ 9223372036854775807 := by omega
  simp [exec, hll]
  refine loop_up (fun i t h' => (t 1 = .int .i64 n ∧ t 5 = .sl h.next l.length 0 l.length none ∧ t 11 = .int .i64 l.length ∧ t 12 = .int .i64 i) ∧ Ge h h' ∧ h.next < h'.next ∧ h'.get h.next = some (.grow 1 ((maskL (l.take i) n ++ l.drop i).map byteV))) l.length ⟨by simp, by simp, by simp, by simp [maskL]⟩ ?_
  rintro i t h' hi ⟨⟨t1, t5, t11, t12⟩, hg, hnx, ho⟩ K hK
  by_cases hlt : i < l.length
  · have hw := wrap_succ hlt (by omega)
    have w8 : IntKind.i64.wrap (8 * (i : Int)) = 8 * (i : Int) := wrap_i64_id (by omega) (by omega)
    have wl : IntKind.i64.wrap (n - 8 * (i : Int)) = n - 8 * (i : Int) := wrap_i64_id (by omega) (by omega)
    have hlen : (maskL (l.take i) n ++ l.drop i).length = l.length := by simp [maskL_len]; omega
    have hb : (l[i]).toNat < 256 := (l[i]).toNat_lt
    have hgi : (maskL (l.take i) n ++ l.drop i)[i]? = some l[i] := by
      rw [List.getElem?_append_right (by rw [maskL_len, List.length_take]; omega), maskL_len, List.length_take, Nat.min_eq_left (by omega), Nat.sub_self, List.getElem?_drop]
      simp [List.getElem?_eq_getElem hlt]
    have hset : ∀ v : UInt8, UInt8.ofNat (maskN (l[i]).toNat (n - 8 * (i : Int))) = v → (maskL (l.take i) n ++ l.drop i).set i v = maskL (l.take (i + 1)) n ++ l.drop (i + 1) := fun v hv => by
      rw [maskL_snoc hlt, ← hv, List.set_append_right _ _ (by rw [maskL_len, List.length_take]; omega), maskL_len, List.length_take, Nat.min_eq_left (by omega), Nat.sub_self, List.drop_eq_getElem_cons hlt, List.set_cons_zero]
      simp
    obtain ⟨cur, hcur⟩ : ∃ cur, cur = maskL (l.take i) n ++ l.drop i := ⟨_, rfl⟩
    rw [← hcur] at ho hlen hgi hset
    have hi1 : i + 1 ≤ l.length := by omega
    have cc : cellsAt h'.get h.next l.length = some (cur.map byteV) := by rw [cellsAt_of ho (by simp [hlen])]; rfl
    have hcg : cur[i]'(by omega) = l[i] := by rw [List.getElem?_eq_getElem (by omega)] at hgi; exact Option.some.inj hgi
    have sm : ∀ b : UInt8, List.take i (cur.map byteV) ++ V.int .u8 (b.toNat : Int) :: List.drop (i + 1) (cur.map byteV) = (cur.set i b).map byteV := fun b => by
      rw [List.map_set, List.set_eq_take_append_cons_drop, if_pos (by simp; omega)]; rfl
    have fin : ∀ b : UInt8, UInt8.ofNat (maskN (l[i]).toNat (n - 8 * (i : Int))) = b → ∀ t', (t' 1 = .int .i64 n ∧ t' 5 = .sl h.next l.length 0 l.length none ∧ t' 11 = .int .i64 l.length ∧ t' 12 = .int .i64 ((i + 1 : Nat) : Int)) → K t' (h'.set h.next (.grow 1 ((cur.set i b).map byteV))) := fun b hb t' ht =>
      hK _ _ hlt ⟨ht, hg.set (Nat.le_refl _) _, by simpa using hnx, by simp [hset b hb]⟩
    clear hcur
    simp [t1, t11, t12, hlt, w8, wl]
    by_cases hle : n - 8 * (i : Int) ≤ 0
    · have f := fin 0 (by rw [maskN_small hle]; rfl)
      have s0 := sm 0
      simp at s0
      simp [hle, t5, t12, hlt, ho, hlen, hi1, s0, hw]
      rw [List.map_set] at f
      refine f _ ?_
      simp [t1, t5, t11]
    · by_cases h8 : n - 8 * (i : Int) < 8
      · have w88 : IntKind.i64.wrap (8 - (n - 8 * (i : Int))) = 8 - (n - 8 * (i : Int)) := wrap_i64_id (by omega) (by omega)
        have mo := mask_op hb (left := n - 8 * (i : Int)) (by omega) h8
        have hmb := maskN_le (l[i]).toNat (n - 8 * (i : Int))
        have s1 := sm (UInt8.ofNat (maskN (l[i]).toNat (n - 8 * (i : Int))))
        rw [show ((UInt8.ofNat (maskN (l[i]).toNat (n - 8 * (i : Int)))).toNat : Int) = (maskN (l[i]).toNat (n - 8 * (i : Int)) : Nat) by simp; omega] at s1
        have f := fin _ rfl
        have y0 : (0 : Int) ≤ 8 - (n - 8 * (i : Int)) := by omega
        have sh : shiftV .shl .u8 255 (8 - (n - 8 * (i : Int))) = some (.int .u8 (IntKind.u8.wrap (255 * 2 ^ min (8 - (n - 8 * (i : Int))).toNat IntKind.u8.bits))) := by
          unfold shiftV; rw [if_neg (by omega)]
        simp [hle, h8]
        refine dreg_of ?_
        simp [t5, t12, hlt, ho, cc, hlen, hcg, byteV, w88, sh, mo, hi1, hw]
        rw [s1]
        refine f _ ?_
        simp [t1, t5, t11]
      · simp [hle, h8, t12, hw]
        have e0 : cur.set i l[i] = cur := by rw [← hcg, List.set_getElem_self]
        refine hK _ _ hlt ⟨by simp [t1, t5, t11], hg, hnx, ?_⟩
        rw [ho, ← hset l[i] (by rw [maskN_big (by omega)]; simp), e0]
  · have hi2 : i = l.length := by omega
    subst hi2
    have hle : l.take l.length = l := List.take_of_length_le (Nat.le_refl _)
    have el : elemsV h'.get 1 (.sl h.next l.length 0 l.length none) = some (l.length, (maskL l n).map byteV) := by
      rw [elemsV_sl]
      split
      · rename_i h0
        have : l = [] := List.eq_nil_of_length_eq_zero h0
        subst this; rfl
      · rw [cellsAt_of ho (by simp [maskL_len])]; simp [List.take_of_length_le, maskL_len]
    simp [t5, t11, t12, el]
    exact hg
theorem pcheck_ct {h : H} {p : Pfx} : Pure Tryz.prog 67 [.agg (pfxC p)] h (.int .i64 (if mayP p = true then 0 else 2)) := by
  refine pure_to Tryz.func67 S.prim_Check_code S.prim_Check_enter rfl (Nat.le_of_ble_eq_true rfl) fun wf => ?_; simp only [S.prim_Check]
  simp only [pfxC]
  simp
  refine psize_ct _ ?_
  simp
  have sl := size_le p.fam
  have c1 : cellsAt (h.push (.row (pfxC p))).get h.next 4 = some (pfxC p) := by rw [cellsAt_of (by simp; rfl) (by simp [pfxC])]; rfl
  simp only [pfxC] at c1
  refine dreg_quiet (wf.push _) ?_
  by_cases e0 : sizeN p.fam = 0
  · simp [e0, mayP]
  have b0 : (((sizeN p.fam : Nat) : Int) == 0) = false := beq_no (by omega)
  have ef : ¬ p.fam = 0 := by intro e; apply e0; rw [e]; decide
  have bf := beq_no ef
  have eqz : eqV (TS.st [(0, 1, false, TS.int), (1, 1, false, TS.int), (2, 1, false, TS.str), (3, 1, false, TS.int)]) (.agg [.int .i64 p.fam, .int .u64 (p.rd : Nat), .str p.addr, .int .i64 p.len]) (.agg [.int .i64 0, .int .u64 0, .str [], .int .i64 0]) = some false := by
    simp [eqV, eqFs, bf]
  have ms0 : (decide (sizeN p.fam ≠ 0)) = true := by simpa using e0
  by_cases e1 : p.addr.length = sizeN p.fam
  · have b1 : ((p.addr.length : Int) != ((sizeN p.fam : Nat) : Int)) = false := by rw [e1]; simp
    by_cases e2 : p.len < 0
    · have m : mayP p = false := by
        have : ¬ 0 ≤ p.len := by omega
        simp [mayP, this]
      simp [b0, c1, eqz, b1, e2, m]
    · have e2' : 0 ≤ p.len := by omega
      have w8 : IntKind.i64.wrap (8 * ((sizeN p.fam : Nat) : Int)) = 8 * ((sizeN p.fam : Nat) : Int) := wrap_i64_id (by omega) (by omega)
      by_cases e3 : 8 * ((sizeN p.fam : Nat) : Int) < p.len
      · have m : mayP p = false := by
          have : ¬ p.len ≤ 8 * ((sizeN p.fam : Nat) : Int) := by omega
          simp [mayP, this]
        simp [b0, c1, eqz, b1, e2, w8, e3, m]
      · have e3' : p.len ≤ 8 * ((sizeN p.fam : Nat) : Int) := by omega
        have fin : ∀ (hrd : (decide (p.rd = 0) || apartF p.fam) = true), mayP p = decide (maskL p.addr p.len = p.addr) := fun hrd => by
          simp only [mayP, ms0, e1, e2', e3', hrd, decide_true, Bool.true_and]
        have last : ∀ hrd : (decide (p.rd = 0) || apartF p.fam) = true, (if mayP p = true then (0 : Int) else 2) = if (maskL p.addr p.len != p.addr) = true then 2 else 0 := fun hrd => by
          rw [fin hrd]
          by_cases hm : maskL p.addr p.len = p.addr
          · simp [hm]
          · have : (maskL p.addr p.len != p.addr) = true := by simpa using hm
            rw [this]; simp [hm]
        have mk : ∀ h2, Ge (h.push (.row [.int .i64 p.fam, .int .u64 (p.rd : Nat), .str p.addr, .int .i64 p.len])) h2 → Pure Tryz.prog 108 [.str p.addr, .int .i64 p.len] h2 (.str (maskL p.addr p.len)) := fun h2 _ => masked_ct (by omega) (by omega)
        by_cases e4 : p.rd = 0
        · have b4 : (((p.rd : Nat) : Int) != 0) = false := by rw [e4]; rfl
          rw [last (by simp [e4])]
          simp [b0, c1, eqz, b1, e2, w8, e3, b4]
          refine qcall_of (v := .str (maskL p.addr p.len)) rfl mk ?_
          simp [c1]
          by_cases hq : maskL p.addr p.len = p.addr
          · have hb : (maskL p.addr p.len == p.addr) = true := by simpa using hq
            simp [hq]
          · have hb : (maskL p.addr p.len == p.addr) = false := by simpa using hq
            simp [hb, hq]
        · have b4 : (((p.rd : Nat) : Int) != 0) = true := by
            have : ¬ ((p.rd : Nat) : Int) = 0 := by omega
            simpa using this
          simp [b0, c1, eqz, b1, e2, w8, e3, b4]
          refine qcall_of (v := .bool (apartF p.fam)) rfl (fun h2 _ => papart_ct) ?_
          cases ha : apartF p.fam with
          | false =>
            have m : mayP p = false := by simp [mayP, e4, ha]
            simp [m]
          | true =>
            rw [last (by simp [ha])]
            simp
            refine qcall_of (v := .str (maskL p.addr p.len)) rfl mk ?_
            simp [c1]
            by_cases hq : maskL p.addr p.len = p.addr
            · have hb : (maskL p.addr p.len == p.addr) = true := by simpa using hq
              simp [hq]
            · have hb : (maskL p.addr p.len == p.addr) = false := by simpa using hq
              simp [hb, hq]
  · have b1 : ((p.addr.length : Int) != ((sizeN p.fam : Nat) : Int)) = true := by
      have : ¬ (p.addr.length : Int) = ((sizeN p.fam : Nat) : Int) := by omega
      simpa using this
    have m : mayP p = false := by simp [mayP, e1]
    simp [b0, c1, eqz, b1, m]
theorem ncheck_ct {h : H} {n : Nl} : Pure Tryz.prog 113 [.agg (nlC n)] h (.int .i64 (if mayN n = true then 0 else 2)) := by
  refine pure_to Tryz.func113 S.nlri_Check_code S.nlri_Check_enter rfl (Nat.le_of_ble_eq_true rfl) fun wf => ?_; simp only [S.nlri_Check]
  simp only [nlC]
  simp
  have c1 : cellsAt (h.push (.row (nlC n))).get h.next 6 = some (nlC n) := by rw [cellsAt_of (by simp; rfl) (by simp [nlC])]; rfl
  simp only [nlC] at c1
  refine pcheck_ct (p := n.p) _ ?_
  cases hp : mayP n.p with
  | false =>
    have m : mayN n = false := by simp [mayN, hp]
    simp [m]
  | true =>
    by_cases e1 : (1048575 : Int) < (n.label : Nat)
    · have m : mayN n = false := by
        have : ¬ n.label ≤ 1048575 := by omega
        simp [mayN, this]
      simp [c1, e1, m]
    · have e1' : n.label ≤ 1048575 := by omega
      by_cases e2 : (0 : Int) < (n.label : Nat)
      · have e2' : ¬ n.label = 0 := by omega
        have e2n : 0 < n.label := by omega
        simp [c1, e1, e2n]
        refine nlabel_ct _ ?_
        cases hl : labelF n.p.fam <;> simp [mayN, hp, hl, e1', e2']
      · have e2' : n.label = 0 := by omega
        have m : mayN n = true := by simp [mayN, hp, e2']
        have e2n : ¬ 0 < n.label := by omega
        simp [c1, e1, e2n, m]
end Go.Am

namespace Go.Am

section
variable {α : Type} {c : α → α → Int}
def adjB (c : α → α → Int) : List α → Bool
  | a :: b :: l => decide (c a b < 0) && adjB c (b :: l)
  | _ => true
theorem adjB_iff : ∀ l : List α, adjB c l = true ↔ ∀ k (h : k + 1 < l.length), c l[k] l[k + 1] < 0
  | [] => by simp [adjB]
  | [a] => by simp [adjB]
  | a :: b :: l => by
    rw [adjB, Bool.and_eq_true, decide_eq_true_eq, adjB_iff (b :: l)]
    constructor
    · rintro ⟨h1, h2⟩ k hk
      cases k with
      | zero => exact h1
      | succ k => exact h2 k (by simpa using hk)
    · intro h
      exact ⟨h 0 (by simp), fun k hk => h (k + 1) (by simpa using hk)⟩
theorem adjB_rise (o : Ordr c) : ∀ l : List α, adjB c l = true ↔ Rise c l
  | [] => by simp [adjB, Rise]
  | [a] => by simp [adjB, Rise]
  | a :: b :: l => by
    rw [adjB, Bool.and_eq_true, decide_eq_true_eq, adjB_rise o (b :: l)]
    unfold Rise
    rw [List.pairwise_cons (a := a)]
    constructor
    · rintro ⟨h1, h2⟩
      refine ⟨fun x hx => ?_, h2⟩
      rcases List.mem_cons.1 hx with rfl | hx
      · exact h1
      · exact o.down _ _ _ h1 ((List.pairwise_cons.1 h2).1 x hx)
    · rintro ⟨h1, h2⟩
      exact ⟨h1 b (by simp), h2⟩
theorem flatMap_len (k : Nat) (g : α → List UInt8) (hg : ∀ x, (g x).length = k) : ∀ l : List α, (l.flatMap g).length = l.length * k
  | [] => by simp
  | x :: l => by rw [List.flatMap_cons, List.length_append, hg, flatMap_len k g hg l, List.length_cons, Nat.add_mul]; omega
theorem flatMap_take (g : α → List UInt8) (l : List α) {i : Nat} (h : i < l.length) : (l.take (i + 1)).flatMap g = (l.take i).flatMap g ++ g l[i] := by
  rw [List.take_add_one, List.getElem?_eq_getElem h, List.flatMap_append]
  simp only [Option.toList_some, List.flatMap_cons, List.flatMap_nil, List.append_nil]
variable [DecidableEq α]
end

abbrev Lg := Nat × Nat × Nat
def cP (x : Nat) : List V := [.int .u32 x]
def cX (x : Nat) : List V := [.int .u64 x]
def cL (x : Lg) : List V := [.int .u32 x.1, .int .u32 x.2.1, .int .u32 x.2.2]
def oN (a b : Nat) : Int := cmpI a b
def oL (a b : Lg) : Int := orI (cmpI a.1 b.1) (orI (cmpI a.2.1 b.2.1) (cmpI a.2.2 b.2.2))
theorem ordr_n : Ordr oN := ordr_int.on (fun x : Nat => (x : Int))
theorem oN_eq (a b : Nat) (h : oN a b = 0) : a = b := by unfold oN at h; rw [cmpI_zero] at h; omega
def bP (x : Nat) : List UInt8 := be 4 x
def bX (x : Nat) : List UInt8 := be 4 (x / 4294967296) ++ be 4 x
def fX (s : List UInt8) : Nat := val (s.take 4) * 4294967296 + val (s.drop 4)
theorem bP_len (x : Nat) : (bP x).length = 4 := be_len _ _
theorem bX_len (x : Nat) : (bX x).length = 8 := by simp [bX, be_len]
end Go.Am

namespace Go.Am
open Go.Proofs

set_option maxRecDepth 100000
theorem nan32_ct {h : H} {a : Int} : Pure Tryz.prog 153 [.int .u32 a] h (.bool false) := by
  refine pure_to Tryz.func153 S.cmp_isNaN_uint32_code S.cmp_isNaN_uint32_enter rfl (Nat.le_of_ble_eq_true rfl) fun wf => ?_; simp only [S.cmp_isNaN_uint32]
  simp
theorem nan64_ct {h : H} {a : Int} : Pure Tryz.prog 131 [.int .u64 a] h (.bool false) := by
  refine pure_to Tryz.func131 S.cmp_isNaN_uint64_code S.cmp_isNaN_uint64_enter rfl (Nat.le_of_ble_eq_true rfl) fun wf => ?_; simp only [S.cmp_isNaN_uint64]
  simp
theorem cmp32_ct {h : H} {a b : Int} : Pure Tryz.prog 122 [.int .u32 a, .int .u32 b] h (.int .i64 (cmpI a b)) := by
  refine pure_to Tryz.func122 S.cmp_Compare_uint32_code S.cmp_Compare_uint32_enter rfl (Nat.le_of_ble_eq_true rfl) fun wf => ?_; simp only [S.cmp_Compare_uint32]
  simp
  refine nan32_ct _ ?_
  simp
  refine nan32_ct _ ?_
  simp
  by_cases h1 : a < b
  · simp [h1, cmpI]
  · by_cases h2 : b < a <;> simp [h1, h2, cmpI]
theorem cmp64_ct {h : H} {a b : Int} : Pure Tryz.prog 110 [.int .u64 a, .int .u64 b] h (.int .i64 (cmpI a b)) := by
  refine pure_to Tryz.func110 S.cmp_Compare_uint64_code S.cmp_Compare_uint64_enter rfl (Nat.le_of_ble_eq_true rfl) fun wf => ?_; simp only [S.cmp_Compare_uint64]
  simp
  refine nan64_ct _ ?_
  simp
  refine nan64_ct _ ?_
  simp
  by_cases h1 : a < b
  · simp [h1, cmpI]
  · by_cases h2 : b < a <;> simp [h1, h2, cmpI]
theorem or3_ct {h : H} {q : Nat} {a b c : Int} (hq : h.get q = some (.row [.int .i64 a, .int .i64 b, .int .i64 c])) : Pure Tryz.prog 120 [.sl q 3 0 3 (some 3)] h (.int .i64 (orI a (orI b c))) := by
  refine pure_to Tryz.func120 S.cmp_Or_int_code S.cmp_Or_int_enter rfl (Nat.le_of_ble_eq_true rfl) fun wf => ?_; simp only [S.cmp_Or_int]
  have c1 : cellsAt h.get q 3 = some [.int .i64 a, .int .i64 b, .int .i64 c] := by rw [cellsAt_of hq (by rfl)]; rfl
  simp
  refine loop_up (fun i t h' => (t 3 = .int .i64 0 ∧ t 6 = .sl q 3 0 3 (some 3) ∧ t 7 = .int .i64 3 ∧ t 8 = .int .i64 (i : Nat)) ∧ h' = h ∧ (0 < i → a = 0) ∧ (1 < i → b = 0) ∧ (2 < i → c = 0)) 3 ⟨by simp, rfl, by omega, by omega, by omega⟩ ?_
  rintro i t h' hi ⟨⟨t3, t6, t7, t8⟩, rfl, k1, k2, k3⟩ K hK
  have w1 : IntKind.i64.wrap 1 = 1 := by decide
  have w2 : IntKind.i64.wrap 2 = 2 := by decide
  have w3 : IntKind.i64.wrap 3 = 3 := by decide
  rcases (by omega : i = 0 ∨ i = 1 ∨ i = 2 ∨ i = 3) with rfl | rfl | rfl | rfl
  · by_cases hz : a = 0
    · simp [t3, t6, t7, t8, c1, hz, w1]
      exact hK _ _ (by omega) ⟨by simp [t3, t6, t7], rfl, fun _ => hz, by omega, by omega⟩
    · have hb : (a != 0) = true := by simpa using hz
      simp [t3, t6, t7, t8, c1, hb, orI_nz hz]
  · have z1 := k1 (by omega)
    by_cases hz : b = 0
    · simp [t3, t6, t7, t8, c1, hz, w2]
      exact hK _ _ (by omega) ⟨by simp [t3, t6, t7], rfl, fun _ => z1, fun _ => hz, by omega⟩
    · have hb : (b != 0) = true := by simpa using hz
      simp [t3, t6, t7, t8, c1, hb, z1, orI_zero, orI_nz hz]
  · have z1 := k1 (by omega)
    have z2 := k2 (by omega)
    by_cases hz : c = 0
    · simp [t3, t6, t7, t8, c1, hz, w3]
      exact hK _ _ (by omega) ⟨by simp [t3, t6, t7], rfl, fun _ => z1, fun _ => z2, fun _ => hz⟩
    · have hb : (c != 0) = true := by simpa using hz
      simp [t3, t6, t7, t8, c1, hb, z1, z2, orI_zero]
  · have z1 := k1 (by omega)
    have z2 := k2 (by omega)
    have z3 := k3 (by omega)
    simp [t3, t7, t8, z1, z2, z3, orI_zero]
def cmp32P_c : List V → Option V
  | [.int .u32 a, .int .u32 b] => some (.int .i64 (cmpI a b))
  | _ => none
theorem cmp32P_ok : ∀ p ∈ [(122, cmp32P_c)], ∀ vals v, p.2 vals = some v → ∀ h, Acalls Tryz.prog p.1 vals h fun u h' => u = v ∧ h' = h := by
  intro p hp vals v e h
  simp only [List.mem_cons, List.not_mem_nil, or_false] at hp
  subst hp
  simp only [cmp32P_c] at e
  split at e
  · cases e; exact cmp32_ct _ ⟨rfl, rfl⟩
  · cases e
theorem be4 (n : Nat) : be 4 n = [UInt8.ofNat (n / 16777216), UInt8.ofNat (n / 65536), UInt8.ofNat (n / 256), UInt8.ofNat n] := by simp [be]
theorem fd32 (n : Nat) : ((n : Nat) : Int).fdiv (2 ^ min 32 IntKind.u64.bits) = (n : Int) / 4294967296 := Int.fdiv_eq_ediv_of_nonneg _ (by decide)
theorem ofNat_mod {a b : Nat} (h : a % 256 = b % 256) : UInt8.ofNat a = UInt8.ofNat b := UInt8.toNat_inj.1 (by simpa using h)
theorem be4_mod (n : Nat) : be 4 (n % 4294967296) = be 4 n := by
  simp only [be4, List.cons.injEq, and_true]
  exact ⟨ofNat_mod (by omega), ofNat_mod (by omega), ofNat_mod (by omega), ofNat_mod (by omega)⟩
theorem cput_ct {h : H} {v : V} {s : List UInt8} {l : List Nat} (hs : Sls h.get 1 v (l.map cP)) (hf : ∀ x ∈ l, x < 4294967296) (hl : s.length + l.length * 4 ≤ 100000) : Pure Tryz.prog 112 [.str s, v] h (.str (s ++ l.flatMap bP)) := by
  refine pure_to Tryz.func112 S.comm_put_code S.comm_put_enter rfl (Nat.le_of_ble_eq_true rfl) fun wf => ?_; simp only [S.comm_put]
  have hlen := hs.len
  simp at hlen
  simp [hlen]
  refine loop_up (fun i t h' => (t 0 = .str (s ++ (l.take i).flatMap bP) ∧ t 7 = v ∧ t 8 = .int .i64 l.length ∧ t 9 = .int .i64 (i : Nat)) ∧ h' = h) l.length ⟨by simp, rfl⟩ ?_
  rintro i t h' hi ⟨⟨t0, t7, t8, t9⟩, rfl⟩ K hK
  by_cases hlt : i < l.length
  · obtain ⟨p, qq, o, cs, e1, e2, e3⟩ := hs.at1 (f := fun x : Nat => V.int .u32 x) hlt
    have hw := wrap_succ hlt (by omega)
    have hx := hf _ (List.getElem_mem hlt)
    have w64 : IntKind.u64.wrap ((l[i] : Nat) : Int) = (l[i] : Nat) := u64_id (by omega)
    have hfl : ((l.take i).flatMap bP).length = i * 4 := by rw [flatMap_len 4 bP bP_len]; simp; omega
    simp [t0, t7, t8, t9, hlt, e1, e2, e3, w64]
    refine put_ct (size := 4) (by omega) (by omega) (by omega) (by rw [List.length_append, hfl]; omega) _ ?_
    simp [t9, hw]
    refine hK _ _ hlt ⟨by simp [t7, t8, flatMap_take bP l hlt, bP], rfl⟩
  · have : i = l.length := by omega
    subst this
    simp [t0, t8, t9]
end Go.Am

namespace Go.Am
open Go.Proofs

set_option maxRecDepth 100000
end Go.Am

namespace Go.Am
open Go.Proofs

set_option maxRecDepth 100000
def encR {α : Type} (c : α → α → Int) (b : α → List UInt8) (l : List α) : V := if l.length ≤ 64 ∧ adjB c l = true then .tup [.str (l.flatMap b), .int .i64 0] else .tup [.str [], .int .i64 2]
theorem encR_yes {α : Type} {c : α → α → Int} {b : α → List UInt8} {l : List α} (h1 : l.length ≤ 64) (h2 : adjB c l = true) : encR c b l = .tup [.str (l.flatMap b), .int .i64 0] := if_pos ⟨h1, h2⟩
theorem encR_long {α : Type} {c : α → α → Int} {b : α → List UInt8} {l : List α} (h : 64 < l.length) : encR c b l = .tup [.str [], .int .i64 2] := if_neg (by omega)
theorem encR_no {α : Type} {c : α → α → Int} {b : α → List UInt8} {l : List α} (h : adjB c l = false) : encR c b l = .tup [.str [], .int .i64 2] := if_neg (by simp [h])
theorem encR_ids {α : Type} (c : α → α → Int) (b : α → List UInt8) (l : List α) : (encR c b l).ids = [] := by unfold encR; split <;> rfl
theorem adjB_false {α : Type} {c : α → α → Int} {l : List α} {i : Nat} (h0 : 0 < i) (h : i < l.length) (hc : ¬ c l[i - 1] l[i] < 0) : adjB c l = false := by
  cases e : adjB c l with
  | false => rfl
  | true =>
    have := (adjB_iff l).1 e (i - 1) (by omega)
    exact absurd (by simpa [show i - 1 + 1 = i by omega] using this) hc
theorem sls_row {g : Nat → Option O} {k : Nat} {cs : List V} {ca : Option Nat} (hg : g k = some (.row cs)) (hb : cs.length < 9223372036854775808) (hca : ca = some cs.length) : Sls g 1 (.sl k cs.length 0 cs.length ca) (cs.map fun x => [x]) := by
  subst hca
  have hfl : (cs.map fun x => [x]).flatten = cs := by
    clear hg hb
    induction cs with
    | nil => rfl
    | cons a l ih => simp [ih]
  refine ⟨.inr ⟨_, _, _, _, by rw [List.length_map]⟩, by simp, ?_, by simpa using hb⟩
  rw [elemsV_sl]
  split
  · rename_i h0
    have : cs = [] := List.eq_nil_of_length_eq_zero h0
    subst this; rfl
  · rw [cellsAt_of hg (by simp [O.len, O.cells]), hfl]
    simp [O.cells]
theorem adjB_step {α : Type} {c : α → α → Int} {l : List α} {i : Nat} (ht : adjB c (l.take i) = true) (h : i < l.length) (hc : 0 < i → c l[i - 1] l[i] < 0) : adjB c (l.take (i + 1)) = true := by
  rw [adjB_iff] at ht ⊢
  intro k hk
  simp only [List.length_take] at hk
  simp only [List.getElem_take]
  by_cases hki : k + 1 < i
  · have := ht k (by simp; omega)
    simpa using this
  · have : k + 1 = i := by omega
    subst this
    simpa using hc (by omega)

theorem oneX_ct {h : H} {s : List UInt8} {x : Nat} (hx : x < 18446744073709551616) (hs : s.length ≤ 64 * 12) : Pure Tryz.prog 111 [.str s, .int .u64 (x : Nat)] h (.str (s ++ bX x)) := by
  refine pure_to Tryz.func111 S.comm_EncodeExts_1_code S.comm_EncodeExts_1_enter rfl (Nat.le_of_ble_eq_true rfl) fun wf => ?_; simp only [S.comm_EncodeExts_1]
  obtain ⟨hi, hhi⟩ : ∃ hi, hi = x / 4294967296 := ⟨_, rfl⟩
  obtain ⟨lo, hlo⟩ : ∃ lo, lo = x % 4294967296 := ⟨_, rfl⟩
  have wu1 : IntKind.u32.wrap ((x : Int) / 4294967296) = (hi : Int) := by rw [hhi]; simp [IntKind.wrap, IntKind.bits, IntKind.signed]; omega
  have wu2 : IntKind.u32.wrap (x : Int) = (lo : Int) := by rw [hlo]; simp [IntKind.wrap, IntKind.bits, IntKind.signed]
  have r2 : repCells 2 [V.int .u32 0] = [.int .u32 0, .int .u32 0] := rfl
  simp [fd32, wu1, wu2, r2]
  refine cput_ct (l := [hi, lo]) (sls_row (k := h.next) (cs := [.int .u32 (hi : Nat), .int .u32 (lo : Nat)]) (by simp) (by simp) rfl) (by intro y hy; simp at hy; omega) (by simp; omega) _ ?_
  simp [bX, bP, ← hhi, hlo, be4_mod]
theorem laycX_ct {h : H} {v : V} {l : List Nat} (hs : Sls h.get 1 v (l.map cX)) (hf : ∀ x ∈ l, x < 18446744073709551616) (hl : l.length ≤ 1000) : Pure Tryz.prog 109 [v, .func (.func 110) [] [], .func (.func 111) [] []] h (encR oN bX l) := by
  refine pure_to Tryz.func109 S.comm_lay_uint64_code S.comm_lay_uint64_enter (by exact encR_ids _ _ _) (Nat.le_of_ble_eq_true rfl) fun wf => ?_; simp only [S.comm_lay_uint64]
  have hlen := hs.len
  simp at hlen
  by_cases h64 : 64 < l.length
  · have h64' : (64 : Int) < l.length := by omega
    simp [hlen, h64', encR_long h64]
  · have h64' : ¬ (64 : Int) < l.length := by omega
    simp [hlen, h64']
    refine loop_up (fun i t h' => (t 0 = v ∧ t 1 = .func (.func 110) [] [] ∧ t 2 = .func (.func 111) [] [] ∧ t 8 = .str ((l.take i).flatMap bX) ∧ t 14 = v ∧ t 15 = .int .i64 l.length ∧ t 16 = .int .i64 (i : Nat)) ∧ Ge h h' ∧ h'.WF ∧ adjB oN (l.take i) = true) l.length ⟨by simp, Ge.refl _, wf, by simp [adjB]⟩ ?_
    rintro i t h' hi ⟨⟨t0, t1, t2, t8, t14, t15, t16⟩, gb, wb, ha⟩ K hK
    by_cases hlt : i < l.length
    · have hw := wrap_succ hlt (by omega)
      have w1 : IntKind.i64.wrap 1 = 1 := by decide
      have hfl : ((l.take i).flatMap bX).length ≤ 64 * 12 := by rw [flatMap_len _ bX bX_len]; simp; omega
      obtain ⟨p, qq, o, cs, e1, pl, e2, e3⟩ := hs.at1G (f := fun x : Nat => V.int .u64 x) wf hlt
      have e2' := e2 h' gb
      simp [t14, t15, t16, hlt, e1, e2', e3]
      by_cases h0 : i = 0
      · subst h0
        simp [t2, t8]
        refine oneX_ct (s := []) (x := l[0]) (hf _ (List.getElem_mem _)) (by simp) _ ?_
        simp [t16]
        refine hK _ _ hlt ⟨?_, gb, wb, adjB_step ha hlt (by omega)⟩
        have := flatMap_take bX l hlt
        simp [t0, t1, t2, t14, t15]
        simpa [w1] using this.symm
      · obtain ⟨p', qq', o', cs', f1, pl', f2, f3⟩ := hs.at1G (f := fun x : Nat => V.int .u64 x) wf (show i - 1 < l.length by omega)
        have f2' := f2 h' gb
        have wm : IntKind.i64.wrap ((i : Int) - 1) = ((i - 1 : Nat) : Int) := by rw [wrap_i64_id (by omega) (by omega)]; omega
        have h0' : 0 < i := by omega
        simp [h0', t0, t1, wm, f1, f2', f3]
        refine cmp64_ct _ ?_
        by_cases hc : cmpI (l[i - 1] : Nat) (l[i] : Nat) < 0
        · have hc' : ¬ 0 ≤ cmpI (l[i - 1] : Nat) (l[i] : Nat) := by omega
          simp [hc', t2, t8]
          refine oneX_ct (x := l[i]) (hf _ (List.getElem_mem _)) (by omega) _ ?_
          simp [t16, hw]
          refine hK _ _ hlt ⟨?_, gb, wb, adjB_step ha hlt (fun _ => hc)⟩
          simp [t0, t1, t2, t14, t15, flatMap_take bX l hlt]
        · have hc' : 0 ≤ cmpI (l[i - 1] : Nat) (l[i] : Nat) := by omega
          simp [hc']
          rw [encR_no (adjB_false h0' hlt hc)]
          exact ⟨rfl, gb⟩
    · have : i = l.length := by omega
      subst this
      simp [t8, t15, t16]
      rw [encR_yes (by omega) (by simpa using ha)]
      exact ⟨rfl, gb⟩
theorem enccX_ct {h : H} {v : V} {l : List Nat} (hs : Sls h.get 1 v (l.map cX)) (hf : ∀ x ∈ l, x < 18446744073709551616) (hl : l.length ≤ 1000) : Pure Tryz.prog 73 [v] h (encR oN bX l) := by
  refine pure_to Tryz.func73 S.comm_EncodeExts_code S.comm_EncodeExts_enter (by exact encR_ids _ _ _) (Nat.le_of_ble_eq_true rfl) fun wf => ?_; simp only [S.comm_EncodeExts]
  simp
  refine laycX_ct hs hf hl _ ?_
  unfold encR
  split <;> simp

end Go.Am

namespace Go.Am
open Go.Proofs

set_option maxRecDepth 100000
theorem compact_snoc {α : Type} [DecidableEq α] : ∀ (l : List α) (y x : α), compactL (l ++ [y, x]) = if y = x then compactL (l ++ [y]) else compactL (l ++ [y]) ++ [x]
  | [], y, x => by
    simp only [List.nil_append, compactL]
    split
    · rename_i e; subst e; rfl
    · rfl
  | [a], y, x => by
    simp only [List.cons_append, List.nil_append, compactL]
    by_cases h1 : a = y <;> by_cases h2 : y = x <;> simp [h1, h2]
  | a :: b :: l, y, x => by
    have ih := compact_snoc (b :: l) y x
    simp only [List.cons_append] at ih ⊢
    rw [compactL, compactL]
    split
    · exact ih
    · rw [ih]
      split <;> simp
theorem compact_at {α : Type} [DecidableEq α] (l : List α) {m : Nat} (h1 : 0 < m) (h2 : m < l.length) : compactL (l.take (m + 1)) = if l[m - 1] = l[m] then compactL (l.take m) else compactL (l.take m) ++ [l[m]] := by
  obtain ⟨k, rfl⟩ : ∃ k, m = k + 1 := ⟨m - 1, by omega⟩
  have e1 : l.take (k + 1) = l.take k ++ [l[k]] := by rw [List.take_add_one, List.getElem?_eq_getElem (by omega)]; rfl
  have e3 : l.take (k + 1 + 1) = l.take (k + 1) ++ l[k + 1]?.toList := List.take_add_one
  have e2 : l.take (k + 1 + 1) = l.take k ++ [l[k], l[k + 1]] := by
    rw [e3, e1, List.getElem?_eq_getElem h2, List.append_assoc]
    rfl
  rw [e2, compact_snoc, e1]
  rfl
section
variable {α : Type} {sz : Nat} {c : α → List V} (hc : ∀ x, (c x).length = sz)
include hc
theorem map_lenc (l : List α) : ∀ e ∈ l.map c, e.length = sz := fun e he => by obtain ⟨n, _, rfl⟩ := List.mem_map.1 he; exact hc n
theorem flatc_set (l : List α) (t : Nat) (x : α) (ht : t < l.length) : putCells (l.map c).flatten (t * sz) (c x) = ((l.set t x).map c).flatten := by
  have hs := map_lenc hc l
  have e1 := flat_take hs t
  have e2 := flat_drop hs (t + 1)
  rw [List.set_eq_take_append_cons_drop, if_pos ht, List.map_append, List.map_cons, List.flatten_append, List.flatten_cons, List.map_take, List.map_drop, e1, e2]
  unfold putCells
  rw [show t * sz + (c x).length = (t + 1) * sz by rw [hc, Nat.add_mul]; omega, List.append_assoc]
theorem slsc_part {g : Nat → Option O} {j : Nat} {l : List α} (hg : g j = some (.grow sz (l.map c).flatten)) (hb : l.length < 9223372036854775808) (k : Nat) (hk : k ≤ l.length) : Sls g sz (.sl j (l.length * sz) (k * sz) (l.length - k) none) ((l.drop k).map c) := by
  have hfl := flat_len (map_lenc hc l)
  simp only [List.length_map] at hfl
  refine ⟨.inr ⟨j, l.length * sz, k * sz, none, by simp⟩, map_lenc hc _, ?_, by simp; omega⟩
  rw [elemsV_sl]
  split
  · rename_i h0; rw [List.drop_of_length_le (by omega)]; rfl
  · rename_i h0
    have hm : k * sz + (l.length - k) * sz = l.length * sz := by rw [← Nat.add_mul]; congr 1; omega
    rw [cellsAt_of hg (by simp [hfl])]
    simp only [cells_grow]
    rw [if_pos (by omega), List.length_map, List.length_drop, List.map_drop, flat_drop (map_lenc hc l), List.take_of_length_le (by rw [List.length_drop, hfl, Nat.sub_mul]; omega)]
theorem slsc_all {g : Nat → Option O} {j : Nat} {l : List α} (hg : g j = some (.grow sz (l.map c).flatten)) (hb : l.length < 9223372036854775808) : Sls g sz (.sl j (l.length * sz) 0 l.length none) (l.map c) := by
  have := slsc_part hc hg hb 0 (Nat.zero_le _)
  simpa using this
end
theorem cX_len (x : Nat) : (cX x).length = 1 := rfl
end Go.Am

namespace Go.Am
open Go.Proofs

set_option maxRecDepth 100000
theorem loop_cut {body : (Exit → Tm → H → Prop) → Tm → H → Prop} {Q : Exit → Tm → H → Prop} {t : Tm} {h : H} {id : Nat} (J : Tm → H → Prop) (ha : ∀ R : Exit → Tm → H → Prop, (∀ t' h', J t' h' → R .normal t' h') → loopA body (blockA id R) t h) (k : ∀ t' h', J t' h' → Q .normal t' h') : loopA body (blockA id Q) t h := ha Q k
end Go.Am

namespace Go.Am
open Go.Proofs

set_option maxRecDepth 100000

end Go.Am

namespace Go.Am
open Go.Proofs

set_option maxRecDepth 100000
def setL (cs : List UInt8) : List V := (List.range 256).map fun c => .bool (decide (UInt8.ofNat c ∈ cs))
theorem setL_len (cs : List UInt8) : (setL cs).length = 256 := by simp [setL]
theorem setL_one (cs : List UInt8) : (setL cs).all V.one = true := by simp [setL]
theorem setL_take (cs : List UInt8) : (setL cs).take 256 = setL cs := List.take_of_length_le (by rw [setL_len]; omega)
theorem setL_each (cs : List UInt8) : ∀ x ∈ setL cs, x.one = true := fun x hx => List.all_eq_true.1 (setL_one cs) x hx
theorem setL_ids (cs : List UInt8) : V.idss (setL cs) = [] := by
  unfold setL
  induction List.range 256 with
  | nil => rfl
  | cons a l ih => simp [V.idss, V.ids, ih]
theorem setL_at (cs : List UInt8) {c : Nat} (h : c < 256) : (setL cs)[c]? = some (.bool (decide (UInt8.ofNat c ∈ cs))) := by
  simp [setL, h]
theorem setL_nil : [V.bool false, V.bool false, V.bool false, V.bool false, V.bool false, V.bool false, V.bool false, V.bool false, V.bool false, V.bool false, V.bool false, V.bool false, V.bool false, V.bool false, V.bool false, V.bool false, V.bool false, V.bool false, V.bool false, V.bool false, V.bool false, V.bool false, V.bool false, V.bool false, V.bool false, V.bool false, V.bool false, V.bool false, V.bool false, V.bool false, V.bool false, V.bool false, V.bool false, V.bool false, V.bool false, V.bool false, V.bool false, V.bool false, V.bool false, V.bool false, V.bool false, V.bool false, V.bool false, V.bool false, V.bool false, V.bool false, V.bool false, V.bool false, V.bool false, V.bool false, V.bool false, V.bool false, V.bool false, V.bool false, V.bool false, V.bool false, V.bool false, V.bool false, V.bool false, V.bool false, V.bool false, V.bool false, V.bool false, V.bool false, V.bool false, V.bool false, V.bool false, V.bool false, V.bool false, V.bool false, V.bool false, V.bool false, V.bool false, V.bool false, V.bool false, V.bool false, V.bool false, V.bool false, V.bool false, V.bool false, V.bool false, V.bool false, V.bool false, V.bool false, V.bool false, V.bool false, V.bool false, V.bool false, V.bool false, V.bool false, V.bool false, V.bool false, V.bool false, V.bool false, V.bool false, V.bool false, V.bool false, V.bool false, V.bool false, V.bool false, V.bool false, V.bool false, V.bool false, V.bool false, V.bool false, V.bool false, V.bool false, V.bool false, V.bool false, V.bool false, V.bool false, V.bool false, V.bool false, V.bool false, V.bool false, V.bool false, V.bool false, V.bool false, V.bool false, V.bool false, V.bool false, V.bool false, V.bool false, V.bool false, V.bool false, V.bool false, V.bool false, V.bool false, V.bool false, V.bool false, V.bool false, V.bool false, V.bool false, V.bool false, V.bool false, V.bool false, V.bool false, V.bool false, V.bool false, V.bool false, V.bool false, V.bool false, V.bool false, V.bool false, V.bool false, V.bool false, V.bool false, V.bool false, V.bool false, V.bool false, V.bool false, V.bool false, V.bool false, V.bool false, V.bool false, V.bool false, V.bool false, V.bool false, V.bool false, V.bool false, V.bool false, V.bool false, V.bool false, V.bool false, V.bool false, V.bool false, V.bool false, V.bool false, V.bool false, V.bool false, V.bool false, V.bool false, V.bool false, V.bool false, V.bool false, V.bool false, V.bool false, V.bool false, V.bool false, V.bool false, V.bool false, V.bool false, V.bool false, V.bool false, V.bool false, V.bool false, V.bool false, V.bool false, V.bool false, V.bool false, V.bool false, V.bool false, V.bool false, V.bool false, V.bool false, V.bool false, V.bool false, V.bool false, V.bool false, V.bool false, V.bool false, V.bool false, V.bool false, V.bool false, V.bool false, V.bool false, V.bool false, V.bool false, V.bool false, V.bool false, V.bool false, V.bool false, V.bool false, V.bool false, V.bool false, V.bool false, V.bool false, V.bool false, V.bool false, V.bool false, V.bool false, V.bool false, V.bool false, V.bool false, V.bool false, V.bool false, V.bool false, V.bool false, V.bool false, V.bool false, V.bool false, V.bool false, V.bool false, V.bool false, V.bool false, V.bool false, V.bool false, V.bool false, V.bool false, V.bool false, V.bool false, V.bool false, V.bool false, V.bool false, V.bool false, V.bool false, V.bool false, V.bool false, V.bool false, V.bool false, V.bool false, V.bool false, V.bool false, V.bool false, V.bool false, V.bool false] = setL [] := by kernel_rfl
theorem setL_put (cs : List UInt8) (c : UInt8) : (setL cs).take c.toNat ++ V.bool true :: (setL cs).drop (c.toNat + 1) = setL (cs ++ [c]) := by
  have hc : c.toNat < 256 := UInt8.toNat_lt c
  apply List.ext_getElem?
  intro k
  rw [List.getElem?_append, List.length_take, setL_len, Nat.min_eq_left (by omega)]
  by_cases h1 : k < c.toNat
  · rw [if_pos h1, List.getElem?_take, if_pos h1, setL_at _ (by omega), setL_at _ (by omega)]
    have : UInt8.ofNat k ≠ c := fun e => by have := congrArg UInt8.toNat e; simp at this; omega
    simp [this]
  · rw [if_neg h1]
    by_cases h2 : k = c.toNat
    · subst h2
      rw [Nat.sub_self, setL_at _ hc]
      simp
    · obtain ⟨m, hm⟩ : ∃ m, k - c.toNat = m + 1 := ⟨k - c.toNat - 1, by omega⟩
      rw [hm, List.getElem?_cons_succ, List.getElem?_drop, show c.toNat + 1 + m = k by omega]
      by_cases h3 : k < 256
      · rw [setL_at _ h3, setL_at _ h3]
        have : UInt8.ofNat k ≠ c := fun e => by have := congrArg UInt8.toNat e; simp at this; omega
        simp [this]
      · rw [List.getElem?_eq_none (by rw [setL_len]; omega), List.getElem?_eq_none (by rw [setL_len]; omega)]
theorem mkset_ct {h : H} {cs : List UInt8} (ha : ∀ c ∈ cs, c.toNat < 128) (hl : cs.length ≤ 1000) : Pure Tryz.prog 175 [.str cs] h (.tup [.agg (setL cs), .bool true]) := by
  refine pure_to Tryz.func175 S.strings_makeASCIISet_code S.strings_makeASCIISet_enter (by simp only [V.ids, V.idss, setL_ids, List.append_nil]) (Nat.le_of_ble_eq_true rfl) fun wf => ?_; simp only [S.strings_makeASCIISet]
  rw [setL_nil]
  have z1 := setL_len []
  have z2 := setL_one []
  simp
  refine loop_up (fun i t h' => (t 0 = .str cs ∧ t 2 = .ptr h.next 256 0 ∧ t 4 = .int .i64 (i : Nat)) ∧ h' = h.push (.row (setL (cs.take i)))) cs.length ⟨by simp [setL_len], by simp⟩ ?_
  rintro i t h' hi ⟨⟨t0, t2, t4⟩, rfl⟩ K hK
  have zl := setL_len (cs.take i)
  have zo := setL_one (cs.take i)
  by_cases hlt : i < cs.length
  · have hw := wrap_succ hlt (by omega)
    have g1 : cs[i]? = some cs[i] := List.getElem?_eq_getElem hlt
    have c1 := ha cs[i] (List.getElem_mem hlt)
    have c2 : ¬ (128 : Int) ≤ (cs[i].toNat : Int) := by omega
    have c3 : cs[i].toNat < 256 := by omega
    have c4 : (cs[i].toNat : Int) < 256 := by omega
    have c5 : cs[i].toNat ≤ 255 := by omega
    have hp := setL_put (cs.take i) cs[i]
    have htk : cs.take i ++ [cs[i]] = cs.take (i + 1) := by rw [List.take_add_one, g1]; rfl
    rw [htk] at hp
    simp [t0, t2, t4, hlt, c2, c4, c5, zl, hp, H.push_set, hw]
    refine hK _ _ hlt ⟨by simp [t0, t2], by simp⟩
  · have : i = cs.length := by omega
    subst this
    rw [List.take_length] at zl zo ⊢
    have ze : ∀ a b : Option D, (if ∀ (x : V), x ∈ setL cs → x.one = true then a else b) = a := fun a b => if_pos (setL_each cs)
    have zt := setL_take cs
    have zd : List.drop 256 (setL cs) = [] := List.drop_of_length_le (by omega)
    simp [t0, t2, t4, zl, ze, zt, zd, H.push_set]
theorem scon_ct {h : H} {cs : List UInt8} {j : Nat} (hj : h.get j = some (.row (setL cs))) {c : UInt8} : Pure Tryz.prog 189 [.ptr j 256 0, .int .u8 (c.toNat : Nat)] h (.bool (decide (c ∈ cs))) := by
  refine pure_to Tryz.func189 S.strings_asciiSet_contains_code S.strings_asciiSet_contains_enter rfl (Nat.le_of_ble_eq_true rfl) fun wf => ?_; simp only [S.strings_asciiSet_contains]
  have c3 : c.toNat < 256 := UInt8.toNat_lt c
  have c4 : (c.toNat : Int) < 256 := by omega
  have ca : cellsAt h.get j 256 = some (setL cs) := (cellsAt_of (n := 256) hj (by simp [setL_len])).trans rfl
  have e := setL_at cs c3
  simp at e
  simp [c4, ca, e]
theorem trimA_ct {h : H} {cs s : List UInt8} (hl : s.length ≤ 9223372036854775807) {j : Nat} (hj : h.get j = some (.row (setL cs))) : Pure Tryz.prog 176 [.str s, .ptr j 256 0] h (.str (s.dropWhile fun c => decide (c ∈ cs))) := by
  refine pure_to Tryz.func176 S.strings_trimLeftASCII_code S.strings_trimLeftASCII_enter rfl (Nat.le_of_ble_eq_true rfl) fun wf => ?_; simp only [S.strings_trimLeftASCII]
  simp
  refine loop_up (fun i t h' => (t 0 = .str (s.drop i) ∧ t 1 = .ptr j 256 0) ∧ h' = h ∧ s.dropWhile (fun c => decide (c ∈ cs)) = (s.drop i).dropWhile fun c => decide (c ∈ cs)) s.length ⟨by simp, rfl, by simp⟩ ?_
  rintro i t h' hi ⟨⟨t0, t1⟩, rfl, hd⟩ K hK
  by_cases hlt : i < s.length
  · obtain ⟨c, hc⟩ : ∃ c, c = s[i] := ⟨_, rfl⟩
    obtain ⟨r, hr⟩ : ∃ r, r = s.drop (i + 1) := ⟨_, rfl⟩
    have g1 : s.drop i = c :: r := by rw [hc, hr]; exact List.drop_eq_getElem_cons hlt
    rw [g1] at t0
    rw [g1, List.dropWhile_cons] at hd
    have l1 : (1 : Int) ≤ (r.length : Int) + 1 := by omega
    have l2 : (0 : Int) < (r.length : Int) + 1 := by omega
    simp [t0, t1, l2]
    refine scon_ct hj _ ?_
    by_cases hm : c ∈ cs
    · rw [if_pos (by simpa using hm)] at hd
      simp [t0, hm, l1]
      refine hK _ _ hlt ⟨by simp [t1, hr], rfl, by rw [← hr]; exact hd⟩
    · rw [if_neg (by simpa using hm)] at hd
      simp [t0, hm, hd]
  · have : i = s.length := by omega
    subst this
    rw [List.drop_length] at t0 hd
    simp [t0, hd]
theorem trim_ct {h : H} {cs s : List UInt8} (ha : ∀ c ∈ cs, c.toNat < 128) (hc : 2 ≤ cs.length ∧ cs.length ≤ 1000) (hl : s.length ≤ 9223372036854775807) : Pure Tryz.prog 149 [.str s, .str cs] h (.str (s.dropWhile fun c => decide (c ∈ cs))) := by
  refine pure_to Tryz.func149 S.strings_TrimLeft_code S.strings_TrimLeft_enter rfl (Nat.le_of_ble_eq_true rfl) fun wf => ?_; simp only [S.strings_TrimLeft]
  rw [setL_nil]
  have cne : cs ≠ [] := fun e => by rw [e] at hc; simp at hc
  have c1 : ((cs.length : Int) == 1) = false := beq_eq_false_iff_ne.2 (by omega)
  have z1 := setL_len []
  have z2 := setL_len cs
  have z3 := setL_one cs
  by_cases hs : s = []
  · subst hs; simp
  · have se : s.isEmpty = false := by cases s <;> simp_all
    have ce : cs.isEmpty = false := by cases cs <;> simp_all
    simp [c1, se, ce]
    refine mkset_ct ha hc.2 _ ?_
    have z4 : List.drop 256 (setL []) = [] := List.drop_of_length_le (by omega)
    simp [z1, z2, z3, z4, H.push_set]
    refine trimA_ct (cs := cs) (by omega) (by simp) _ ?_
    simp
def csN : List UInt8 := [97, 98, 99, 100, 101, 102, 103, 104, 105, 106, 107, 108, 109, 110, 111, 112, 113, 114, 115, 116, 117, 118, 119, 120, 121, 122, 48, 49, 50, 51, 52, 53, 54, 55, 56, 57, 45]
def nameB (s : List UInt8) : Bool := match s with
  | [] => false
  | c :: r => decide (r.length ≤ 15) && decide (97 ≤ c.toNat) && (c :: r).all fun c => decide (c ∈ csN)
theorem dropW_nil {s cs : List UInt8} : s.dropWhile (fun c => decide (c ∈ cs)) = [] ↔ (s.all fun c => decide (c ∈ cs)) = true := by
  induction s with
  | nil => simp
  | cons c s ih =>
    rw [List.dropWhile_cons, List.all_cons]
    by_cases hc : c ∈ cs
    · rw [if_pos (by simpa using hc), ih]; simp [hc]
    · rw [if_neg (by simpa using hc)]; simp [hc]
end Go.Am
