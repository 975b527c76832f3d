/-
 N0, WN, N1, N2, N3, C0, C1, C1b, C2, CR0, CR1, CR3, RP1, T0, T1, T2, T3, N4, N5, N6, T4, in one text.
-/
import Derived.Test.YtjahfjcfjnnnjaaGreatDoorYAm30
import Derived.Test.YtjahfjcfjnnnjaaGreatDoorYSkP
import Derived.Test.YtjahfjcfjnnnjaaGreatDoorYAm31
import Derived.Test.YtjahfjcfjnnnjaaGreatDoorYAm35
import Derived.Test.YtjahfjcfjnnnjaaGreatDoorYAm37
import Derived.KernelRfl
import Derived.Lib.Bytealg
namespace Go.Am

theorem Acalls.turn {P : Program} {f : FuncId} {args : List V} {h : H} {i : Nat} {o' : O} {Q : V -> H -> Prop} (hi : ∃ o, h.get i = some o) (ho : o'.ids = [])
  (c : h.WF -> Acalls P f args h fun v h1 => Ge (h.set i o') h1 ∧ v.ids = [] ∧ Q v (h.set i o')) (he : zac P f = true) : Acalls P f args h Q := by
 refine Acalls.cl he fun wf cl => Acalls.rename ((c wf).mono ?_)
 rintro v h1 ⟨hg, hv, hq⟩
 obtain ⟨oi, hoi⟩ := hi
 have hlt := wf.lt hoi
 have w2 : (h.set i o').WF := wf.set hlt _
 have liv : ∀ k, (∃ o, h.get k = some o) -> ∃ o, (h.set i o').get k = some o := fun k ⟨o, hk⟩ => by
  rw [H.get_set]; split
  ·exact ⟨_, rfl⟩
  ·exact ⟨o, hk⟩
 refine ⟨id, v, h.set i o', (V.ren_id (σ := id) v (fun _ _ => rfl)).symm, ⟨fun k o hk => by rw [show o.ren id = o from O.ren_id (σ := id) o (fun _ _ => rfl)]; exact hg.keeps w2 k o hk, fun _ _ _ _ _ _ e => e, fun k o hk j hj => ?_, w2⟩, fun k hk => (by rw [hv] at hk; cases hk), fun k o hk => ⟨rfl, liv k ⟨o, hk⟩⟩, hq⟩
 rw [H.get_set] at hk
 split at hk
 ·cases hk
  rw [ho] at hj; cases hj
 ·exact liv j (cl k o hk j hj)

theorem H.push_set (h : H) (o o' : O) : (h.push o).set h.next o' = h.push o' := H.ext' rfl fun j => by
 rw [H.get_set, H.get_push, H.get_push]; split <;> simp_all
def val (l : List UInt8) : Nat := l.foldl (fun a b => a * 256 + b.toNat) 0
theorem znD {n : Nat} (h : n < 18446744073709551616) : IntKind.u64.wrap (n : Int) = n := by simp [IntKind.wrap, IntKind.bits, IntKind.signed]; omega
def be : Nat -> Nat -> List UInt8
 | 0, _ => []
 | n + 1, v => UInt8.ofNat (v / 256 ^ n) :: be n v
theorem zil : ∀ n v, (be n v).length = n
 | 0, _ => rfl
 | n + 1, v => by rw [be, List.length_cons, zil n v]

end Go.Am

namespace Go.Am
open Go.Proofs

set_option maxRecDepth 100000
def len8 : List UInt8 := [0, 1, 2, 2, 3, 3, 3, 3, 4, 4, 4, 4, 4, 4, 4, 4, 5, 5, 5, 5, 5, 5, 5, 5, 5, 5, 5, 5, 5, 5, 5, 5, 6, 6, 6, 6, 6, 6, 6, 6, 6, 6, 6, 6, 6, 6, 6, 6, 6, 6, 6, 6, 6, 6, 6, 6, 6, 6, 6, 6, 6, 6, 6, 6, 7, 7, 7, 7, 7, 7, 7, 7, 7, 7, 7, 7, 7, 7, 7, 7, 7, 7, 7, 7, 7, 7, 7, 7, 7, 7, 7, 7, 7, 7, 7, 7, 7, 7, 7, 7, 7, 7, 7, 7, 7, 7, 7, 7, 7, 7, 7, 7, 7, 7, 7, 7, 7, 7, 7, 7, 7, 7, 7, 7, 7, 7, 7, 7, 8, 8, 8, 8, 8, 8, 8, 8, 8, 8, 8, 8, 8, 8, 8, 8, 8, 8, 8, 8, 8, 8, 8, 8, 8, 8, 8, 8, 8, 8, 8, 8, 8, 8, 8, 8, 8, 8, 8, 8, 8, 8, 8, 8, 8, 8, 8, 8, 8, 8, 8, 8, 8, 8, 8, 8, 8, 8, 8, 8, 8, 8, 8, 8, 8, 8, 8, 8, 8, 8, 8, 8, 8, 8, 8, 8, 8, 8, 8, 8, 8, 8, 8, 8, 8, 8, 8, 8, 8, 8, 8, 8, 8, 8, 8, 8, 8, 8, 8, 8, 8, 8, 8, 8, 8, 8, 8, 8, 8, 8, 8, 8, 8, 8, 8, 8, 8, 8, 8, 8, 8, 8, 8, 8, 8, 8, 8, 8]
theorem zlg : len8.length = 256 ∧ ∀ x : Nat, x < 256 -> (len8.getD x 0).toNat ≤ 8 ∧ ∀ k : Nat, k < 9 -> (k < (len8.getD x 0).toNat ↔ 2 ^ k ≤ x) := by decide +kernel
theorem zlL (v k : Nat) (hk : k ≤ 64) : ((v : Int).fdiv (2 ^ min k IntKind.u64.bits)) = ((v / 2 ^ k : Nat) : Int) := by
 rw [show IntKind.u64.bits = 64 from rfl, Nat.min_eq_left hk, show (2 : Int) ^ k = ((2 ^ k : Nat) : Int) by simp, Int.fdiv_eq_ediv_of_nonneg _ (Int.natCast_nonneg _), <- Int.natCast_ediv]
theorem ze3 {v m n : Nat} (h : 2 ^ m ≤ v) (hn : ∀ k, k < n ↔ 2 ^ k ≤ v / 2 ^ m) : ∀ k, k < n + m ↔ 2 ^ k ≤ v := by
 intro k
 rcases Nat.lt_or_ge k m with c | c
 ·exact ⟨fun _ => Nat.le_trans (Nat.pow_le_pow_right (by omega) (by omega)) h, fun _ => by omega⟩
 ·obtain ⟨j, rfl⟩ := Nat.exists_eq_add_of_le c
  have := hn j
  rw [Nat.le_div_iff_mul_le (Nat.pos_of_ne_zero (by simp)), Nat.mul_comm, <- Nat.pow_add] at this
  rw [<- this]; omega
set_option maxRecDepth 100000 in
theorem zjM {v : Nat} (hv : v < 18446744073709551616) : ∃ n : Nat, n ≤ 64 ∧ (∀ k, k ≤ 64 -> (k < n ↔ 2 ^ k ≤ v)) ∧ ∀ h : H, Pure Tryz.prog 96 [.int .u64 v] h (.int .i64 n) := by
 obtain ⟨a1, ha1⟩ : ∃ a, a = if 4294967296 ≤ v then 32 else 0 := ⟨_, rfl⟩
 obtain ⟨v1, hv1⟩ : ∃ a, a = if 4294967296 ≤ v then v / 4294967296 else v := ⟨_, rfl⟩
 obtain ⟨a2, ha2⟩ : ∃ a, a = if 65536 ≤ v1 then a1 + 16 else a1 := ⟨_, rfl⟩
 obtain ⟨v2, hv2⟩ : ∃ a, a = if 65536 ≤ v1 then v1 / 65536 else v1 := ⟨_, rfl⟩
 obtain ⟨a3, ha3⟩ : ∃ a, a = if 256 ≤ v2 then a2 + 8 else a2 := ⟨_, rfl⟩
 obtain ⟨v3, hv3⟩ : ∃ a, a = if 256 ≤ v2 then v2 / 256 else v2 := ⟨_, rfl⟩
 have b1 : v1 < 4294967296 := by rw [hv1]; split <;> omega
 have b2 : v2 < 65536 := by rw [hv2]; split <;> omega
 have b3 : v3 < 256 := by rw [hv3]; split <;> omega
 obtain ⟨T, hT⟩ : ∃ T, T = len8 := ⟨_, rfl⟩
 obtain ⟨tl, tx⟩ := zlg
 rw [<- hT] at tl tx
 obtain ⟨c, hc⟩ : ∃ c, T[v3]? = some c := ⟨_, List.getElem?_eq_getElem (by omega)⟩
 have tc := tx v3 b3
 rw [List.getD_eq_getElem?_getD, hc, Option.getD_some] at tc
 refine ⟨a3 + c.toNat, ?_, ?_, fun h => ?_⟩
 ·have : a3 ≤ 56 := by rw [ha3, ha2, ha1]; split <;> split <;> split <;> omega
  omega
 ·have n3 : ∀ k, k < c.toNat ↔ 2 ^ k ≤ v3 := fun k => by
   rcases Nat.lt_or_ge k 9 with hk | hk
   ·exact tc.2 k hk
   ·have : 2 ^ 9 ≤ 2 ^ k := Nat.pow_le_pow_right (by omega) hk
    omega
  have n2 : ∃ n, a3 + c.toNat = a2 + n ∧ ∀ k, k < n ↔ 2 ^ k ≤ v2 := by
   by_cases g : 256 ≤ v2
   ·rw [if_pos g] at ha3 hv3
    exact ⟨c.toNat + 8, by omega, ze3 g (by rw [show 2 ^ 8 = 256 from rfl, <- hv3]; exact n3)⟩
   ·rw [if_neg g] at ha3 hv3
    exact ⟨c.toNat, by omega, by rw [<- hv3]; exact n3⟩
  obtain ⟨q2, e2, n2⟩ := n2
  have n1 : ∃ n, a3 + c.toNat = a1 + n ∧ ∀ k, k < n ↔ 2 ^ k ≤ v1 := by
   by_cases g : 65536 ≤ v1
   ·rw [if_pos g] at ha2 hv2
    exact ⟨q2 + 16, by omega, ze3 g (by rw [show 2 ^ 16 = 65536 from rfl, <- hv2]; exact n2)⟩
   ·rw [if_neg g] at ha2 hv2
    exact ⟨q2, by omega, by rw [<- hv2]; exact n2⟩
  obtain ⟨q1, e1, n1⟩ := n1
  intro k _
  by_cases g : 4294967296 ≤ v
  ·rw [if_pos g] at ha1 hv1
   have := ze3 g (by rw [show 2 ^ 32 = 4294967296 from rfl, <- hv1]; exact n1) k
   rw [<- this]; omega
  ·rw [if_neg g] at ha1 hv1
   have := n1 k
   rw [hv1] at this
   rw [<- this]; omega
 ·refine zan Tryz.func96 S.a48c S.a48e rfl (Nat.le_of_ble_eq_true rfl) fun wf => ?_; simp only [S.a48]
  rw [show ([0, 1, 2, 2, 3, 3, 3, 3, 4, 4, 4, 4, 4, 4, 4, 4, 5, 5, 5, 5, 5, 5, 5, 5, 5, 5, 5, 5, 5, 5, 5, 5, 6, 6, 6, 6, 6, 6, 6, 6, 6, 6, 6, 6, 6, 6, 6, 6, 6, 6, 6, 6, 6, 6, 6, 6, 6, 6, 6, 6, 6, 6, 6, 6, 7, 7, 7, 7, 7, 7, 7, 7, 7, 7, 7, 7, 7, 7, 7, 7, 7, 7, 7, 7, 7, 7, 7, 7, 7, 7, 7, 7, 7, 7, 7, 7, 7, 7, 7, 7, 7, 7, 7, 7, 7, 7, 7, 7, 7, 7, 7, 7, 7, 7, 7, 7, 7, 7, 7, 7, 7, 7, 7, 7, 7, 7, 7, 7, 8, 8, 8, 8, 8, 8, 8, 8, 8, 8, 8, 8, 8, 8, 8, 8, 8, 8, 8, 8, 8, 8, 8, 8, 8, 8, 8, 8, 8, 8, 8, 8, 8, 8, 8, 8, 8, 8, 8, 8, 8, 8, 8, 8, 8, 8, 8, 8, 8, 8, 8, 8, 8, 8, 8, 8, 8, 8, 8, 8, 8, 8, 8, 8, 8, 8, 8, 8, 8, 8, 8, 8, 8, 8, 8, 8, 8, 8, 8, 8, 8, 8, 8, 8, 8, 8, 8, 8, 8, 8, 8, 8, 8, 8, 8, 8, 8, 8, 8, 8, 8, 8, 8, 8, 8, 8, 8, 8, 8, 8, 8, 8, 8, 8, 8, 8, 8, 8, 8, 8, 8, 8, 8, 8, 8, 8, 8, 8] : List UInt8) = T from hT.symm]
  have s1 := zlL v 32 (by omega)
  have s2 := zlL v1 16 (by omega)
  have s3 := zlL v2 8 (by omega)
  have w3 : IntKind.u8.wrap (v3 : Int) = v3 := by simp [IntKind.wrap, IntKind.bits, IntKind.signed]; omega
  have w4 : IntKind.i64.wrap (c.toNat : Int) = c.toNat := zeb (by omega)
  have wa : ∀ x : Nat, x < 1000 -> IntKind.i64.wrap (x : Int) = x := fun x hx => zeb (by omega)
  have wb : ∀ x y : Nat, x < 1000 -> y < 1000 -> IntKind.i64.wrap ((x : Int) + (y : Int)) = ((x + y : Nat) : Int) := fun x y hx hy => by rw [<- Int.natCast_add]; exact zeb (by omega)
  have zz1 : ∀ n : Nat, ((4294967296 : Int) ≤ n) = (4294967296 ≤ n) := fun n => propext (by omega)
  have zz2 : ∀ n : Nat, ((65536 : Int) ≤ n) = (65536 ≤ n) := fun n => propext (by omega)
  have zz3 : ∀ n : Nat, ((256 : Int) ≤ n) = (256 ≤ n) := fun n => propext (by omega)
  have lo : ∀ n : Nat, (0 : Int) ≤ n := fun n => by omega
  by_cases g1 : 4294967296 ≤ v <;> by_cases g2 : 65536 ≤ v1 <;> by_cases g3 : 256 ≤ v2 <;>
  (first | (rw [if_pos g1] at ha1 hv1; rw [show (v / 2 ^ 32) = v1 from hv1.symm] at s1) | (rw [if_neg g1] at ha1 hv1; replace s1 := hv1.symm; rw [s1] at g1)) <;>
  (first | (rw [if_pos g2] at ha2 hv2; rw [show (v1 / 2 ^ 16) = v2 from hv2.symm] at s2) | (rw [if_neg g2] at ha2 hv2; replace s2 := hv2.symm; rw [s2] at g2)) <;>
  (first | (rw [if_pos g3] at ha3 hv3; rw [show (v2 / 2 ^ 8) = v3 from hv3.symm] at s3) | (rw [if_neg g3] at ha3 hv3; replace s3 := hv3.symm; rw [s3] at g3)) <;>
  (try rw [s2] at g1) <;> (try rw [s3] at g1) <;> (try rw [s3] at g2) <;>
  (clear hT tx; simp [zz1, zz2, zz3, g1, g2, g3, s1, s2, s3, w3, w4, hc, lo]) <;>
  (subst ha1; subst ha2; subst ha3; have t1 := tc.1; simp [IntKind.wrap, IntKind.bits, IntKind.signed] <;> omega)
theorem zk2 (v k : Nat) (hk : k ≤ 7) : IntKind.u8.wrap ((v : Int).fdiv (2 ^ min (8 * (k : Int)).toNat IntKind.u64.bits)) = ((UInt8.ofNat (v / 256 ^ k)).toNat : Int) := by
 have e1 : min (8 * (k : Int)).toNat IntKind.u64.bits = 8 * k := by simp [IntKind.bits]; omega
 rw [e1, show (2 : Int) ^ (8 * k) = ((256 ^ k : Nat) : Int) by rw [Int.pow_mul]; simp]
 rw [Int.fdiv_eq_ediv_of_nonneg _ (Int.natCast_nonneg _), <- Int.natCast_ediv]
 simp only [IntKind.wrap, IntKind.bits, IntKind.signed, Bool.false_and, Bool.false_eq_true, if_false, UInt8.toNat_ofNat']
 omega
theorem zfr : ∀ l : List UInt8, (l.map zbF).mapM u8Of = some l
 | [] => rfl
 | b :: l => by
  rw [List.map_cons, List.mapM_cons, zfr l]
  simp [u8Of, zbF]
@[simp] theorem zoy (l : List UInt8) : l.mapM (u8Of ∘ zbF) = some l := by
 have := zfr l
 rwa [List.mapM_map] at this
theorem zm8 {h : H} {b : List UInt8} {v size : Nat} (hs : 1 ≤ size) (hs2 : size ≤ 8) (hv : v < 256 ^ size) (hb : b.length ≤ 1000000) : Pure Tryz.prog 142 [.str b, .int .u64 v, .int .i64 size] h (.tup [.str (b ++ be size v), .int .i64 0]) := by
 have hpow : 256 ^ size ≤ 256 ^ 8 := Nat.pow_le_pow_right (by omega) hs2
 have hv64 : v < 18446744073709551616 := Nat.lt_of_lt_of_le hv (Nat.le_trans hpow (by decide))
 obtain ⟨n, hn, hk, hlen⟩ := zjM hv64
 refine zan Tryz.func142 S.a67c S.a67e rfl (Nat.le_of_ble_eq_true rfl) fun wf => ?_; simp only [S.a67]
 have z1 : ¬ ((size : Int) < 1) := by omega
 have z2 : ¬ ((8 : Int) < size) := by omega
 have z3 : n ≤ 8 * size := by
  rcases Nat.lt_or_ge (8 * size) n with c | c
  ·have := (hk (8 * size) (by omega)).1 c
   rw [Nat.pow_mul, show (2 ^ 8 : Nat) = 256 from rfl] at this
   omega
  ·exact c
 have z4 : IntKind.i64.wrap (8 * (size : Int)) = 8 * size := zas (by omega) (by omega)
 have z5 : ¬ (8 * (size : Int) < n) := by omega
 have z6 : IntKind.i64.wrap ((size : Int) - 1) = size - 1 := zas (by omega) (by omega)
 simp [z1, z2]
 refine hlen h _ ?_
 have hbl : b.length ≤ 9223372036854775807 := by omega
 simp [z4, z5, exec, z6, hbl]
 refine zaJ (fun i t h' => ∃ acc : List UInt8, (t 1 = .int .u64 v ∧ t 8 = .sl h.next acc.length 0 acc.length none ∧ t 9 = .int .i64 ((size : Int) - 1 - i)) ∧ Ge h h' ∧ h.next < h'.next ∧ h'.get h.next = some (.grow 1 (acc.map zbF)) ∧ acc.length = b.length + i ∧ acc ++ be (size - i) v = b ++ be size v) size ⟨b, by simp⟩ ?_
 rintro i t h' hi ⟨acc, ⟨h1, h8, h9⟩, hg, hnx, ho, hal, hacc⟩ K hK
 by_cases hlt : i < size
 ·have y1 : (0 : Int) ≤ (size : Int) - 1 - i := by omega
  have y2 : IntKind.i64.wrap (8 * ((size : Int) - 1 - i)) = 8 * ((size : Int) - 1 - i) := zas (by omega) (by omega)
  have y3 : IntKind.i64.wrap ((size : Int) - 1 - i - 1) = (size : Int) - 1 - (i + 1) := by rw [zas (by omega) (by omega)]; omega
  have y4 : (0 : Int) ≤ 8 * ((size : Int) - 1 - i) := by omega
  have y5 : (i : Int) ≤ (size : Int) - 1 := by omega
  have y6 : (size : Int) - 1 - i = ((size - 1 - i : Nat) : Int) := by omega
  have y7 := zk2 v (size - 1 - i) (by omega)
  obtain ⟨B, hB⟩ : ∃ B, B = UInt8.ofNat (v / 256 ^ (size - 1 - i)) := ⟨_, rfl⟩
  rw [<- y6, <- hB] at y7
  have y8 : ¬ h.next = h'.next := by omega
  have ap := fun c hc => zbw (g := (h'.push (.row [V.int .u8 (B.toNat : Int)])).get) (next := h'.next + 1) (sz := 1) (bytes := 1) (q := h.next) (n := acc.length) (len := acc.length) (m := 1) (cs := acc.map zbF) (xs := [V.int .u8 (B.toNat : Int)]) (x := c) (by simp [y8, ho]) (by simp) (by simp) hc (by simp) (by simp) (by simp) (by omega) (by omega)
  simp [h1, h8, h9, y2, y4, y5, y7]
  rw [ap _ (by simp [zaz])]
  simp [h9, y3]
  refine hK _ _ hlt ⟨acc ++ [B], ?_, ?_, ?_, ?_, ?_, ?_⟩
  ·simp [h1]
  ·exact (hg.push _).set (Nat.le_refl _) _
  ·simp; omega
  ·simp [zbF]
  ·simp; omega
  ·rw [<- hacc, show size - i = (size - 1 - i) + 1 by omega, be, <- hB, show size - (i + 1) = size - 1 - i by omega]; simp
 ·have hi2 : i = size := by omega
  subst hi2
  have y1 : ¬ (i : Int) ≤ (i : Int) - 1 := by omega
  have el : zaC h'.get 1 (.sl h.next acc.length 0 acc.length none) = some (acc.length, acc.map zbF) := by
   rw [zaz]
   split
   ·rename_i h0; have : acc = [] := List.eq_nil_of_length_eq_zero h0
    subst this; rfl
   ·rw [zak ho (by simp)]; simp [List.take_of_length_le]
  simp [h8, h9, y1, el]
  refine ⟨?_, hg⟩
  simpa [be] using hacc

end Go.Am

namespace Go.Am

set_option maxRecDepth 100000
structure Pfx where
 fam : Int
 rd : Nat
 addr : List UInt8
 len : Int
 deriving DecidableEq
def pfxC (p : Pfx) : List V := [.int .i64 p.fam, .int .u64 (p.rd : Nat), .str p.addr, .int .i64 p.len]
structure Nl where
 p : Pfx
 id : Nat
 label : Nat
 deriving DecidableEq
def nlC (n : Nl) : List V := [.int .i64 n.p.fam, .int .u64 (n.p.rd : Nat), .str n.p.addr, .int .i64 n.p.len, .int .u32 (n.id : Nat), .int .u32 (n.label : Nat)]
def zbq (fam : Int) : Nat := if fam = 1 ∨ fam = 3 ∨ fam = 4 then 4 else if fam = 2 ∨ fam = 5 then 16 else 0
def zdo (fam : Int) : Bool := fam == 4 || fam == 5
def zeR (fam : Int) : Bool := decide (3 ≤ fam) && decide (fam ≤ 5)
def zct (b : Nat) (left : Int) : Nat := if left ≤ 0 then 0 else if left < 8 then b / 2 ^ (8 - left.toNat) * 2 ^ (8 - left.toNat) else b
theorem zgH (b : Nat) (left : Int) : zct b left ≤ b := by
 unfold zct
 split
 ·omega
 ·split
  ·exact Nat.div_mul_le_self _ _
  ·omega
def zbb : List UInt8 -> Int -> List UInt8
 | [], _ => []
 | b :: l, n => UInt8.ofNat (zct b.toNat n) :: zbb l (n - 8)
theorem zaY : ∀ (l : List UInt8) (n : Int), (zbb l n).length = l.length
 | [], _ => rfl
 | b :: l, n => by simp [zbb, zaY l]
theorem zej : ∀ (l : List UInt8) (n : Int) (i : Nat) (h : i < l.length), (zbb l n)[i]'(by rw [zaY]; exact h) = UInt8.ofNat (zct (l[i]).toNat (n - 8 * (i : Int)))
 | [], _, i, h => by simp at h
 | b :: l, n, 0, h => by simp [zbb]
 | b :: l, n, i + 1, h => by
  simp only [zbb, List.getElem_cons_succ]
  rw [zej l (n - 8) i (by simpa using h)]
  congr 2
  omega
theorem ziI {b : Nat} {n : Int} (h : 8 ≤ n) : zct b n = b := by unfold zct; rw [if_neg (by omega), if_neg (by omega)]
theorem zgd {b : Nat} {n : Int} (h : n ≤ 0) : zct b n = 0 := by unfold zct; rw [if_pos h]
def mayP (p : Pfx) : Bool := decide (zbq p.fam ≠ 0) && decide (p.addr.length = zbq p.fam) && decide (0 ≤ p.len) && decide (p.len ≤ 8 * (zbq p.fam : Int)) && (decide (p.rd = 0) || zdo p.fam) && decide (zbb p.addr p.len = p.addr)
def mayN (n : Nl) : Bool := mayP n.p && decide (n.label ≤ 1048575) && (decide (n.label = 0) || zeR n.p.fam)
end Go.Am

namespace Go.Am

set_option maxRecDepth 100000
def zkF (fam : Int) : Nat := (if zeR fam = true then 24 else 0) + (if zdo fam = true then 64 else 0)
def tk (k : Nat) (s : List UInt8) : Option (List UInt8 × List UInt8) := if k ≤ s.length then some (s.take k, s.drop k) else none
structure NlOk (fam : Int) (add : Bool) (n : Nl) : Prop where
 may : mayN n = true
 fam : n.p.fam = fam
 id0 : add = false -> n.id = 0
 idb : n.id < 4294967296
 rdb : n.p.rd < 18446744073709551616
theorem NlOk.parts {fam : Int} {add : Bool} {n : Nl} (h : NlOk fam add n) : zbq fam ≠ 0 ∧ n.p.addr.length = zbq fam ∧ 0 ≤ n.p.len ∧ n.p.len ≤ 8 * (zbq fam : Int) ∧ (n.p.rd = 0 ∨ zdo fam = true) ∧ zbb n.p.addr n.p.len = n.p.addr ∧ n.label ≤ 1048575 ∧ (n.label = 0 ∨ zeR fam = true) := by
 have := h.may
 simp only [mayN, mayP, Bool.and_eq_true, Bool.or_eq_true, decide_eq_true_eq, h.fam] at this
 obtain ⟨⟨⟨⟨⟨⟨⟨a, b⟩, c⟩, d⟩, e⟩, f⟩, g⟩, i⟩ := this
 exact ⟨a, b, c, d, e, f, g, i⟩
theorem zlB (fam : Int) : zbq fam ≤ 16 := by unfold zbq; split <;> (try split) <;> omega
end Go.Am

namespace Go.Am
open Go.Proofs

set_option maxRecDepth 100000
theorem zeq {a b : Int} (h : ¬ a = b) : (a == b) = false := by rw [beq_eq_false_iff_ne]; exact h
theorem zjz {h : H} {fam : Int} : Pure Tryz.prog 107 [.int .i64 fam] h (.int .i64 (zbq fam : Nat)) := by
 refine zan Tryz.func107 S.a50c S.a50e rfl (Nat.le_of_ble_eq_true rfl) fun wf => ?_; simp only [S.a50]
 by_cases e1 : fam = 1
 ·subst e1; simp [zbq]
 by_cases e3 : fam = 3
 ·subst e3; simp [zbq]
 by_cases e4 : fam = 4
 ·subst e4; simp [zbq]
 by_cases e2 : fam = 2
 ·subst e2; simp [zbq]
 by_cases e5 : fam = 5
 ·subst e5; simp [zbq]
 simp [zbq, zeq e1, zeq e3, zeq e4, zeq e2, zeq e5, e1, e2, e3, e4, e5]
theorem ziA {h : H} {fam : Int} : Pure Tryz.prog 63 [.int .i64 fam] h (.bool (zdo fam)) := by
 refine zan Tryz.func63 S.a30c S.a30e rfl (Nat.le_of_ble_eq_true rfl) fun wf => ?_; simp only [S.a30]
 simp
 unfold zdo
 cases fam == 4 <;> simp
theorem zi3 {h : H} {fam : Int} : Pure Tryz.prog 143 [.int .i64 fam] h (.bool (zeR fam)) := by
 refine zan Tryz.func143 S.a68c S.a68e rfl (Nat.le_of_ble_eq_true rfl) fun wf => ?_; simp only [S.a68]
 simp
 unfold zeR
 by_cases e : 3 ≤ fam <;> simp [e]
theorem zhO {l : List UInt8} {n : Int} {i : Nat} (h : i < l.length) : zbb (l.take (i + 1)) n = zbb (l.take i) n ++ [UInt8.ofNat (zct (l[i]).toNat (n - 8 * (i : Int)))] := by
 refine List.ext_getElem (by simp [zaY]; omega) fun k h1 h2 => ?_
 rw [zaY, List.length_take] at h1
 rw [zej _ _ _ (by rw [List.length_take]; exact h1), List.getElem_take]
 by_cases hk : k < i
 ·rw [List.getElem_append_left (by rw [zaY, List.length_take]; omega), zej _ _ _ (by rw [List.length_take]; omega), List.getElem_take]
 ·have e : k = i := by omega
  subst e
  rw [List.getElem_append_right (by rw [zaY, List.length_take]; omega)]
  simp
theorem zka : ∀ b : Nat, b < 256 -> ∀ k : Nat, k < 8 -> (BitVec.ofInt 8 (b : Int) &&& BitVec.ofInt 8 (IntKind.u8.wrap (255 * 2 ^ k))).toNat = b / 2 ^ k * 2 ^ k := by decide +kernel
theorem zmZ {n : Nat} (h : n < 256) : IntKind.u8.wrap (n : Int) = (n : Int) := by simp [IntKind.wrap, IntKind.bits, IntKind.signed]; omega
theorem zl4 {b : Nat} {left : Int} (hb : b < 256) (h1 : 0 < left) (h2 : left < 8) : intV .and .u8 (b : Int) (IntKind.u8.wrap (255 * 2 ^ min (8 - left).toNat IntKind.u8.bits)) = some (.int .u8 (zct b left : Nat)) := by
 have e : min (8 - left).toNat IntKind.u8.bits = 8 - left.toNat := by simp [IntKind.bits]; omega
 rw [e]
 show some (V.int .u8 (IntKind.u8.wrap ((BitVec.ofInt 8 (b : Int) &&& BitVec.ofInt 8 (IntKind.u8.wrap (255 * 2 ^ (8 - left.toNat)))).toNat : Int))) = _
 rw [zka b hb _ (by omega)]
 have hm : zct b left = b / 2 ^ (8 - left.toNat) * 2 ^ (8 - left.toNat) := by unfold zct; rw [if_neg (by omega), if_pos h2]
 rw [<- hm, zmZ (by have := zgH b left; omega)]
theorem zim {h : H} {l : List UInt8} {n : Int} (hl : l.length ≤ 1000000) (hn : -1000000 ≤ n ∧ n ≤ 1000000) : Pure Tryz.prog 108 [.str l, .int .i64 n] h (.str (zbb l n)) := by
 refine zan Tryz.func108 S.a51c S.a51e rfl (Nat.le_of_ble_eq_true rfl) fun wf => ?_; simp only [S.a51]
 have hll : l.length ≤ 9223372036854775807 := by omega
 simp [exec, hll]
 refine zaJ (fun i t h' => (t 1 = .int .i64 n ∧ t 5 = .sl h.next l.length 0 l.length none ∧ t 11 = .int .i64 l.length ∧ t 12 = .int .i64 i) ∧ Ge h h' ∧ h.next < h'.next ∧ h'.get h.next = some (.grow 1 ((zbb (l.take i) n ++ l.drop i).map zbF))) l.length ⟨by simp, by simp, by simp, by simp [zbb]⟩ ?_
 rintro i t h' hi ⟨⟨t1, t5, t11, t12⟩, hg, hnx, ho⟩ K hK
 by_cases hlt : i < l.length
 ·have hw := zaL hlt (by omega)
  have w8 : IntKind.i64.wrap (8 * (i : Int)) = 8 * (i : Int) := zas (by omega) (by omega)
  have wl : IntKind.i64.wrap (n - 8 * (i : Int)) = n - 8 * (i : Int) := zas (by omega) (by omega)
  have hlen : (zbb (l.take i) n ++ l.drop i).length = l.length := by simp [zaY]; omega
  have hb : (l[i]).toNat < 256 := (l[i]).toNat_lt
  have hgi : (zbb (l.take i) n ++ l.drop i)[i]? = some l[i] := by
   rw [List.getElem?_append_right (by rw [zaY, List.length_take]; omega), zaY, List.length_take, Nat.min_eq_left (by omega), Nat.sub_self, List.getElem?_drop]
   simp [List.getElem?_eq_getElem hlt]
  have hset : ∀ v : UInt8, UInt8.ofNat (zct (l[i]).toNat (n - 8 * (i : Int))) = v -> (zbb (l.take i) n ++ l.drop i).set i v = zbb (l.take (i + 1)) n ++ l.drop (i + 1) := fun v hv => by
   rw [zhO hlt, <- hv, List.set_append_right _ _ (by rw [zaY, List.length_take]; omega), zaY, List.length_take, Nat.min_eq_left (by omega), Nat.sub_self, List.drop_eq_getElem_cons hlt, List.set_cons_zero]
   simp
  obtain ⟨cur, hcur⟩ : ∃ cur, cur = zbb (l.take i) n ++ l.drop i := ⟨_, rfl⟩
  rw [<- hcur] at ho hlen hgi hset
  have hi1 : i + 1 ≤ l.length := by omega
  have cc : zaf h'.get h.next l.length = some (cur.map zbF) := by rw [zak ho (by simp [hlen])]; rfl
  have hcg : cur[i]'(by omega) = l[i] := by rw [List.getElem?_eq_getElem (by omega)] at hgi; exact Option.some.inj hgi
  have sm : ∀ b : UInt8, List.take i (cur.map zbF) ++ V.int .u8 (b.toNat : Int) :: List.drop (i + 1) (cur.map zbF) = (cur.set i b).map zbF := fun b => by
   rw [List.map_set, List.set_eq_take_append_cons_drop, if_pos (by simp; omega)]; rfl
  have fin : ∀ b : UInt8, UInt8.ofNat (zct (l[i]).toNat (n - 8 * (i : Int))) = b -> ∀ t', (t' 1 = .int .i64 n ∧ t' 5 = .sl h.next l.length 0 l.length none ∧ t' 11 = .int .i64 l.length ∧ t' 12 = .int .i64 ((i + 1 : Nat) : Int)) -> K t' (h'.set h.next (.grow 1 ((cur.set i b).map zbF))) := fun b hb t' ht =>
   hK _ _ hlt ⟨ht, hg.set (Nat.le_refl _) _, by simpa using hnx, by simp [hset b hb]⟩
  clear hcur
  simp [t1, t11, t12, hlt, w8, wl]
  by_cases hle : n - 8 * (i : Int) ≤ 0
  ·have f := fin 0 (by rw [zgd hle]; rfl)
   have s0 := sm 0
   simp at s0
   simp [hle, t5, t12, hlt, ho, hlen, hi1, s0, hw]
   rw [List.map_set] at f
   refine f _ ?_
   simp [t1, t5, t11]
  ·by_cases h8 : n - 8 * (i : Int) < 8
   ·have w88 : IntKind.i64.wrap (8 - (n - 8 * (i : Int))) = 8 - (n - 8 * (i : Int)) := zas (by omega) (by omega)
    have mo := zl4 hb (left := n - 8 * (i : Int)) (by omega) h8
    have hmb := zgH (l[i]).toNat (n - 8 * (i : Int))
    have s1 := sm (UInt8.ofNat (zct (l[i]).toNat (n - 8 * (i : Int))))
    rw [show ((UInt8.ofNat (zct (l[i]).toNat (n - 8 * (i : Int)))).toNat : Int) = (zct (l[i]).toNat (n - 8 * (i : Int)) : Nat) by simp; omega] at s1
    have f := fin _ rfl
    have y0 : (0 : Int) ≤ 8 - (n - 8 * (i : Int)) := by omega
    have sh : zcW .shl .u8 255 (8 - (n - 8 * (i : Int))) = some (.int .u8 (IntKind.u8.wrap (255 * 2 ^ min (8 - (n - 8 * (i : Int))).toNat IntKind.u8.bits))) := by
     unfold zcW; rw [if_neg (by omega)]
    simp [hle, h8]
    refine zcD ?_
    simp [t5, t12, hlt, ho, cc, hlen, hcg, zbF, w88, sh, mo, hi1, hw]
    rw [s1]
    refine f _ ?_
    simp [t1, t5, t11]
   ·simp [hle, h8, t12, hw]
    have e0 : cur.set i l[i] = cur := by rw [<- hcg, List.set_getElem_self]
    refine hK _ _ hlt ⟨by simp [t1, t5, t11], hg, hnx, ?_⟩
    rw [ho, <- hset l[i] (by rw [ziI (by omega)]; simp), e0]
 ·have hi2 : i = l.length := by omega
  subst hi2
  have hle : l.take l.length = l := List.take_of_length_le (Nat.le_refl _)
  have el : zaC h'.get 1 (.sl h.next l.length 0 l.length none) = some (l.length, (zbb l n).map zbF) := by
   rw [zaz]
   split
   ·rename_i h0
    have : l = [] := List.eq_nil_of_length_eq_zero h0
    subst this; rfl
   ·rw [zak ho (by simp [zaY])]; simp [List.take_of_length_le, zaY]
  simp [t5, t11, t12, el]
  exact hg
theorem zeB {h : H} {p : Pfx} : Pure Tryz.prog 67 [.agg (pfxC p)] h (.int .i64 (if mayP p = true then 0 else 2)) := by
 refine zan Tryz.func67 S.a31c S.a31e rfl (Nat.le_of_ble_eq_true rfl) fun wf => ?_; simp only [S.a31]
 simp only [pfxC]
 simp
 refine zjz _ ?_
 simp
 have sl := zlB p.fam
 have c1 : zaf (h.push (.row (pfxC p))).get h.next 4 = some (pfxC p) := by rw [zak (by simp; rfl) (by simp [pfxC])]; rfl
 simp only [pfxC] at c1
 refine zb3 (wf.push _) ?_
 by_cases e0 : zbq p.fam = 0
 ·simp [e0, mayP]
 have b0 : (((zbq p.fam : Nat) : Int) == 0) = false := zeq (by omega)
 have ef : ¬ p.fam = 0 := by intro e; apply e0; rw [e]; decide
 have bf := zeq ef
 have eqz : eqV (TS.st [(0, 1, false, TS.int), (1, 1, false, TS.int), (2, 1, false, TS.str), (3, 1, false, TS.int)]) (.agg [.int .i64 p.fam, .int .u64 (p.rd : Nat), .str p.addr, .int .i64 p.len]) (.agg [.int .i64 0, .int .u64 0, .str [], .int .i64 0]) = some false := by
  simp [eqV, eqFs, bf]
 have ms0 : (decide (zbq p.fam ≠ 0)) = true := by simpa using e0
 by_cases e1 : p.addr.length = zbq p.fam
 ·have b1 : ((p.addr.length : Int) != ((zbq p.fam : Nat) : Int)) = false := by rw [e1]; simp
  by_cases e2 : p.len < 0
  ·have m : mayP p = false := by
    have : ¬ 0 ≤ p.len := by omega
    simp [mayP, this]
   simp [b0, c1, eqz, b1, e2, m]
  ·have e2' : 0 ≤ p.len := by omega
   have w8 : IntKind.i64.wrap (8 * ((zbq p.fam : Nat) : Int)) = 8 * ((zbq p.fam : Nat) : Int) := zas (by omega) (by omega)
   by_cases e3 : 8 * ((zbq p.fam : Nat) : Int) < p.len
   ·have m : mayP p = false := by
     have : ¬ p.len ≤ 8 * ((zbq p.fam : Nat) : Int) := by omega
     simp [mayP, this]
    simp [b0, c1, eqz, b1, e2, w8, e3, m]
   ·have e3' : p.len ≤ 8 * ((zbq p.fam : Nat) : Int) := by omega
    have fin : ∀ (hrd : (decide (p.rd = 0) || zdo p.fam) = true), mayP p = decide (zbb p.addr p.len = p.addr) := fun hrd => by
     simp only [mayP, ms0, e1, e2', e3', hrd, decide_true, Bool.true_and]
    have last : ∀ hrd : (decide (p.rd = 0) || zdo p.fam) = true, (if mayP p = true then (0 : Int) else 2) = if (zbb p.addr p.len != p.addr) = true then 2 else 0 := fun hrd => by
     rw [fin hrd]
     by_cases hm : zbb p.addr p.len = p.addr
     ·simp [hm]
     ·have : (zbb p.addr p.len != p.addr) = true := by simpa using hm
      rw [this]; simp [hm]
    have mk : ∀ h2, Ge (h.push (.row [.int .i64 p.fam, .int .u64 (p.rd : Nat), .str p.addr, .int .i64 p.len])) h2 -> Pure Tryz.prog 108 [.str p.addr, .int .i64 p.len] h2 (.str (zbb p.addr p.len)) := fun h2 _ => zim (by omega) (by omega)
    by_cases e4 : p.rd = 0
    ·have b4 : (((p.rd : Nat) : Int) != 0) = false := by rw [e4]; rfl
     rw [last (by simp [e4])]
     simp [b0, c1, eqz, b1, e2, w8, e3, b4]
     refine zcP (v := .str (zbb p.addr p.len)) rfl mk ?_
     simp [c1]
     by_cases hq : zbb p.addr p.len = p.addr
     ·have hb : (zbb p.addr p.len == p.addr) = true := by simpa using hq
      simp [hq]
     ·have hb : (zbb p.addr p.len == p.addr) = false := by simpa using hq
      simp [hb, hq]
    ·have b4 : (((p.rd : Nat) : Int) != 0) = true := by
      have : ¬ ((p.rd : Nat) : Int) = 0 := by omega
      simpa using this
     simp [b0, c1, eqz, b1, e2, w8, e3, b4]
     refine zcP (v := .bool (zdo p.fam)) rfl (fun h2 _ => ziA) ?_
     cases ha : zdo p.fam with
     | false =>
      have m : mayP p = false := by simp [mayP, e4, ha]
      simp [m]
     | true =>
      rw [last (by simp [ha])]
      simp
      refine zcP (v := .str (zbb p.addr p.len)) rfl mk ?_
      simp [c1]
      by_cases hq : zbb p.addr p.len = p.addr
      ·have hb : (zbb p.addr p.len == p.addr) = true := by simpa using hq
       simp [hq]
      ·have hb : (zbb p.addr p.len == p.addr) = false := by simpa using hq
       simp [hb, hq]
 ·have b1 : ((p.addr.length : Int) != ((zbq p.fam : Nat) : Int)) = true := by
   have : ¬ (p.addr.length : Int) = ((zbq p.fam : Nat) : Int) := by omega
   simpa using this
  have m : mayP p = false := by simp [mayP, e1]
  simp [b0, c1, eqz, b1, m]
theorem zi0 {h : H} {n : Nl} : Pure Tryz.prog 113 [.agg (nlC n)] h (.int .i64 (if mayN n = true then 0 else 2)) := by
 refine zan Tryz.func113 S.a56c S.a56e rfl (Nat.le_of_ble_eq_true rfl) fun wf => ?_; simp only [S.a56]
 simp only [nlC]
 simp
 have c1 : zaf (h.push (.row (nlC n))).get h.next 6 = some (nlC n) := by rw [zak (by simp; rfl) (by simp [nlC])]; rfl
 simp only [nlC] at c1
 refine zeB (p := n.p) _ ?_
 cases hp : mayP n.p with
 | false =>
  have m : mayN n = false := by simp [mayN, hp]
  simp [m]
 | true =>
  by_cases e1 : (1048575 : Int) < (n.label : Nat)
  ·have m : mayN n = false := by
    have : ¬ n.label ≤ 1048575 := by omega
    simp [mayN, this]
   simp [c1, e1, m]
  ·have e1' : n.label ≤ 1048575 := by omega
   by_cases e2 : (0 : Int) < (n.label : Nat)
   ·have e2' : ¬ n.label = 0 := by omega
    have e2n : 0 < n.label := by omega
    simp [c1, e1, e2n]
    refine zi3 _ ?_
    cases hl : zeR n.p.fam <;> simp [mayN, hp, hl, e1', e2']
   ·have e2' : n.label = 0 := by omega
    have m : mayN n = true := by simp [mayN, hp, e2']
    have e2n : ¬ 0 < n.label := by omega
    simp [c1, e1, e2n, m]
end Go.Am

namespace Go.Am

section
variable {α : Type} {c : α -> α -> Int}
def adjB (c : α -> α -> Int) : List α -> Bool
 | a :: b :: l => decide (c a b < 0) && adjB c (b :: l)
 | _ => true
theorem ze9 : ∀ l : List α, adjB c l = true ↔ ∀ k (h : k + 1 < l.length), c l[k] l[k + 1] < 0
 | [] => by simp [adjB]
 | [a] => by simp [adjB]
 | a :: b :: l => by
  rw [adjB, Bool.and_eq_true, decide_eq_true_eq, ze9 (b :: l)]
  constructor
  ·rintro ⟨h1, h2⟩ k hk
   cases k with
   | zero => exact h1
   | succ k => exact h2 k (by simpa using hk)
  ·intro h
   exact ⟨h 0 (by simp), fun k hk => h (k + 1) (by simpa using hk)⟩
theorem zda (k : Nat) (g : α -> List UInt8) (hg : ∀ x, (g x).length = k) : ∀ l : List α, (l.flatMap g).length = l.length * k
 | [] => by simp
 | x :: l => by rw [List.flatMap_cons, List.length_append, hg, zda k g hg l, List.length_cons, Nat.add_mul]; omega
theorem zcw (g : α -> List UInt8) (l : List α) {i : Nat} (h : i < l.length) : (l.take (i + 1)).flatMap g = (l.take i).flatMap g ++ g l[i] := by
 rw [List.take_add_one, List.getElem?_eq_getElem h, List.flatMap_append]
 simp only [Option.toList_some, List.flatMap_cons, List.flatMap_nil, List.append_nil]
variable [DecidableEq α]
end

abbrev Lg := Nat × Nat × Nat
def cP (x : Nat) : List V := [.int .u32 x]
def cX (x : Nat) : List V := [.int .u64 x]
def cL (x : Lg) : List V := [.int .u32 x.1, .int .u32 x.2.1, .int .u32 x.2.2]
def oN (a b : Nat) : Int := cmpI a b
def oL (a b : Lg) : Int := orI (cmpI a.1 b.1) (orI (cmpI a.2.1 b.2.1) (cmpI a.2.2 b.2.2))
def bP (x : Nat) : List UInt8 := be 4 x
def bX (x : Nat) : List UInt8 := be 4 (x / 4294967296) ++ be 4 x
def fX (s : List UInt8) : Nat := val (s.take 4) * 4294967296 + val (s.drop 4)
theorem znx (x : Nat) : (bP x).length = 4 := zil _ _
theorem znY (x : Nat) : (bX x).length = 8 := by simp [bX, zil]
end Go.Am

namespace Go.Am
open Go.Proofs

set_option maxRecDepth 100000
theorem zgR {h : H} {a : Int} : Pure Tryz.prog 153 [.int .u32 a] h (.bool false) := by
 refine zan Tryz.func153 S.a75c S.a75e rfl (Nat.le_of_ble_eq_true rfl) fun wf => ?_; simp only [S.a75]
 simp
theorem zgK {h : H} {a : Int} : Pure Tryz.prog 131 [.int .u64 a] h (.bool false) := by
 refine zan Tryz.func131 S.a66c S.a66e rfl (Nat.le_of_ble_eq_true rfl) fun wf => ?_; simp only [S.a66]
 simp
theorem zhj {h : H} {a b : Int} : Pure Tryz.prog 122 [.int .u32 a, .int .u32 b] h (.int .i64 (cmpI a b)) := by
 refine zan Tryz.func122 S.a62c S.a62e rfl (Nat.le_of_ble_eq_true rfl) fun wf => ?_; simp only [S.a62]
 simp
 refine zgR _ ?_
 simp
 refine zgR _ ?_
 simp
 by_cases h1 : a < b
 ·simp [h1, cmpI]
 ·by_cases h2 : b < a <;> simp [h1, h2, cmpI]
theorem zhd {h : H} {a b : Int} : Pure Tryz.prog 110 [.int .u64 a, .int .u64 b] h (.int .i64 (cmpI a b)) := by
 refine zan Tryz.func110 S.a53c S.a53e rfl (Nat.le_of_ble_eq_true rfl) fun wf => ?_; simp only [S.a53]
 simp
 refine zgK _ ?_
 simp
 refine zgK _ ?_
 simp
 by_cases h1 : a < b
 ·simp [h1, cmpI]
 ·by_cases h2 : b < a <;> simp [h1, h2, cmpI]
theorem znz {h : H} {q : Nat} {a b c : Int} (hq : h.get q = some (.row [.int .i64 a, .int .i64 b, .int .i64 c])) : Pure Tryz.prog 120 [.sl q 3 0 3 (some 3)] h (.int .i64 (orI a (orI b c))) := by
 refine zan Tryz.func120 S.a61c S.a61e rfl (Nat.le_of_ble_eq_true rfl) fun wf => ?_; simp only [S.a61]
 have c1 : zaf h.get q 3 = some [.int .i64 a, .int .i64 b, .int .i64 c] := by rw [zak hq (by rfl)]; rfl
 simp
 refine zaJ (fun i t h' => (t 3 = .int .i64 0 ∧ t 6 = .sl q 3 0 3 (some 3) ∧ t 7 = .int .i64 3 ∧ t 8 = .int .i64 (i : Nat)) ∧ h' = h ∧ (0 < i -> a = 0) ∧ (1 < i -> b = 0) ∧ (2 < i -> c = 0)) 3 ⟨by simp, rfl, by omega, by omega, by omega⟩ ?_
 rintro i t h' hi ⟨⟨t3, t6, t7, t8⟩, rfl, k1, k2, k3⟩ K hK
 have w1 : IntKind.i64.wrap 1 = 1 := by decide
 have w2 : IntKind.i64.wrap 2 = 2 := by decide
 have w3 : IntKind.i64.wrap 3 = 3 := by decide
 rcases (by omega : i = 0 ∨ i = 1 ∨ i = 2 ∨ i = 3) with rfl | rfl | rfl | rfl
 ·by_cases hz : a = 0
  ·simp [t3, t6, t7, t8, c1, hz, w1]
   exact hK _ _ (by omega) ⟨by simp [t3, t6, t7], rfl, fun _ => hz, by omega, by omega⟩
  ·have hb : (a != 0) = true := by simpa using hz
   simp [t3, t6, t7, t8, c1, hb, zkO hz]
 ·have z1 := k1 (by omega)
  by_cases hz : b = 0
  ·simp [t3, t6, t7, t8, c1, hz, w2]
   exact hK _ _ (by omega) ⟨by simp [t3, t6, t7], rfl, fun _ => z1, fun _ => hz, by omega⟩
  ·have hb : (b != 0) = true := by simpa using hz
   simp [t3, t6, t7, t8, c1, hb, z1, zfs, zkO hz]
 ·have z1 := k1 (by omega)
  have z2 := k2 (by omega)
  by_cases hz : c = 0
  ·simp [t3, t6, t7, t8, c1, hz, w3]
   exact hK _ _ (by omega) ⟨by simp [t3, t6, t7], rfl, fun _ => z1, fun _ => z2, fun _ => hz⟩
  ·have hb : (c != 0) = true := by simpa using hz
   simp [t3, t6, t7, t8, c1, hb, z1, z2, zfs]
 ·have z1 := k1 (by omega)
  have z2 := k2 (by omega)
  have z3 := k3 (by omega)
  simp [t3, t7, t8, z1, z2, z3, zfs]
def zfk : List V -> Option V
 | [.int .u32 a, .int .u32 b] => some (.int .i64 (cmpI a b))
 | _ => none
theorem ziy : ∀ p ∈ [(122, zfk)], ∀ vals v, p.2 vals = some v -> ∀ h, Acalls Tryz.prog p.1 vals h fun u h' => u = v ∧ h' = h := by
 intro p hp vals v e h
 simp only [List.mem_cons, List.not_mem_nil, or_false] at hp
 subst hp
 simp only [zfk] at e
 split at e
 ·cases e; exact zhj _ ⟨rfl, rfl⟩
 ·cases e
theorem be4 (n : Nat) : be 4 n = [UInt8.ofNat (n / 16777216), UInt8.ofNat (n / 65536), UInt8.ofNat (n / 256), UInt8.ofNat n] := by simp [be]
theorem fd32 (n : Nat) : ((n : Nat) : Int).fdiv (2 ^ min 32 IntKind.u64.bits) = (n : Int) / 4294967296 := Int.fdiv_eq_ediv_of_nonneg _ (by decide)
theorem zdl {a b : Nat} (h : a % 256 = b % 256) : UInt8.ofNat a = UInt8.ofNat b := UInt8.toNat_inj.1 (by simpa using h)
theorem zly (n : Nat) : be 4 (n % 4294967296) = be 4 n := by
 simp only [be4, List.cons.injEq, and_true]
 exact ⟨zdl (by omega), zdl (by omega), zdl (by omega), zdl (by omega)⟩
theorem zl5 {h : H} {v : V} {s : List UInt8} {l : List Nat} (hs : Sls h.get 1 v (l.map cP)) (hf : ∀ x ∈ l, x < 4294967296) (hl : s.length + l.length * 4 ≤ 100000) : Pure Tryz.prog 112 [.str s, v] h (.str (s ++ l.flatMap bP)) := by
 refine zan Tryz.func112 S.a55c S.a55e rfl (Nat.le_of_ble_eq_true rfl) fun wf => ?_; simp only [S.a55]
 have hlen := hs.len
 simp at hlen
 simp [hlen]
 refine zaJ (fun i t h' => (t 0 = .str (s ++ (l.take i).flatMap bP) ∧ t 7 = v ∧ t 8 = .int .i64 l.length ∧ t 9 = .int .i64 (i : Nat)) ∧ h' = h) l.length ⟨by simp, rfl⟩ ?_
 rintro i t h' hi ⟨⟨t0, t7, t8, t9⟩, rfl⟩ K hK
 by_cases hlt : i < l.length
 ·obtain ⟨p, qq, o, cs, e1, e2, e3⟩ := hs.at1 (f := fun x : Nat => V.int .u32 x) hlt
  have hw := zaL hlt (by omega)
  have hx := hf _ (List.getElem_mem hlt)
  have w64 : IntKind.u64.wrap ((l[i] : Nat) : Int) = (l[i] : Nat) := znD (by omega)
  have hfl : ((l.take i).flatMap bP).length = i * 4 := by rw [zda 4 bP znx]; simp; omega
  simp [t0, t7, t8, t9, hlt, e1, e2, e3, w64]
  refine zm8 (size := 4) (by omega) (by omega) (by omega) (by rw [List.length_append, hfl]; omega) _ ?_
  simp [t9, hw]
  refine hK _ _ hlt ⟨by simp [t7, t8, zcw bP l hlt, bP], rfl⟩
 ·have : i = l.length := by omega
  subst this
  simp [t0, t8, t9]
end Go.Am

namespace Go.Am
open Go.Proofs

set_option maxRecDepth 100000
end Go.Am

namespace Go.Am
open Go.Proofs

set_option maxRecDepth 100000
def encR {α : Type} (c : α -> α -> Int) (b : α -> List UInt8) (l : List α) : V := if l.length ≤ 64 ∧ adjB c l = true then .tup [.str (l.flatMap b), .int .i64 0] else .tup [.str [], .int .i64 2]
theorem zg1 {α : Type} {c : α -> α -> Int} {b : α -> List UInt8} {l : List α} (h1 : l.length ≤ 64) (h2 : adjB c l = true) : encR c b l = .tup [.str (l.flatMap b), .int .i64 0] := if_pos ⟨h1, h2⟩
theorem zig {α : Type} {c : α -> α -> Int} {b : α -> List UInt8} {l : List α} (h : 64 < l.length) : encR c b l = .tup [.str [], .int .i64 2] := if_neg (by omega)
theorem zlF {α : Type} {c : α -> α -> Int} {b : α -> List UInt8} {l : List α} (h : adjB c l = false) : encR c b l = .tup [.str [], .int .i64 2] := if_neg (by simp [h])
theorem zgZ {α : Type} (c : α -> α -> Int) (b : α -> List UInt8) (l : List α) : (encR c b l).ids = [] := by unfold encR; split <;> rfl
theorem zb2 {α : Type} {c : α -> α -> Int} {l : List α} {i : Nat} (h0 : 0 < i) (h : i < l.length) (hc : ¬ c l[i - 1] l[i] < 0) : adjB c l = false := by
 cases e : adjB c l with
 | false => rfl
 | true =>
  have := (ze9 l).1 e (i - 1) (by omega)
  exact absurd (by simpa [show i - 1 + 1 = i by omega] using this) hc
theorem zl6 {g : Nat -> Option O} {k : Nat} {cs : List V} {ca : Option Nat} (hg : g k = some (.row cs)) (hb : cs.length < 9223372036854775808) (hca : ca = some cs.length) : Sls g 1 (.sl k cs.length 0 cs.length ca) (cs.map fun x => [x]) := by
 subst hca
 have hfl : (cs.map fun x => [x]).flatten = cs := by
  clear hg hb
  induction cs with
  | nil => rfl
  | cons a l ih => simp [ih]
 refine ⟨.inr ⟨_, _, _, _, by rw [List.length_map]⟩, by simp, ?_, by simpa using hb⟩
 rw [zaz]
 split
 ·rename_i h0
  have : cs = [] := List.eq_nil_of_length_eq_zero h0
  subst this; rfl
 ·rw [zak hg (by simp [O.len, O.cells]), hfl]
  simp [O.cells]
theorem zb6 {α : Type} {c : α -> α -> Int} {l : List α} {i : Nat} (ht : adjB c (l.take i) = true) (h : i < l.length) (hc : 0 < i -> c l[i - 1] l[i] < 0) : adjB c (l.take (i + 1)) = true := by
 rw [ze9] at ht ⊢
 intro k hk
 simp only [List.length_take] at hk
 simp only [List.getElem_take]
 by_cases hki : k + 1 < i
 ·have := ht k (by simp; omega)
  simpa using this
 ·have : k + 1 = i := by omega
  subst this
  simpa using hc (by omega)

theorem zhX {h : H} {s : List UInt8} {x : Nat} (hx : x < 18446744073709551616) (hs : s.length ≤ 64 * 12) : Pure Tryz.prog 111 [.str s, .int .u64 (x : Nat)] h (.str (s ++ bX x)) := by
 refine zan Tryz.func111 S.a54c S.a54e rfl (Nat.le_of_ble_eq_true rfl) fun wf => ?_; simp only [S.a54]
 obtain ⟨hi, hhi⟩ : ∃ hi, hi = x / 4294967296 := ⟨_, rfl⟩
 obtain ⟨lo, hlo⟩ : ∃ lo, lo = x % 4294967296 := ⟨_, rfl⟩
 have wu1 : IntKind.u32.wrap ((x : Int) / 4294967296) = (hi : Int) := by rw [hhi]; simp [IntKind.wrap, IntKind.bits, IntKind.signed]; omega
 have wu2 : IntKind.u32.wrap (x : Int) = (lo : Int) := by rw [hlo]; simp [IntKind.wrap, IntKind.bits, IntKind.signed]
 have r2 : zaB 2 [V.int .u32 0] = [.int .u32 0, .int .u32 0] := rfl
 simp [fd32, wu1, wu2, r2]
 refine zl5 (l := [hi, lo]) (zl6 (k := h.next) (cs := [.int .u32 (hi : Nat), .int .u32 (lo : Nat)]) (by simp) (by simp) rfl) (by intro y hy; simp at hy; omega) (by simp; omega) _ ?_
 simp [bX, bP, <- hhi, hlo, zly]
theorem zjv {h : H} {v : V} {l : List Nat} (hs : Sls h.get 1 v (l.map cX)) (hf : ∀ x ∈ l, x < 18446744073709551616) (hl : l.length ≤ 1000) : Pure Tryz.prog 109 [v, .func (.func 110) [] [], .func (.func 111) [] []] h (encR oN bX l) := by
 refine zan Tryz.func109 S.a52c S.a52e (by exact zgZ _ _ _) (Nat.le_of_ble_eq_true rfl) fun wf => ?_; simp only [S.a52]
 have hlen := hs.len
 simp at hlen
 by_cases h64 : 64 < l.length
 ·have h64' : (64 : Int) < l.length := by omega
  simp [hlen, h64', zig h64]
 ·have h64' : ¬ (64 : Int) < l.length := by omega
  simp [hlen, h64']
  refine zaJ (fun i t h' => (t 0 = v ∧ t 1 = .func (.func 110) [] [] ∧ t 2 = .func (.func 111) [] [] ∧ t 8 = .str ((l.take i).flatMap bX) ∧ t 14 = v ∧ t 15 = .int .i64 l.length ∧ t 16 = .int .i64 (i : Nat)) ∧ Ge h h' ∧ h'.WF ∧ adjB oN (l.take i) = true) l.length ⟨by simp, Ge.refl _, wf, by simp [adjB]⟩ ?_
  rintro i t h' hi ⟨⟨t0, t1, t2, t8, t14, t15, t16⟩, gb, wb, ha⟩ K hK
  by_cases hlt : i < l.length
  ·have hw := zaL hlt (by omega)
   have w1 : IntKind.i64.wrap 1 = 1 := by decide
   have hfl : ((l.take i).flatMap bX).length ≤ 64 * 12 := by rw [zda _ bX znY]; simp; omega
   obtain ⟨p, qq, o, cs, e1, pl, e2, e3⟩ := hs.at1G (f := fun x : Nat => V.int .u64 x) wf hlt
   have e2' := e2 h' gb
   simp [t14, t15, t16, hlt, e1, e2', e3]
   by_cases h0 : i = 0
   ·subst h0
    simp [t2, t8]
    refine zhX (s := []) (x := l[0]) (hf _ (List.getElem_mem _)) (by simp) _ ?_
    simp [t16]
    refine hK _ _ hlt ⟨?_, gb, wb, zb6 ha hlt (by omega)⟩
    have := zcw bX l hlt
    simp [t0, t1, t2, t14, t15]
    simpa [w1] using this.symm
   ·obtain ⟨p', qq', o', cs', f1, pl', f2, f3⟩ := hs.at1G (f := fun x : Nat => V.int .u64 x) wf (show i - 1 < l.length by omega)
    have f2' := f2 h' gb
    have wm : IntKind.i64.wrap ((i : Int) - 1) = ((i - 1 : Nat) : Int) := by rw [zas (by omega) (by omega)]; omega
    have h0' : 0 < i := by omega
    simp [h0', t0, t1, wm, f1, f2', f3]
    refine zhd _ ?_
    by_cases hc : cmpI (l[i - 1] : Nat) (l[i] : Nat) < 0
    ·have hc' : ¬ 0 ≤ cmpI (l[i - 1] : Nat) (l[i] : Nat) := by omega
     simp [hc', t2, t8]
     refine zhX (x := l[i]) (hf _ (List.getElem_mem _)) (by omega) _ ?_
     simp [t16, hw]
     refine hK _ _ hlt ⟨?_, gb, wb, zb6 ha hlt (fun _ => hc)⟩
     simp [t0, t1, t2, t14, t15, zcw bX l hlt]
    ·have hc' : 0 ≤ cmpI (l[i - 1] : Nat) (l[i] : Nat) := by omega
     simp [hc']
     rw [zlF (zb2 h0' hlt hc)]
     exact ⟨rfl, gb⟩
  ·have : i = l.length := by omega
   subst this
   simp [t8, t15, t16]
   rw [zg1 (by omega) (by simpa using ha)]
   exact ⟨rfl, gb⟩
theorem zjN {h : H} {v : V} {l : List Nat} (hs : Sls h.get 1 v (l.map cX)) (hf : ∀ x ∈ l, x < 18446744073709551616) (hl : l.length ≤ 1000) : Pure Tryz.prog 73 [v] h (encR oN bX l) := by
 refine zan Tryz.func73 S.a34c S.a34e (by exact zgZ _ _ _) (Nat.le_of_ble_eq_true rfl) fun wf => ?_; simp only [S.a34]
 simp
 refine zjv hs hf hl _ ?_
 unfold encR
 split <;> simp

end Go.Am

namespace Go.Am
open Go.Proofs

set_option maxRecDepth 100000
section
variable {α : Type} {sz : Nat} {c : α -> List V} (hc : ∀ x, (c x).length = sz)
include hc
end
theorem zkw {α : Type} {g : Nat -> Option O} {sz : Nat} {v : V} {f : α -> List V} {l : List α} (n : Nat) (hs : Sls g sz v (l.map f)) (hc : zce v) : ∃ v' k, ((if (n : Int) < (l.length : Int) then (n : Int) else (l.length : Int)) = ((k : Nat) : Int)) ∧ zav sz none (some (.int .i64 (k : Int))) none v = some v' ∧ Sls g sz v' ((l.take n).map f) ∧ zce v' := by
 obtain ⟨k, hk⟩ : ∃ k, k = min l.length n := ⟨_, rfl⟩
 have hk2 : (if (n : Int) < (l.length : Int) then (n : Int) else (l.length : Int)) = (k : Int) := by rw [hk]; split <;> omega
 obtain ⟨v', e1, s1, c1⟩ := hs.take hc (k := k) (by simp; omega) .i64
 have hlt : (l.map f).take k = (l.take n).map f := by
  rw [<- List.map_take]; congr 1
  rw [hk]
  by_cases h60 : l.length ≤ n
  ·rw [Nat.min_eq_left h60, List.take_of_length_le (Nat.le_refl _), List.take_of_length_le h60]
  ·rw [Nat.min_eq_right (by omega)]
 rw [hlt] at s1
 exact ⟨v', k, hk2, e1, s1, c1⟩
end Go.Am

namespace Go.Am
open Go.Proofs

set_option maxRecDepth 100000
end Go.Am

namespace Go.Am
open Go.Proofs

set_option maxRecDepth 100000

end Go.Am

namespace Go.Am
open Go.Proofs

set_option maxRecDepth 100000
def setL (cs : List UInt8) : List V := (List.range 256).map fun c => .bool (decide (UInt8.ofNat c ∈ cs))
theorem zbv (cs : List UInt8) : (setL cs).length = 256 := by simp [setL]
theorem zd8 (cs : List UInt8) : (setL cs).all V.one = true := by simp [setL]
theorem ziL (cs : List UInt8) : (setL cs).take 256 = setL cs := List.take_of_length_le (by rw [zbv]; omega)
theorem zio (cs : List UInt8) : ∀ x ∈ setL cs, x.one = true := fun x hx => List.all_eq_true.1 (zd8 cs) x hx
theorem zjd (cs : List UInt8) : V.idss (setL cs) = [] := by
 unfold setL
 induction List.range 256 with
 | nil => rfl
 | cons a l ih => simp [V.idss, V.ids, ih]
theorem zdF (cs : List UInt8) {c : Nat} (h : c < 256) : (setL cs)[c]? = some (.bool (decide (UInt8.ofNat c ∈ cs))) := by
 simp [setL, h]
theorem zgN : [V.bool false, V.bool false, V.bool false, V.bool false, V.bool false, V.bool false, V.bool false, V.bool false, V.bool false, V.bool false, V.bool false, V.bool false, V.bool false, V.bool false, V.bool false, V.bool false, V.bool false, V.bool false, V.bool false, V.bool false, V.bool false, V.bool false, V.bool false, V.bool false, V.bool false, V.bool false, V.bool false, V.bool false, V.bool false, V.bool false, V.bool false, V.bool false, V.bool false, V.bool false, V.bool false, V.bool false, V.bool false, V.bool false, V.bool false, V.bool false, V.bool false, V.bool false, V.bool false, V.bool false, V.bool false, V.bool false, V.bool false, V.bool false, V.bool false, V.bool false, V.bool false, V.bool false, V.bool false, V.bool false, V.bool false, V.bool false, V.bool false, V.bool false, V.bool false, V.bool false, V.bool false, V.bool false, V.bool false, V.bool false, V.bool false, V.bool false, V.bool false, V.bool false, V.bool false, V.bool false, V.bool false, V.bool false, V.bool false, V.bool false, V.bool false, V.bool false, V.bool false, V.bool false, V.bool false, V.bool false, V.bool false, V.bool false, V.bool false, V.bool false, V.bool false, V.bool false, V.bool false, V.bool false, V.bool false, V.bool false, V.bool false, V.bool false, V.bool false, V.bool false, V.bool false, V.bool false, V.bool false, V.bool false, V.bool false, V.bool false, V.bool false, V.bool false, V.bool false, V.bool false, V.bool false, V.bool false, V.bool false, V.bool false, V.bool false, V.bool false, V.bool false, V.bool false, V.bool false, V.bool false, V.bool false, V.bool false, V.bool false, V.bool false, V.bool false, V.bool false, V.bool false, V.bool false, V.bool false, V.bool false, V.bool false, V.bool false, V.bool false, V.bool false, V.bool false, V.bool false, V.bool false, V.bool false, V.bool false, V.bool false, V.bool false, V.bool false, V.bool false, V.bool false, V.bool false, V.bool false, V.bool false, V.bool false, V.bool false, V.bool false, V.bool false, V.bool false, V.bool false, V.bool false, V.bool false, V.bool false, V.bool false, V.bool false, V.bool false, V.bool false, V.bool false, V.bool false, V.bool false, V.bool false, V.bool false, V.bool false, V.bool false, V.bool false, V.bool false, V.bool false, V.bool false, V.bool false, V.bool false, V.bool false, V.bool false, V.bool false, V.bool false, V.bool false, V.bool false, V.bool false, V.bool false, V.bool false, V.bool false, V.bool false, V.bool false, V.bool false, V.bool false, V.bool false, V.bool false, V.bool false, V.bool false, V.bool false, V.bool false, V.bool false, V.bool false, V.bool false, V.bool false, V.bool false, V.bool false, V.bool false, V.bool false, V.bool false, V.bool false, V.bool false, V.bool false, V.bool false, V.bool false, V.bool false, V.bool false, V.bool false, V.bool false, V.bool false, V.bool false, V.bool false, V.bool false, V.bool false, V.bool false, V.bool false, V.bool false, V.bool false, V.bool false, V.bool false, V.bool false, V.bool false, V.bool false, V.bool false, V.bool false, V.bool false, V.bool false, V.bool false, V.bool false, V.bool false, V.bool false, V.bool false, V.bool false, V.bool false, V.bool false, V.bool false, V.bool false, V.bool false, V.bool false, V.bool false, V.bool false, V.bool false, V.bool false, V.bool false, V.bool false, V.bool false, V.bool false, V.bool false, V.bool false, V.bool false, V.bool false, V.bool false, V.bool false, V.bool false, V.bool false, V.bool false, V.bool false, V.bool false, V.bool false, V.bool false] = setL [] := by kernel_rfl
theorem zkg (cs : List UInt8) (c : UInt8) : (setL cs).take c.toNat ++ V.bool true :: (setL cs).drop (c.toNat + 1) = setL (cs ++ [c]) := by
 have hc : c.toNat < 256 := UInt8.toNat_lt c
 apply List.ext_getElem?
 intro k
 rw [List.getElem?_append, List.length_take, zbv, Nat.min_eq_left (by omega)]
 by_cases h1 : k < c.toNat
 ·rw [if_pos h1, List.getElem?_take, if_pos h1, zdF _ (by omega), zdF _ (by omega)]
  have : UInt8.ofNat k ≠ c := fun e => by have := congrArg UInt8.toNat e; simp at this; omega
  simp [this]
 ·rw [if_neg h1]
  by_cases h2 : k = c.toNat
  ·subst h2
   rw [Nat.sub_self, zdF _ hc]
   simp
  ·obtain ⟨m, hm⟩ : ∃ m, k - c.toNat = m + 1 := ⟨k - c.toNat - 1, by omega⟩
   rw [hm, List.getElem?_cons_succ, List.getElem?_drop, show c.toNat + 1 + m = k by omega]
   by_cases h3 : k < 256
   ·rw [zdF _ h3, zdF _ h3]
    have : UInt8.ofNat k ≠ c := fun e => by have := congrArg UInt8.toNat e; simp at this; omega
    simp [this]
   ·rw [List.getElem?_eq_none (by rw [zbv]; omega), List.getElem?_eq_none (by rw [zbv]; omega)]
theorem zjJ {h : H} {cs : List UInt8} (ha : ∀ c ∈ cs, c.toNat < 128) (hl : cs.length ≤ 1000) : Pure Tryz.prog 175 [.str cs] h (.tup [.agg (setL cs), .bool true]) := by
 refine zan Tryz.func175 S.a77c S.a77e (by simp only [V.ids, V.idss, zjd, List.append_nil]) (Nat.le_of_ble_eq_true rfl) fun wf => ?_; simp only [S.a77]
 rw [zgN]
 have z1 := zbv []
 have z2 := zd8 []
 simp
 refine zaJ (fun i t h' => (t 0 = .str cs ∧ t 2 = .ptr h.next 256 0 ∧ t 4 = .int .i64 (i : Nat)) ∧ h' = h.push (.row (setL (cs.take i)))) cs.length ⟨by simp [zbv], by simp⟩ ?_
 rintro i t h' hi ⟨⟨t0, t2, t4⟩, rfl⟩ K hK
 have zl := zbv (cs.take i)
 have zo := zd8 (cs.take i)
 by_cases hlt : i < cs.length
 ·have hw := zaL hlt (by omega)
  have g1 : cs[i]? = some cs[i] := List.getElem?_eq_getElem hlt
  have c1 := ha cs[i] (List.getElem_mem hlt)
  have c2 : ¬ (128 : Int) ≤ (cs[i].toNat : Int) := by omega
  have c3 : cs[i].toNat < 256 := by omega
  have c4 : (cs[i].toNat : Int) < 256 := by omega
  have c5 : cs[i].toNat ≤ 255 := by omega
  have hp := zkg (cs.take i) cs[i]
  have htk : cs.take i ++ [cs[i]] = cs.take (i + 1) := by rw [List.take_add_one, g1]; rfl
  rw [htk] at hp
  simp [t0, t2, t4, hlt, c2, c4, c5, zl, hp, H.push_set, hw]
  refine hK _ _ hlt ⟨by simp [t0, t2], by simp⟩
 ·have : i = cs.length := by omega
  subst this
  rw [List.take_length] at zl zo ⊢
  have ze : ∀ a b : Option D, (if ∀ (x : V), x ∈ setL cs -> x.one = true then a else b) = a := fun a b => if_pos (zio cs)
  have zt := ziL cs
  have zd : List.drop 256 (setL cs) = [] := List.drop_of_length_le (by omega)
  simp [t0, t2, t4, zl, ze, zt, zd, H.push_set]
theorem zlK {h : H} {cs : List UInt8} {j : Nat} (hj : h.get j = some (.row (setL cs))) {c : UInt8} : Pure Tryz.prog 189 [.ptr j 256 0, .int .u8 (c.toNat : Nat)] h (.bool (decide (c ∈ cs))) := by
 refine zan Tryz.func189 S.a80c S.a80e rfl (Nat.le_of_ble_eq_true rfl) fun wf => ?_; simp only [S.a80]
 have c3 : c.toNat < 256 := UInt8.toNat_lt c
 have c4 : (c.toNat : Int) < 256 := by omega
 have ca : zaf h.get j 256 = some (setL cs) := (zak (n := 256) hj (by simp [zbv])).trans rfl
 have e := zdF cs c3
 simp at e
 simp [c4, ca, e]
theorem zjh {h : H} {cs s : List UInt8} (hl : s.length ≤ 9223372036854775807) {j : Nat} (hj : h.get j = some (.row (setL cs))) : Pure Tryz.prog 176 [.str s, .ptr j 256 0] h (.str (s.dropWhile fun c => decide (c ∈ cs))) := by
 refine zan Tryz.func176 S.a78c S.a78e rfl (Nat.le_of_ble_eq_true rfl) fun wf => ?_; simp only [S.a78]
 simp
 refine zaJ (fun i t h' => (t 0 = .str (s.drop i) ∧ t 1 = .ptr j 256 0) ∧ h' = h ∧ s.dropWhile (fun c => decide (c ∈ cs)) = (s.drop i).dropWhile fun c => decide (c ∈ cs)) s.length ⟨by simp, rfl, by simp⟩ ?_
 rintro i t h' hi ⟨⟨t0, t1⟩, rfl, hd⟩ K hK
 by_cases hlt : i < s.length
 ·obtain ⟨c, hc⟩ : ∃ c, c = s[i] := ⟨_, rfl⟩
  obtain ⟨r, hr⟩ : ∃ r, r = s.drop (i + 1) := ⟨_, rfl⟩
  have g1 : s.drop i = c :: r := by rw [hc, hr]; exact List.drop_eq_getElem_cons hlt
  rw [g1] at t0
  rw [g1, List.dropWhile_cons] at hd
  have l1 : (1 : Int) ≤ (r.length : Int) + 1 := by omega
  have l2 : (0 : Int) < (r.length : Int) + 1 := by omega
  simp [t0, t1, l2]
  refine zlK hj _ ?_
  by_cases hm : c ∈ cs
  ·rw [if_pos (by simpa using hm)] at hd
   simp [t0, hm, l1]
   refine hK _ _ hlt ⟨by simp [t1, hr], rfl, by rw [<- hr]; exact hd⟩
  ·rw [if_neg (by simpa using hm)] at hd
   simp [t0, hm, hd]
 ·have : i = s.length := by omega
  subst this
  rw [List.drop_length] at t0 hd
  simp [t0, hd]
theorem zlu {h : H} {cs s : List UInt8} (ha : ∀ c ∈ cs, c.toNat < 128) (hc : 2 ≤ cs.length ∧ cs.length ≤ 1000) (hl : s.length ≤ 9223372036854775807) : Pure Tryz.prog 149 [.str s, .str cs] h (.str (s.dropWhile fun c => decide (c ∈ cs))) := by
 refine zan Tryz.func149 S.a74c S.a74e rfl (Nat.le_of_ble_eq_true rfl) fun wf => ?_; simp only [S.a74]
 rw [zgN]
 have cne : cs ≠ [] := fun e => by rw [e] at hc; simp at hc
 have c1 : ((cs.length : Int) == 1) = false := beq_eq_false_iff_ne.2 (by omega)
 have z1 := zbv []
 have z2 := zbv cs
 have z3 := zd8 cs
 by_cases hs : s = []
 ·subst hs; simp
 ·have se : s.isEmpty = false := by cases s <;> simp_all
  have ce : cs.isEmpty = false := by cases cs <;> simp_all
  simp [c1, se, ce]
  refine zjJ ha hc.2 _ ?_
  have z4 : List.drop 256 (setL []) = [] := List.drop_of_length_le (by omega)
  simp [z1, z2, z3, z4, H.push_set]
  refine zjh (cs := cs) (by omega) (by simp) _ ?_
  simp
def csN : List UInt8 := [97, 98, 99, 100, 101, 102, 103, 104, 105, 106, 107, 108, 109, 110, 111, 112, 113, 114, 115, 116, 117, 118, 119, 120, 121, 122, 48, 49, 50, 51, 52, 53, 54, 55, 56, 57, 45]
theorem znc : ∀ n : Nat, n < 256 -> (UInt8.ofNat n ∈ csN ↔ (97 ≤ n ∧ n ≤ 122) ∨ (48 ≤ n ∧ n ≤ 57) ∨ n = 45) := by decide +kernel
theorem zh7 (c : UInt8) : c ∈ csN ↔ (97 ≤ c.toNat ∧ c.toNat ≤ 122) ∨ (48 ≤ c.toNat ∧ c.toNat ≤ 57) ∨ c.toNat = 45 := by
 have := znc c.toNat (UInt8.toNat_lt c)
 simpa using this
def zbZ (s : List UInt8) : Bool := match s with
 | [] => false
 | c :: r => decide (r.length ≤ 15) && decide (97 ≤ c.toNat) && (c :: r).all fun c => decide (c ∈ csN)
theorem ziG {s cs : List UInt8} : s.dropWhile (fun c => decide (c ∈ cs)) = [] ↔ (s.all fun c => decide (c ∈ cs)) = true := by
 induction s with
 | nil => simp
 | cons c s ih =>
  rw [List.dropWhile_cons, List.all_cons]
  by_cases hc : c ∈ cs
  ·rw [if_pos (by simpa using hc), ih]; simp [hc]
  ·rw [if_neg (by simpa using hc)]; simp [hc]
end Go.Am

namespace Go.Am

end Go.Am

namespace Go.Am
open Go.Proofs

set_option maxRecDepth 100000
def P4 (f r : Int) (s : List UInt8) (l : Int) : List V := [.int .i64 f, .int .u64 r, .str s, .int .i64 l]
end Go.Am

namespace Go.Am
open Go.Proofs

set_option maxRecDepth 100000
end Go.Am

namespace Go.Am
open Go.Proofs

set_option maxRecDepth 100000
end Go.Am

namespace Go.Am
open Go.Proofs

set_option maxRecDepth 100000
@[simp] theorem znZ (i n o : Nat) : (V.ptr i n o).solid = true := _root_.id rfl
@[simp] theorem zno (i n o : Nat) : (V.ptr i n o).cells = [.ptr i n o] := _root_.id rfl
def Gb (h : H) (lo : Nat) (v : V) (l : List UInt8) : Prop :=
 (l = [] ∧ v = .nilsl) ∨ (l ≠ [] ∧ ∃ j, lo ≤ j ∧ j < h.next ∧ v = .sl j l.length 0 l.length none ∧ h.get j = some (.grow 1 (l.map zbF)))
theorem Gb.one {h : H} {lo : Nat} {v : V} {l : List UInt8} (g : Gb h lo v l) : v.one = true := by
 rcases g with ⟨_, rfl⟩ | ⟨_, j, _, _, rfl, _⟩ <;> rfl
theorem zf2 (l : List UInt8) : (l.map zbF).all V.one = true := by simp [zbF]
theorem Gb.append {h : H} {lo : Nat} {v : V} {l : List UInt8} (g : Gb h lo v l) (hlo : lo ≤ h.next) (s : List UInt8) (hb : l.length + s.length ≤ 1000000000) :
  ∃ v' d, zay h.get h.next 1 1 v (.str s) = some (v', d) ∧ Gb (h.app d) lo v' (l ++ s) ∧ h.next ≤ (h.app d).next ∧ (∀ b cs, h.get b = some (.row cs) -> b < h.next -> (h.app d).get b = some (.row cs)) ∧ (∀ b, b < lo -> (h.app d).get b = h.get b) ∧ (h.WF -> (h.app d).WF) := by
 have hx : zaC h.get 1 (.str s) = some (s.length, s.map zbF) := by simp [zaC]
 by_cases h0 : s = []
 ·subst h0
  refine ⟨v, .keep, ?_, by simpa using g, Nat.le_refl _, fun _ _ e _ => e, fun _ _ => rfl, fun w => w⟩
  unfold zay
  rw [hx]
  rcases g with ⟨_, rfl⟩ | ⟨_, j, _, _, rfl, _⟩ <;> simp
 ·have hs : s.length ≠ 0 := by simpa using h0
  rcases g with ⟨rfl, rfl⟩ | ⟨hne, j, g1, g2, rfl, g3⟩
  ·refine ⟨_, _, zbm hx hs (zf2 s) (by omega) (by simp at hb; omega) (by simp at hb; omega), .inr ⟨by simpa using h0, h.next, hlo, by simp, by simp, by simp⟩, by simp, fun b cs e hlt => ?_, fun b hb => ?_, fun w => w.push _⟩
   ·rw [zci, H.get_push, if_neg (by omega)]; exact e
   ·rw [zci, H.get_push, if_neg (by omega)]
  ·refine ⟨_, _, zbw g3 (by simp) (by simp) hx hs (zf2 s) (by omega) (by omega) (by omega), .inr ⟨by simp [hne], j, g1, by simpa using g2, by simp, by simp⟩, by simp, fun b cs e hlt => ?_, fun b hb => ?_, fun w => w.set g2 _⟩
   ·rw [zer, H.get_set]
    split
    ·rename_i e2; rw [e2, g3] at e; cases e
    ·exact e
   ·rw [zer, H.get_set, if_neg (by omega)]
structure Buf (h0 : H) (o : Nat) (acc : List UInt8) (h : H) : Prop where
 ge : Ge h0 h
 wf : h.WF
 lt : o < h.next
 lo : h0.next ≤ o
 at_ : ∃ v, h.get o = some (.row [v]) ∧ Gb h (o + 1) v acc
def Keeps (o : Nat) (h h' : H) : Prop := h.next ≤ h'.next ∧ ∀ b cs, b ≠ o -> h.get b = some (.row cs) -> h'.get b = some (.row cs)
theorem Keeps.refl (o : Nat) (h : H) : Keeps o h h := ⟨Nat.le_refl _, fun _ _ _ e => e⟩
theorem Keeps.trans {o : Nat} {a b c : H} (x : Keeps o a b) (y : Keeps o b c) : Keeps o a c := ⟨Nat.le_trans x.1 y.1, fun i cs hi e => y.2 i cs hi (x.2 i cs hi e)⟩
theorem Keeps.push {o : Nat} {h h' : H} (k : Keeps o h h') (w : h'.WF) (x : O) : Keeps o h (h'.push x) := ⟨by have := k.1; simp; omega, fun b cs hb e => by
 have := k.2 b cs hb e
 rw [H.get_push, if_neg (by have := w.lt this; omega)]; exact this⟩
theorem Buf.push {h0 h : H} {o : Nat} {acc : List UInt8} (b : Buf h0 o acc h) (x : O) : Buf h0 o acc (h.push x) := by
 obtain ⟨v, h1, h2⟩ := b.at_
 have hlt := b.lt
 refine ⟨b.ge.push x, b.wf.push x, by have := b.lt; simp; omega, b.lo, v, by rw [H.get_push, if_neg (by omega)]; exact h1, ?_⟩
 rcases h2 with ⟨rfl, rfl⟩ | ⟨hne, j, g1, g2, rfl, g3⟩
 ·exact .inl ⟨rfl, rfl⟩
 ·exact .inr ⟨hne, j, g1, by simp; omega, rfl, by rw [H.get_push, if_neg (by omega)]; exact g3⟩
theorem Buf.set {h0 h : H} {o : Nat} {acc : List UInt8} (b : Buf h0 o acc h) {i : Nat} {cs : List V} (hi : h.get i = some (.row cs)) (hne : i ≠ o) (h0i : h0.next ≤ i) (x : O) : Buf h0 o acc (h.set i x) := by
 obtain ⟨v, h1, h2⟩ := b.at_
 refine ⟨b.ge.set h0i x, b.wf.set (b.wf.lt hi) x, b.lt, b.lo, v, by rw [H.get_set, if_neg (Ne.symm hne)]; exact h1, ?_⟩
 rcases h2 with ⟨rfl, rfl⟩ | ⟨hne2, j, g1, g2, rfl, g3⟩
 ·exact .inl ⟨rfl, rfl⟩
 ·exact .inr ⟨hne2, j, g1, g2, rfl, by rw [H.get_set, if_neg (fun e => by rw [e, hi] at g3; cases g3)]; exact g3⟩
theorem Buf.add {h0 h : H} {o : Nat} {acc : List UInt8} (b : Buf h0 o acc h) (s : List UInt8) (hb : acc.length + s.length ≤ 1000000000) :
  ∃ v v' d, h.get o = some (.row [v]) ∧ zay h.get h.next 1 1 v (.str s) = some (v', d) ∧ v'.one = true ∧ (h.app d).get o = some (.row [v]) ∧ Buf h0 o (acc ++ s) ((h.app d).set o (.row [v'])) ∧ Keeps o h ((h.app d).set o (.row [v'])) := by
 obtain ⟨v, h1, h2⟩ := b.at_
 have hlt := b.lt
 have hlo := b.lo
 obtain ⟨v', d, a1, a2, a3, a4, a5, a6⟩ := h2.append (by omega) s hb
 have go : (h.app d).get o = some (.row [v]) := a4 o _ h1 hlt
 have hw := a6 b.wf
 refine ⟨v, v', d, h1, a1, a2.one, go, ⟨?_, hw.set (hw.lt go) _, by have := b.lt; simp; omega, hlo, v', by simp, ?_⟩, ⟨by simpa using a3, fun x cs hx e => ?_⟩⟩
 ·refine Ge.set ⟨by have := b.ge.1; omega, fun i hi => ?_⟩ hlo _
  rw [a5 i (by omega)]
  exact b.ge.2 i hi
 ·rcases a2 with ⟨e1, e2⟩ | ⟨hne, j, g1, g2, e2, g3⟩
  ·exact .inl ⟨e1, e2⟩
  ·exact .inr ⟨hne, j, g1, by simpa using g2, e2, by rw [H.get_set, if_neg (by omega)]; exact g3⟩
 ·rw [H.get_set, if_neg hx]
  exact a4 x cs e (b.wf.lt e)
structure NlFit (n : Nl) : Prop where
 id : n.id < 4294967296
 rd : n.p.rd < 18446744073709551616
end Go.Am

namespace Go.Am
open Go.Proofs

set_option maxRecDepth 100000
def znB : List V -> Option V
 | [.int .i64 f] => some (.int .i64 (zkF f : Nat))
 | _ => none
@[simp] theorem znu (f : Int) : znB [.int .i64 f] = some (.int .i64 (zkF f : Nat)) := rfl
end Go.Am

namespace Go.Am
open Go.Proofs

set_option maxRecDepth 100000
end Go.Am

namespace Go.Am
open Go.Proofs

set_option maxRecDepth 100000
end Go.Am
