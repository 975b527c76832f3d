/-
 N0, N1, T0, C0, WN, C1, C2, N2, N3, T1, T2, T3, N4, N5, N6, T4, T5, in one text.
-/
import Derived.Test.YtpgcodeckphanaaGreatDoorIAmL
import Derived.Test.YtpgcodeckphanaaGreatDoorIAm35
import Derived.Test.YtpgcodeckphanaaGreatDoorISkP
import Derived.Lib.Bytealg
namespace Go.Am

theorem Acalls.turn {P : Program} {f : FuncId} {args : List V} {h : H} {i : Nat} {o' : O} {Q : V -> H -> Prop} (hi : ∃ o, h.get i = some o) (ho : o'.ids = [])
  (c : h.WF -> Acalls P f args h fun v h1 => Ge (h.set i o') h1 ∧ v.ids = [] ∧ Q v (h.set i o')) (he : zaa P f = true) : Acalls P f args h Q := by
 refine Acalls.cl he fun wf cl => Acalls.rename ((c wf).mono ?_)
 rintro v h1 ⟨hg, hv, hq⟩
 obtain ⟨oi, hoi⟩ := hi
 have hlt := wf.lt hoi
 have w2 : (h.set i o').WF := wf.set hlt _
 have liv : ∀ k, (∃ o, h.get k = some o) -> ∃ o, (h.set i o').get k = some o := fun k ⟨o, hk⟩ => by
  rw [H.get_set]; split
  ·exact ⟨_, rfl⟩
  ·exact ⟨o, hk⟩
 refine ⟨id, v, h.set i o', (V.ren_id (σ := id) v (fun _ _ => rfl)).symm, ⟨fun k o hk => by rw [show o.ren id = o from O.ren_id (σ := id) o (fun _ _ => rfl)]; exact hg.keeps w2 k o hk, fun _ _ _ _ _ _ e => e, fun k o hk j hj => ?_, w2⟩, fun k hk => (by rw [hv] at hk; cases hk), fun k o hk => ⟨rfl, liv k ⟨o, hk⟩⟩, hq⟩
 rw [H.get_set] at hk
 split at hk
 ·cases hk
  rw [ho] at hj; cases hj
 ·exact liv j (cl k o hk j hj)

def val (l : List UInt8) : Nat := l.foldl (fun a b => a * 256 + b.toNat) 0
def be : Nat -> Nat -> List UInt8
 | 0, _ => []
 | n + 1, v => UInt8.ofNat (v / 256 ^ n) :: be n v
end Go.Am

namespace Go.Am

set_option maxRecDepth 100000
structure Pfx where
 fam : Int
 rd : Nat
 addr : List UInt8
 len : Int
 deriving DecidableEq
def pfxC (p : Pfx) : List V := [.int .i64 p.fam, .int .u64 (p.rd : Nat), .str p.addr, .int .i64 p.len]
structure Nl where
 p : Pfx
 id : Nat
 label : Nat
 deriving DecidableEq
def nlC (n : Nl) : List V := [.int .i64 n.p.fam, .int .u64 (n.p.rd : Nat), .str n.p.addr, .int .i64 n.p.len, .int .u32 (n.id : Nat), .int .u32 (n.label : Nat)]
def zrY : Pfx := ⟨0, 0, [], 0⟩
def zbr (fam : Int) : Nat := if fam = 1 ∨ fam = 3 ∨ fam = 4 then 4 else if fam = 2 ∨ fam = 5 then 16 else 0
def zdW (fam : Int) : Bool := fam == 4 || fam == 5
def zfr (fam : Int) : Bool := decide (3 ≤ fam) && decide (fam ≤ 5)
def zcU (b : Nat) (left : Int) : Nat := if left ≤ 0 then 0 else if left < 8 then b / 2 ^ (8 - left.toNat) * 2 ^ (8 - left.toNat) else b
theorem zii (b : Nat) (left : Int) : zcU b left ≤ b := by
 unfold zcU
 split
 ·omega
 ·split
  ·exact Nat.div_mul_le_self _ _
  ·omega
def za9 : List UInt8 -> Int -> List UInt8
 | [], _ => []
 | b :: l, n => UInt8.ofNat (zcU b.toNat n) :: za9 l (n - 8)
theorem zaV : ∀ (l : List UInt8) (n : Int), (za9 l n).length = l.length
 | [], _ => rfl
 | b :: l, n => by simp [za9, zaV l]
theorem ze5 : ∀ (l : List UInt8) (n : Int) (i : Nat) (h : i < l.length), (za9 l n)[i]'(by rw [zaV]; exact h) = UInt8.ofNat (zcU (l[i]).toNat (n - 8 * (i : Int)))
 | [], _, i, h => by simp at h
 | b :: l, n, 0, h => by simp [za9]
 | b :: l, n, i + 1, h => by
  simp only [za9, List.getElem_cons_succ]
  rw [ze5 l (n - 8) i (by simpa using h)]
  congr 2
  omega
theorem zka {b : Nat} {n : Int} (h : 8 ≤ n) : zcU b n = b := by unfold zcU; rw [if_neg (by omega), if_neg (by omega)]
theorem zhv {b : Nat} {n : Int} (h : n ≤ 0) : zcU b n = 0 := by unfold zcU; rw [if_pos h]
def mayP (p : Pfx) : Bool := decide (zbr p.fam ≠ 0) && decide (p.addr.length = zbr p.fam) && decide (0 ≤ p.len) && decide (p.len ≤ 8 * (zbr p.fam : Int)) && (decide (p.rd = 0) || zdW p.fam) && decide (za9 p.addr p.len = p.addr)
def mayN (n : Nl) : Bool := mayP n.p && decide (n.label ≤ 1048575) && (decide (n.label = 0) || zfr n.p.fam)
end Go.Am

namespace Go.Am

def zfl (a b : Pfx) : Int := orI (cmpI a.fam b.fam) (orI (cmpI a.rd b.rd) (orI (Go.Lib.compareBytes a.addr b.addr) (cmpI a.len b.len)))
theorem ordr_pf : Ordr zfl :=
 (ordr_int.on Pfx.fam).or ((ordr_int.on fun p : Pfx => (p.rd : Int)).or ((ordr_cb.on Pfx.addr).or (ordr_int.on Pfx.len)))
theorem zlV {a b : Pfx} (h : zfl a b = 0) : a = b := by
 simp only [zfl, zmV, zcs] at h
 obtain ⟨h1, h2, h3, h4⟩ := h
 cases a; cases b
 simp only at h1 h2 h3 h4
 simp only [Pfx.mk.injEq]
 exact ⟨h1, by omega, zpe _ _ h3, h4⟩
end Go.Am

namespace Go.Am

section
variable {α : Type} {c : α -> α -> Int}
def adjB (c : α -> α -> Int) : List α -> Bool
 | a :: b :: l => decide (c a b < 0) && adjB c (b :: l)
 | _ => true
theorem zgi : ∀ l : List α, adjB c l = true ↔ ∀ k (h : k + 1 < l.length), c l[k] l[k + 1] < 0
 | [] => by simp [adjB]
 | [a] => by simp [adjB]
 | a :: b :: l => by
  rw [adjB, Bool.and_eq_true, decide_eq_true_eq, zgi (b :: l)]
  constructor
  ·rintro ⟨h1, h2⟩ k hk
   cases k with
   | zero => exact h1
   | succ k => exact h2 k (by simpa using hk)
  ·intro h
   exact ⟨h 0 (by simp), fun k hk => h (k + 1) (by simpa using hk)⟩
variable [DecidableEq α]
end

abbrev Lg := Nat × Nat × Nat
def cP (x : Nat) : List V := [.int .u32 x]
def cX (x : Nat) : List V := [.int .u64 x]
def cL (x : Lg) : List V := [.int .u32 x.1, .int .u32 x.2.1, .int .u32 x.2.2]
def oN (a b : Nat) : Int := cmpI a b
def oL (a b : Lg) : Int := orI (cmpI a.1 b.1) (orI (cmpI a.2.1 b.2.1) (cmpI a.2.2 b.2.2))
def fX (s : List UInt8) : Nat := val (s.take 4) * 4294967296 + val (s.drop 4)
end Go.Am

namespace Go.Am
open Go.Proofs

set_option maxRecDepth 100000
def len8 : List UInt8 := [0, 1, 2, 2, 3, 3, 3, 3, 4, 4, 4, 4, 4, 4, 4, 4, 5, 5, 5, 5, 5, 5, 5, 5, 5, 5, 5, 5, 5, 5, 5, 5, 6, 6, 6, 6, 6, 6, 6, 6, 6, 6, 6, 6, 6, 6, 6, 6, 6, 6, 6, 6, 6, 6, 6, 6, 6, 6, 6, 6, 6, 6, 6, 6, 7, 7, 7, 7, 7, 7, 7, 7, 7, 7, 7, 7, 7, 7, 7, 7, 7, 7, 7, 7, 7, 7, 7, 7, 7, 7, 7, 7, 7, 7, 7, 7, 7, 7, 7, 7, 7, 7, 7, 7, 7, 7, 7, 7, 7, 7, 7, 7, 7, 7, 7, 7, 7, 7, 7, 7, 7, 7, 7, 7, 7, 7, 7, 7, 8, 8, 8, 8, 8, 8, 8, 8, 8, 8, 8, 8, 8, 8, 8, 8, 8, 8, 8, 8, 8, 8, 8, 8, 8, 8, 8, 8, 8, 8, 8, 8, 8, 8, 8, 8, 8, 8, 8, 8, 8, 8, 8, 8, 8, 8, 8, 8, 8, 8, 8, 8, 8, 8, 8, 8, 8, 8, 8, 8, 8, 8, 8, 8, 8, 8, 8, 8, 8, 8, 8, 8, 8, 8, 8, 8, 8, 8, 8, 8, 8, 8, 8, 8, 8, 8, 8, 8, 8, 8, 8, 8, 8, 8, 8, 8, 8, 8, 8, 8, 8, 8, 8, 8, 8, 8, 8, 8, 8, 8, 8, 8, 8, 8, 8, 8, 8, 8, 8, 8, 8, 8, 8, 8, 8, 8, 8, 8]
theorem znk : len8.length = 256 ∧ ∀ x : Nat, x < 256 -> (len8.getD x 0).toNat ≤ 8 ∧ ∀ k : Nat, k < 9 -> (k < (len8.getD x 0).toNat ↔ 2 ^ k ≤ x) := by decide +kernel
theorem znr (v k : Nat) (hk : k ≤ 64) : ((v : Int).fdiv (2 ^ min k IntKind.u64.bits)) = ((v / 2 ^ k : Nat) : Int) := by
 rw [show IntKind.u64.bits = 64 from rfl, Nat.min_eq_left hk, show (2 : Int) ^ k = ((2 ^ k : Nat) : Int) by simp, Int.fdiv_eq_ediv_of_nonneg _ (Int.natCast_nonneg _), <- Int.natCast_ediv]
theorem zfS {v m n : Nat} (h : 2 ^ m ≤ v) (hn : ∀ k, k < n ↔ 2 ^ k ≤ v / 2 ^ m) : ∀ k, k < n + m ↔ 2 ^ k ≤ v := by
 intro k
 rcases Nat.lt_or_ge k m with c | c
 ·exact ⟨fun _ => Nat.le_trans (Nat.pow_le_pow_right (by omega) (by omega)) h, fun _ => by omega⟩
 ·obtain ⟨j, rfl⟩ := Nat.exists_eq_add_of_le c
  have := hn j
  rw [Nat.le_div_iff_mul_le (Nat.pos_of_ne_zero (by simp)), Nat.mul_comm, <- Nat.pow_add] at this
  rw [<- this]; omega
set_option maxRecDepth 100000 in
theorem zri {v : Nat} (hv : v < 18446744073709551616) : ∃ n : Nat, n ≤ 64 ∧ (∀ k, k ≤ 64 -> (k < n ↔ 2 ^ k ≤ v)) ∧ ∀ h : H, Pure Tryz.prog 149 [.int .u64 v] h (.int .i64 n) := by
 obtain ⟨a1, ha1⟩ : ∃ a, a = if 4294967296 ≤ v then 32 else 0 := ⟨_, rfl⟩
 obtain ⟨v1, hv1⟩ : ∃ a, a = if 4294967296 ≤ v then v / 4294967296 else v := ⟨_, rfl⟩
 obtain ⟨a2, ha2⟩ : ∃ a, a = if 65536 ≤ v1 then a1 + 16 else a1 := ⟨_, rfl⟩
 obtain ⟨v2, hv2⟩ : ∃ a, a = if 65536 ≤ v1 then v1 / 65536 else v1 := ⟨_, rfl⟩
 obtain ⟨a3, ha3⟩ : ∃ a, a = if 256 ≤ v2 then a2 + 8 else a2 := ⟨_, rfl⟩
 obtain ⟨v3, hv3⟩ : ∃ a, a = if 256 ≤ v2 then v2 / 256 else v2 := ⟨_, rfl⟩
 have b1 : v1 < 4294967296 := by rw [hv1]; split <;> omega
 have b2 : v2 < 65536 := by rw [hv2]; split <;> omega
 have b3 : v3 < 256 := by rw [hv3]; split <;> omega
 obtain ⟨T, hT⟩ : ∃ T, T = len8 := ⟨_, rfl⟩
 obtain ⟨tl, tx⟩ := znk
 rw [<- hT] at tl tx
 obtain ⟨c, hc⟩ : ∃ c, T[v3]? = some c := ⟨_, List.getElem?_eq_getElem (by omega)⟩
 have tc := tx v3 b3
 rw [List.getD_eq_getElem?_getD, hc, Option.getD_some] at tc
 refine ⟨a3 + c.toNat, ?_, ?_, fun h => ?_⟩
 ·have : a3 ≤ 56 := by rw [ha3, ha2, ha1]; split <;> split <;> split <;> omega
  omega
 ·have n3 : ∀ k, k < c.toNat ↔ 2 ^ k ≤ v3 := fun k => by
   rcases Nat.lt_or_ge k 9 with hk | hk
   ·exact tc.2 k hk
   ·have : 2 ^ 9 ≤ 2 ^ k := Nat.pow_le_pow_right (by omega) hk
    omega
  have n2 : ∃ n, a3 + c.toNat = a2 + n ∧ ∀ k, k < n ↔ 2 ^ k ≤ v2 := by
   by_cases g : 256 ≤ v2
   ·rw [if_pos g] at ha3 hv3
    exact ⟨c.toNat + 8, by omega, zfS g (by rw [show 2 ^ 8 = 256 from rfl, <- hv3]; exact n3)⟩
   ·rw [if_neg g] at ha3 hv3
    exact ⟨c.toNat, by omega, by rw [<- hv3]; exact n3⟩
  obtain ⟨q2, e2, n2⟩ := n2
  have n1 : ∃ n, a3 + c.toNat = a1 + n ∧ ∀ k, k < n ↔ 2 ^ k ≤ v1 := by
   by_cases g : 65536 ≤ v1
   ·rw [if_pos g] at ha2 hv2
    exact ⟨q2 + 16, by omega, zfS g (by rw [show 2 ^ 16 = 65536 from rfl, <- hv2]; exact n2)⟩
   ·rw [if_neg g] at ha2 hv2
    exact ⟨q2, by omega, by rw [<- hv2]; exact n2⟩
  obtain ⟨q1, e1, n1⟩ := n1
  intro k _
  by_cases g : 4294967296 ≤ v
  ·rw [if_pos g] at ha1 hv1
   have := zfS g (by rw [show 2 ^ 32 = 4294967296 from rfl, <- hv1]; exact n1) k
   rw [<- this]; omega
  ·rw [if_neg g] at ha1 hv1
   have := n1 k
   rw [hv1] at this
   rw [<- this]; omega
 ·refine zah Tryz.func149 S.a59c S.a59e rfl (Nat.le_of_ble_eq_true rfl) fun wf => ?_; simp only [S.a59]
  rw [show ([0, 1, 2, 2, 3, 3, 3, 3, 4, 4, 4, 4, 4, 4, 4, 4, 5, 5, 5, 5, 5, 5, 5, 5, 5, 5, 5, 5, 5, 5, 5, 5, 6, 6, 6, 6, 6, 6, 6, 6, 6, 6, 6, 6, 6, 6, 6, 6, 6, 6, 6, 6, 6, 6, 6, 6, 6, 6, 6, 6, 6, 6, 6, 6, 7, 7, 7, 7, 7, 7, 7, 7, 7, 7, 7, 7, 7, 7, 7, 7, 7, 7, 7, 7, 7, 7, 7, 7, 7, 7, 7, 7, 7, 7, 7, 7, 7, 7, 7, 7, 7, 7, 7, 7, 7, 7, 7, 7, 7, 7, 7, 7, 7, 7, 7, 7, 7, 7, 7, 7, 7, 7, 7, 7, 7, 7, 7, 7, 8, 8, 8, 8, 8, 8, 8, 8, 8, 8, 8, 8, 8, 8, 8, 8, 8, 8, 8, 8, 8, 8, 8, 8, 8, 8, 8, 8, 8, 8, 8, 8, 8, 8, 8, 8, 8, 8, 8, 8, 8, 8, 8, 8, 8, 8, 8, 8, 8, 8, 8, 8, 8, 8, 8, 8, 8, 8, 8, 8, 8, 8, 8, 8, 8, 8, 8, 8, 8, 8, 8, 8, 8, 8, 8, 8, 8, 8, 8, 8, 8, 8, 8, 8, 8, 8, 8, 8, 8, 8, 8, 8, 8, 8, 8, 8, 8, 8, 8, 8, 8, 8, 8, 8, 8, 8, 8, 8, 8, 8, 8, 8, 8, 8, 8, 8, 8, 8, 8, 8, 8, 8, 8, 8, 8, 8, 8, 8] : List UInt8) = T from hT.symm]
  have s1 := znr v 32 (by omega)
  have s2 := znr v1 16 (by omega)
  have s3 := znr v2 8 (by omega)
  have w3 : IntKind.u8.wrap (v3 : Int) = v3 := by simp [IntKind.wrap, IntKind.bits, IntKind.signed]; omega
  have w4 : IntKind.i64.wrap (c.toNat : Int) = c.toNat := zf7 (by omega)
  have wa : ∀ x : Nat, x < 1000 -> IntKind.i64.wrap (x : Int) = x := fun x hx => zf7 (by omega)
  have wb : ∀ x y : Nat, x < 1000 -> y < 1000 -> IntKind.i64.wrap ((x : Int) + (y : Int)) = ((x + y : Nat) : Int) := fun x y hx hy => by rw [<- Int.natCast_add]; exact zf7 (by omega)
  have zz1 : ∀ n : Nat, ((4294967296 : Int) ≤ n) = (4294967296 ≤ n) := fun n => propext (by omega)
  have zz2 : ∀ n : Nat, ((65536 : Int) ≤ n) = (65536 ≤ n) := fun n => propext (by omega)
  have zz3 : ∀ n : Nat, ((256 : Int) ≤ n) = (256 ≤ n) := fun n => propext (by omega)
  have lo : ∀ n : Nat, (0 : Int) ≤ n := fun n => by omega
  by_cases g1 : 4294967296 ≤ v <;> by_cases g2 : 65536 ≤ v1 <;> by_cases g3 : 256 ≤ v2 <;>
  (first | (rw [if_pos g1] at ha1 hv1; rw [show (v / 2 ^ 32) = v1 from hv1.symm] at s1) | (rw [if_neg g1] at ha1 hv1; replace s1 := hv1.symm; rw [s1] at g1)) <;>
  (first | (rw [if_pos g2] at ha2 hv2; rw [show (v1 / 2 ^ 16) = v2 from hv2.symm] at s2) | (rw [if_neg g2] at ha2 hv2; replace s2 := hv2.symm; rw [s2] at g2)) <;>
  (first | (rw [if_pos g3] at ha3 hv3; rw [show (v2 / 2 ^ 8) = v3 from hv3.symm] at s3) | (rw [if_neg g3] at ha3 hv3; replace s3 := hv3.symm; rw [s3] at g3)) <;>
  (try rw [s2] at g1) <;> (try rw [s3] at g1) <;> (try rw [s3] at g2) <;>
  (clear hT tx; simp [zz1, zz2, zz3, g1, g2, g3, s1, s2, s3, w3, w4, hc, lo]) <;>
  (subst ha1; subst ha2; subst ha3; have t1 := tc.1; simp [IntKind.wrap, IntKind.bits, IntKind.signed] <;> omega)
theorem zhF : ∀ l : List UInt8, (l.map zcg).mapM u8Of = some l
 | [] => rfl
 | b :: l => by
  rw [List.map_cons, List.mapM_cons, zhF l]
  simp [u8Of, zcg]
@[simp] theorem zq2 (l : List UInt8) : l.mapM (u8Of ∘ zcg) = some l := by
 have := zhF l
 rwa [List.mapM_map] at this
end Go.Am

namespace Go.Am
open Go.Proofs

set_option maxRecDepth 100000
theorem zig {h : H} {a : Int} : Pure Tryz.prog 116 [.int .u32 a] h (.bool false) := by
 refine zah Tryz.func116 S.a52c S.a52e rfl (Nat.le_of_ble_eq_true rfl) fun wf => ?_; simp only [S.a52]
 simp
theorem zhS {h : H} {a : Int} : Pure Tryz.prog 96 [.int .u64 a] h (.bool false) := by
 refine zah Tryz.func96 S.a46c S.a46e rfl (Nat.le_of_ble_eq_true rfl) fun wf => ?_; simp only [S.a46]
 simp
theorem zgg {h : H} {a b : Int} : Pure Tryz.prog 81 [.int .u32 a, .int .u32 b] h (.int .i64 (cmpI a b)) := by
 refine zah Tryz.func81 S.a33c S.a33e rfl (Nat.le_of_ble_eq_true rfl) fun wf => ?_; simp only [S.a33]
 simp
 refine zig _ ?_
 simp
 refine zig _ ?_
 simp
 by_cases h1 : a < b
 ·simp [h1, cmpI]
 ·by_cases h2 : b < a <;> simp [h1, h2, cmpI]
theorem zia {h : H} {a b : Int} : Pure Tryz.prog 55 [.int .u64 a, .int .u64 b] h (.int .i64 (cmpI a b)) := by
 refine zah Tryz.func55 S.a23c S.a23e rfl (Nat.le_of_ble_eq_true rfl) fun wf => ?_; simp only [S.a23]
 simp
 refine zhS _ ?_
 simp
 refine zhS _ ?_
 simp
 by_cases h1 : a < b
 ·simp [h1, cmpI]
 ·by_cases h2 : b < a <;> simp [h1, h2, cmpI]
theorem zqw {h : H} {q : Nat} {a b c : Int} (hq : h.get q = some (.row [.int .i64 a, .int .i64 b, .int .i64 c])) : Pure Tryz.prog 80 [.sl q 3 0 3 (some 3)] h (.int .i64 (orI a (orI b c))) := by
 refine zah Tryz.func80 S.a32c S.a32e rfl (Nat.le_of_ble_eq_true rfl) fun wf => ?_; simp only [S.a32]
 have c1 : zab h.get q 3 = some [.int .i64 a, .int .i64 b, .int .i64 c] := by rw [zai hq (by rfl)]; rfl
 simp
 refine zaz (fun i t h' => (t 3 = .int .i64 0 ∧ t 6 = .sl q 3 0 3 (some 3) ∧ t 7 = .int .i64 3 ∧ t 8 = .int .i64 (i : Nat)) ∧ h' = h ∧ (0 < i -> a = 0) ∧ (1 < i -> b = 0) ∧ (2 < i -> c = 0)) 3 ⟨by simp, rfl, by omega, by omega, by omega⟩ ?_
 rintro i t h' hi ⟨⟨t3, t6, t7, t8⟩, rfl, k1, k2, k3⟩ K hK
 have w1 : IntKind.i64.wrap 1 = 1 := by decide
 have w2 : IntKind.i64.wrap 2 = 2 := by decide
 have w3 : IntKind.i64.wrap 3 = 3 := by decide
 rcases (by omega : i = 0 ∨ i = 1 ∨ i = 2 ∨ i = 3) with rfl | rfl | rfl | rfl
 ·by_cases hz : a = 0
  ·simp [t3, t6, t7, t8, c1, hz, w1]
   exact hK _ _ (by omega) ⟨by simp [t3, t6, t7], rfl, fun _ => hz, by omega, by omega⟩
  ·have hb : (a != 0) = true := by simpa using hz
   simp [t3, t6, t7, t8, c1, hb, zcG hz]
 ·have z1 := k1 (by omega)
  by_cases hz : b = 0
  ·simp [t3, t6, t7, t8, c1, hz, w2]
   exact hK _ _ (by omega) ⟨by simp [t3, t6, t7], rfl, fun _ => z1, fun _ => hz, by omega⟩
  ·have hb : (b != 0) = true := by simpa using hz
   simp [t3, t6, t7, t8, c1, hb, z1, zbh, zcG hz]
 ·have z1 := k1 (by omega)
  have z2 := k2 (by omega)
  by_cases hz : c = 0
  ·simp [t3, t6, t7, t8, c1, hz, w3]
   exact hK _ _ (by omega) ⟨by simp [t3, t6, t7], rfl, fun _ => z1, fun _ => z2, fun _ => hz⟩
  ·have hb : (c != 0) = true := by simpa using hz
   simp [t3, t6, t7, t8, c1, hb, z1, z2, zbh]
 ·have z1 := k1 (by omega)
  have z2 := k2 (by omega)
  have z3 := k3 (by omega)
  simp [t3, t7, t8, z1, z2, z3, zbh]
def zeL : List V -> Option V
 | [.int .u32 a, .int .u32 b] => some (.int .i64 (cmpI a b))
 | _ => none
theorem zjz : ∀ p ∈ [(81, zeL)], ∀ vals v, p.2 vals = some v -> ∀ h, Acalls Tryz.prog p.1 vals h fun u h' => u = v ∧ h' = h := by
 intro p hp vals v e h
 simp only [List.mem_cons, List.not_mem_nil, or_false] at hp
 subst hp
 simp only [zeL] at e
 split at e
 ·cases e; exact zgg _ ⟨rfl, rfl⟩
 ·cases e
end Go.Am

namespace Go.Am
open Go.Proofs

set_option maxRecDepth 100000
theorem zd0 {α : Type} {c : α -> α -> Int} {l : List α} {i : Nat} (h0 : 0 < i) (h : i < l.length) (hc : ¬ c l[i - 1] l[i] < 0) : adjB c l = false := by
 cases e : adjB c l with
 | false => rfl
 | true =>
  have := (zgi l).1 e (i - 1) (by omega)
  exact absurd (by simpa [show i - 1 + 1 = i by omega] using this) hc
theorem ze8 {α : Type} {c : α -> α -> Int} {l : List α} {i : Nat} (ht : adjB c (l.take i) = true) (h : i < l.length) (hc : 0 < i -> c l[i - 1] l[i] < 0) : adjB c (l.take (i + 1)) = true := by
 rw [zgi] at ht ⊢
 intro k hk
 simp only [List.length_take] at hk
 simp only [List.getElem_take]
 by_cases hki : k + 1 < i
 ·have := ht k (by simp; omega)
  simpa using this
 ·have : k + 1 = i := by omega
  subst this
  simpa using hc (by omega)

end Go.Am

namespace Go.Am

set_option maxRecDepth 100000
def zmw (fam : Int) : Nat := (if zfr fam = true then 24 else 0) + (if zdW fam = true then 64 else 0)
def tk (k : Nat) (s : List UInt8) : Option (List UInt8 × List UInt8) := if k ≤ s.length then some (s.take k, s.drop k) else none
structure NlOk (fam : Int) (add : Bool) (n : Nl) : Prop where
 may : mayN n = true
 fam : n.p.fam = fam
 id0 : add = false -> n.id = 0
 idb : n.id < 4294967296
 rdb : n.p.rd < 18446744073709551616
theorem NlOk.parts {fam : Int} {add : Bool} {n : Nl} (h : NlOk fam add n) : zbr fam ≠ 0 ∧ n.p.addr.length = zbr fam ∧ 0 ≤ n.p.len ∧ n.p.len ≤ 8 * (zbr fam : Int) ∧ (n.p.rd = 0 ∨ zdW fam = true) ∧ za9 n.p.addr n.p.len = n.p.addr ∧ n.label ≤ 1048575 ∧ (n.label = 0 ∨ zfr fam = true) := by
 have := h.may
 simp only [mayN, mayP, Bool.and_eq_true, Bool.or_eq_true, decide_eq_true_eq, h.fam] at this
 obtain ⟨⟨⟨⟨⟨⟨⟨a, b⟩, c⟩, d⟩, e⟩, f⟩, g⟩, i⟩ := this
 exact ⟨a, b, c, d, e, f, g, i⟩
theorem zn9 (fam : Int) : zbr fam ≤ 16 := by unfold zbr; split <;> (try split) <;> omega
end Go.Am

namespace Go.Am
open Go.Proofs

set_option maxRecDepth 100000
theorem zeR {a b : Int} (h : ¬ a = b) : (a == b) = false := by rw [beq_eq_false_iff_ne]; exact h
theorem zlW {h : H} {fam : Int} : Pure Tryz.prog 84 [.int .i64 fam] h (.int .i64 (zbr fam : Nat)) := by
 refine zah Tryz.func84 S.a34c S.a34e rfl (Nat.le_of_ble_eq_true rfl) fun wf => ?_; simp only [S.a34]
 by_cases e1 : fam = 1
 ·subst e1; simp [zbr]
 by_cases e3 : fam = 3
 ·subst e3; simp [zbr]
 by_cases e4 : fam = 4
 ·subst e4; simp [zbr]
 by_cases e2 : fam = 2
 ·subst e2; simp [zbr]
 by_cases e5 : fam = 5
 ·subst e5; simp [zbr]
 simp [zbr, zeR e1, zeR e3, zeR e4, zeR e2, zeR e5, e1, e2, e3, e4, e5]
theorem zjY {h : H} {fam : Int} : Pure Tryz.prog 85 [.int .i64 fam] h (.bool (zdW fam)) := by
 refine zah Tryz.func85 S.a35c S.a35e rfl (Nat.le_of_ble_eq_true rfl) fun wf => ?_; simp only [S.a35]
 simp
 unfold zdW
 cases fam == 4 <;> simp
theorem zkq {h : H} {fam : Int} : Pure Tryz.prog 87 [.int .i64 fam] h (.bool (zfr fam)) := by
 refine zah Tryz.func87 S.a37c S.a37e rfl (Nat.le_of_ble_eq_true rfl) fun wf => ?_; simp only [S.a37]
 simp
 unfold zfr
 by_cases e : 3 ≤ fam <;> simp [e]
theorem zi5 {l : List UInt8} {n : Int} {i : Nat} (h : i < l.length) : za9 (l.take (i + 1)) n = za9 (l.take i) n ++ [UInt8.ofNat (zcU (l[i]).toNat (n - 8 * (i : Int)))] := by
 refine List.ext_getElem (by simp [zaV]; omega) fun k h1 h2 => ?_
 rw [zaV, List.length_take] at h1
 rw [ze5 _ _ _ (by rw [List.length_take]; exact h1), List.getElem_take]
 by_cases hk : k < i
 ·rw [List.getElem_append_left (by rw [zaV, List.length_take]; omega), ze5 _ _ _ (by rw [List.length_take]; omega), List.getElem_take]
 ·have e : k = i := by omega
  subst e
  rw [List.getElem_append_right (by rw [zaV, List.length_take]; omega)]
  simp
theorem zk5 : ∀ b : Nat, b < 256 -> ∀ k : Nat, k < 8 -> (BitVec.ofInt 8 (b : Int) &&& BitVec.ofInt 8 (IntKind.u8.wrap (255 * 2 ^ k))).toNat = b / 2 ^ k * 2 ^ k := by decide +kernel
theorem zmT {n : Nat} (h : n < 256) : IntKind.u8.wrap (n : Int) = (n : Int) := by simp [IntKind.wrap, IntKind.bits, IntKind.signed]; omega
theorem znj {b : Nat} {left : Int} (hb : b < 256) (h1 : 0 < left) (h2 : left < 8) : intV .and .u8 (b : Int) (IntKind.u8.wrap (255 * 2 ^ min (8 - left).toNat IntKind.u8.bits)) = some (.int .u8 (zcU b left : Nat)) := by
 have e : min (8 - left).toNat IntKind.u8.bits = 8 - left.toNat := by simp [IntKind.bits]; omega
 rw [e]
 show some (V.int .u8 (IntKind.u8.wrap ((BitVec.ofInt 8 (b : Int) &&& BitVec.ofInt 8 (IntKind.u8.wrap (255 * 2 ^ (8 - left.toNat)))).toNat : Int))) = _
 rw [zk5 b hb _ (by omega)]
 have hm : zcU b left = b / 2 ^ (8 - left.toNat) * 2 ^ (8 - left.toNat) := by unfold zcU; rw [if_neg (by omega), if_pos h2]
 rw [<- hm, zmT (by have := zii b left; omega)]
theorem zjU {h : H} {l : List UInt8} {n : Int} (hl : l.length ≤ 1000000) (hn : -1000000 ≤ n ∧ n ≤ 1000000) : Pure Tryz.prog 86 [.str l, .int .i64 n] h (.str (za9 l n)) := by
 refine zah Tryz.func86 S.a36c S.a36e rfl (Nat.le_of_ble_eq_true rfl) fun wf => ?_; simp only [S.a36]
 have hll : l.length ≤ 9223372036854775807 := by omega
 simp [exec, hll]
 refine zaz (fun i t h' => (t 1 = .int .i64 n ∧ t 5 = .sl h.next l.length 0 l.length none ∧ t 11 = .int .i64 l.length ∧ t 12 = .int .i64 i) ∧ Ge h h' ∧ h.next < h'.next ∧ h'.get h.next = some (.grow 1 ((za9 (l.take i) n ++ l.drop i).map zcg))) l.length ⟨by simp, by simp, by simp, by simp [za9]⟩ ?_
 rintro i t h' hi ⟨⟨t1, t5, t11, t12⟩, hg, hnx, ho⟩ K hK
 by_cases hlt : i < l.length
 ·have hw := zaJ hlt (by omega)
  have w8 : IntKind.i64.wrap (8 * (i : Int)) = 8 * (i : Int) := zaf (by omega) (by omega)
  have wl : IntKind.i64.wrap (n - 8 * (i : Int)) = n - 8 * (i : Int) := zaf (by omega) (by omega)
  have hlen : (za9 (l.take i) n ++ l.drop i).length = l.length := by simp [zaV]; omega
  have hb : (l[i]).toNat < 256 := (l[i]).toNat_lt
  have hgi : (za9 (l.take i) n ++ l.drop i)[i]? = some l[i] := by
   rw [List.getElem?_append_right (by rw [zaV, List.length_take]; omega), zaV, List.length_take, Nat.min_eq_left (by omega), Nat.sub_self, List.getElem?_drop]
   simp [List.getElem?_eq_getElem hlt]
  have hset : ∀ v : UInt8, UInt8.ofNat (zcU (l[i]).toNat (n - 8 * (i : Int))) = v -> (za9 (l.take i) n ++ l.drop i).set i v = za9 (l.take (i + 1)) n ++ l.drop (i + 1) := fun v hv => by
   rw [zi5 hlt, <- hv, List.set_append_right _ _ (by rw [zaV, List.length_take]; omega), zaV, List.length_take, Nat.min_eq_left (by omega), Nat.sub_self, List.drop_eq_getElem_cons hlt, List.set_cons_zero]
   simp
  obtain ⟨cur, hcur⟩ : ∃ cur, cur = za9 (l.take i) n ++ l.drop i := ⟨_, rfl⟩
  rw [<- hcur] at ho hlen hgi hset
  have hi1 : i + 1 ≤ l.length := by omega
  have cc : zab h'.get h.next l.length = some (cur.map zcg) := by rw [zai ho (by simp [hlen])]; rfl
  have hcg : cur[i]'(by omega) = l[i] := by rw [List.getElem?_eq_getElem (by omega)] at hgi; exact Option.some.inj hgi
  have sm : ∀ b : UInt8, List.take i (cur.map zcg) ++ V.int .u8 (b.toNat : Int) :: List.drop (i + 1) (cur.map zcg) = (cur.set i b).map zcg := fun b => by
   rw [List.map_set, List.set_eq_take_append_cons_drop, if_pos (by simp; omega)]; rfl
  have fin : ∀ b : UInt8, UInt8.ofNat (zcU (l[i]).toNat (n - 8 * (i : Int))) = b -> ∀ t', (t' 1 = .int .i64 n ∧ t' 5 = .sl h.next l.length 0 l.length none ∧ t' 11 = .int .i64 l.length ∧ t' 12 = .int .i64 ((i + 1 : Nat) : Int)) -> K t' (h'.set h.next (.grow 1 ((cur.set i b).map zcg))) := fun b hb t' ht =>
   hK _ _ hlt ⟨ht, hg.set (Nat.le_refl _) _, by simpa using hnx, by simp [hset b hb]⟩
  clear hcur
  simp [t1, t11, t12, hlt, w8, wl]
  by_cases hle : n - 8 * (i : Int) ≤ 0
  ·have f := fin 0 (by rw [zhv hle]; rfl)
   have s0 := sm 0
   simp at s0
   simp [hle, t5, t12, hlt, ho, hlen, hi1, s0, hw]
   rw [List.map_set] at f
   refine f _ ?_
   simp [t1, t5, t11]
  ·by_cases h8 : n - 8 * (i : Int) < 8
   ·have w88 : IntKind.i64.wrap (8 - (n - 8 * (i : Int))) = 8 - (n - 8 * (i : Int)) := zaf (by omega) (by omega)
    have mo := znj hb (left := n - 8 * (i : Int)) (by omega) h8
    have hmb := zii (l[i]).toNat (n - 8 * (i : Int))
    have s1 := sm (UInt8.ofNat (zcU (l[i]).toNat (n - 8 * (i : Int))))
    rw [show ((UInt8.ofNat (zcU (l[i]).toNat (n - 8 * (i : Int)))).toNat : Int) = (zcU (l[i]).toNat (n - 8 * (i : Int)) : Nat) by simp; omega] at s1
    have f := fin _ rfl
    have y0 : (0 : Int) ≤ 8 - (n - 8 * (i : Int)) := by omega
    have sh : zcT .shl .u8 255 (8 - (n - 8 * (i : Int))) = some (.int .u8 (IntKind.u8.wrap (255 * 2 ^ min (8 - (n - 8 * (i : Int))).toNat IntKind.u8.bits))) := by
     unfold zcT; rw [if_neg (by omega)]
    simp [hle, h8]
    refine zbM ?_
    simp [t5, t12, hlt, ho, cc, hlen, hcg, zcg, w88, sh, mo, hi1, hw]
    rw [s1]
    refine f _ ?_
    simp [t1, t5, t11]
   ·simp [hle, h8, t12, hw]
    have e0 : cur.set i l[i] = cur := by rw [<- hcg, List.set_getElem_self]
    refine hK _ _ hlt ⟨by simp [t1, t5, t11], hg, hnx, ?_⟩
    rw [ho, <- hset l[i] (by rw [zka (by omega)]; simp), e0]
 ·have hi2 : i = l.length := by omega
  subst hi2
  have hle : l.take l.length = l := List.take_of_length_le (Nat.le_refl _)
  have el : zaB h'.get 1 (.sl h.next l.length 0 l.length none) = some (l.length, (za9 l n).map zcg) := by
   rw [zax]
   split
   ·rename_i h0
    have : l = [] := List.eq_nil_of_length_eq_zero h0
    subst this; rfl
   ·rw [zai ho (by simp [zaV])]; simp [List.take_of_length_le, zaV]
  simp [t5, t11, t12, el]
  exact hg
theorem znx (a b : List UInt8) : eqV .str (.str a) (.str b) = some (a == b) := by simp [eqV]
theorem zgQ {h : H} {p : Pfx} : Pure Tryz.prog 44 [.agg (pfxC p)] h (.int .i64 (if mayP p = true then 0 else 2)) := by
 refine zah Tryz.func44 S.a12c S.a12e rfl (Nat.le_of_ble_eq_true rfl) fun wf => ?_; simp only [S.a12]
 simp only [pfxC]
 simp
 refine zlW _ ?_
 simp
 have sl := zn9 p.fam
 have c1 : zab (h.push (.row (pfxC p))).get h.next 4 = some (pfxC p) := by rw [zai (by simp; rfl) (by simp [pfxC])]; rfl
 simp only [pfxC] at c1
 refine zdf (wf.push _) ?_
 by_cases e0 : zbr p.fam = 0
 ·simp [e0, mayP]
 have b0 : (((zbr p.fam : Nat) : Int) == 0) = false := zeR (by omega)
 have ef : ¬ p.fam = 0 := by intro e; apply e0; rw [e]; decide
 have bf := zeR ef
 have eqz : eqV (TS.st [(0, 1, false, TS.int), (1, 1, false, TS.int), (2, 1, false, TS.str), (3, 1, false, TS.int)]) (.agg [.int .i64 p.fam, .int .u64 (p.rd : Nat), .str p.addr, .int .i64 p.len]) (.agg [.int .i64 0, .int .u64 0, .str [], .int .i64 0]) = some false := by
  simp [eqV, eqFs, bf]
 have ms0 : (decide (zbr p.fam ≠ 0)) = true := by simpa using e0
 by_cases e1 : p.addr.length = zbr p.fam
 ·have b1 : ((p.addr.length : Int) != ((zbr p.fam : Nat) : Int)) = false := by rw [e1]; simp
  by_cases e2 : p.len < 0
  ·have m : mayP p = false := by
    have : ¬ 0 ≤ p.len := by omega
    simp [mayP, this]
   simp [b0, c1, eqz, b1, e2, m]
  ·have e2' : 0 ≤ p.len := by omega
   have w8 : IntKind.i64.wrap (8 * ((zbr p.fam : Nat) : Int)) = 8 * ((zbr p.fam : Nat) : Int) := zaf (by omega) (by omega)
   by_cases e3 : 8 * ((zbr p.fam : Nat) : Int) < p.len
   ·have m : mayP p = false := by
     have : ¬ p.len ≤ 8 * ((zbr p.fam : Nat) : Int) := by omega
     simp [mayP, this]
    simp [b0, c1, eqz, b1, e2, w8, e3, m]
   ·have e3' : p.len ≤ 8 * ((zbr p.fam : Nat) : Int) := by omega
    have fin : ∀ (hrd : (decide (p.rd = 0) || zdW p.fam) = true), mayP p = decide (za9 p.addr p.len = p.addr) := fun hrd => by
     simp only [mayP, ms0, e1, e2', e3', hrd, decide_true, Bool.true_and]
    have last : ∀ hrd : (decide (p.rd = 0) || zdW p.fam) = true, (if mayP p = true then (0 : Int) else 2) = if (za9 p.addr p.len != p.addr) = true then 2 else 0 := fun hrd => by
     rw [fin hrd]
     by_cases hm : za9 p.addr p.len = p.addr
     ·simp [hm]
     ·have : (za9 p.addr p.len != p.addr) = true := by simpa using hm
      rw [this]; simp [hm]
    have mk : ∀ h2, Ge (h.push (.row [.int .i64 p.fam, .int .u64 (p.rd : Nat), .str p.addr, .int .i64 p.len])) h2 -> Pure Tryz.prog 86 [.str p.addr, .int .i64 p.len] h2 (.str (za9 p.addr p.len)) := fun h2 _ => zjU (by omega) (by omega)
    by_cases e4 : p.rd = 0
    ·have b4 : (((p.rd : Nat) : Int) != 0) = false := by rw [e4]; rfl
     rw [last (by simp [e4])]
     simp [b0, c1, eqz, b1, e2, w8, e3, b4]
     refine zdc (v := .str (za9 p.addr p.len)) rfl mk ?_
     simp [c1]
     by_cases hq : za9 p.addr p.len = p.addr
     ·have hb : (za9 p.addr p.len == p.addr) = true := by simpa using hq
      simp [hq]
     ·have hb : (za9 p.addr p.len == p.addr) = false := by simpa using hq
      simp [hb, hq]
    ·have b4 : (((p.rd : Nat) : Int) != 0) = true := by
      have : ¬ ((p.rd : Nat) : Int) = 0 := by omega
      simpa using this
     simp [b0, c1, eqz, b1, e2, w8, e3, b4]
     refine zdc (v := .bool (zdW p.fam)) rfl (fun h2 _ => zjY) ?_
     cases ha : zdW p.fam with
     | false =>
      have m : mayP p = false := by simp [mayP, e4, ha]
      simp [m]
     | true =>
      rw [last (by simp [ha])]
      simp
      refine zdc (v := .str (za9 p.addr p.len)) rfl mk ?_
      simp [c1]
      by_cases hq : za9 p.addr p.len = p.addr
      ·have hb : (za9 p.addr p.len == p.addr) = true := by simpa using hq
       simp [hq]
      ·have hb : (za9 p.addr p.len == p.addr) = false := by simpa using hq
       simp [hb, hq]
 ·have b1 : ((p.addr.length : Int) != ((zbr p.fam : Nat) : Int)) = true := by
   have : ¬ (p.addr.length : Int) = ((zbr p.fam : Nat) : Int) := by omega
   simpa using this
  have m : mayP p = false := by simp [mayP, e1]
  simp [b0, c1, eqz, b1, m]
theorem zj1 {h : H} {n : Nl} : Pure Tryz.prog 46 [.agg (nlC n)] h (.int .i64 (if mayN n = true then 0 else 2)) := by
 refine zah Tryz.func46 S.a14c S.a14e rfl (Nat.le_of_ble_eq_true rfl) fun wf => ?_; simp only [S.a14]
 simp only [nlC]
 simp
 have c1 : zab (h.push (.row (nlC n))).get h.next 6 = some (nlC n) := by rw [zai (by simp; rfl) (by simp [nlC])]; rfl
 simp only [nlC] at c1
 refine zgQ (p := n.p) _ ?_
 cases hp : mayP n.p with
 | false =>
  have m : mayN n = false := by simp [mayN, hp]
  simp [m]
 | true =>
  by_cases e1 : (1048575 : Int) < (n.label : Nat)
  ·have m : mayN n = false := by
    have : ¬ n.label ≤ 1048575 := by omega
    simp [mayN, this]
   simp [c1, e1, m]
  ·have e1' : n.label ≤ 1048575 := by omega
   by_cases e2 : (0 : Int) < (n.label : Nat)
   ·have e2' : ¬ n.label = 0 := by omega
    have e2n : 0 < n.label := by omega
    simp [c1, e1, e2n]
    refine zkq _ ?_
    cases hl : zfr n.p.fam <;> simp [mayN, hp, hl, e1', e2']
   ·have e2' : n.label = 0 := by omega
    have m : mayN n = true := by simp [mayN, hp, e2']
    have e2n : ¬ 0 < n.label := by omega
    simp [c1, e1, e2n, m]
end Go.Am

namespace Go.Am
open Go.Proofs

set_option maxRecDepth 100000
theorem zjF {h : H} {a : Int} : Pure Tryz.prog 95 [.int .i64 a] h (.bool false) := by
 refine zah Tryz.func95 S.a45c S.a45e rfl (Nat.le_of_ble_eq_true rfl) fun wf => ?_; simp only [S.a45]
 simp
theorem zjV {h : H} {a b : Int} : Pure Tryz.prog 53 [.int .i64 a, .int .i64 b] h (.int .i64 (cmpI a b)) := by
 refine zah Tryz.func53 S.a21c S.a21e rfl (Nat.le_of_ble_eq_true rfl) fun wf => ?_; simp only [S.a21]
 simp
 refine zjF _ ?_
 simp
 refine zjF _ ?_
 simp
 by_cases h1 : a < b
 ·simp [h1, cmpI]
 ·by_cases h2 : b < a <;> simp [h1, h2, cmpI]
theorem znK {h : H} {a b : List UInt8} : Pure Tryz.prog 57 [.str a, .str b] h (.int .i64 (Go.Lib.compareBytes a b)) := by
 refine zah Tryz.func57 S.a25c S.a25e rfl (Nat.le_of_ble_eq_true rfl) fun wf => ?_; simp only [S.a25]
 simp
 refine zaw Tryz.func97 S.a47c S.a47e (Nat.le_of_ble_eq_true rfl) fun wf => ?_
 simp only [S.a47]
 simp
def P4 (f r : Int) (s : List UInt8) (l : Int) : List V := [.int .i64 f, .int .u64 r, .str s, .int .i64 l]
theorem zrT {h : H} {f r l f' r' l' : Int} {s s' : List UInt8} : Pure Tryz.prog 52 [.agg (P4 f r s l), .agg (P4 f' r' s' l')] h (.int .i64 (cmpI f f')) := by
 refine zah Tryz.func52 S.a20c S.a20e rfl (Nat.le_of_ble_eq_true rfl) fun wf => ?_; simp only [S.a20]
 simp [P4]
 refine zjV _ ?_
 simp
theorem zrW {h : H} {f r l f' r' l' : Int} {s s' : List UInt8} : Pure Tryz.prog 54 [.agg (P4 f r s l), .agg (P4 f' r' s' l')] h (.int .i64 (cmpI r r')) := by
 refine zah Tryz.func54 S.a22c S.a22e rfl (Nat.le_of_ble_eq_true rfl) fun wf => ?_; simp only [S.a22]
 simp [P4]
 refine zia _ ?_
 simp
theorem zr2 {h : H} {f r l f' r' l' : Int} {s s' : List UInt8} : Pure Tryz.prog 56 [.agg (P4 f r s l), .agg (P4 f' r' s' l')] h (.int .i64 (Go.Lib.compareBytes s s')) := by
 refine zah Tryz.func56 S.a24c S.a24e rfl (Nat.le_of_ble_eq_true rfl) fun wf => ?_; simp only [S.a24]
 simp [P4]
 refine znK _ ?_
 simp
theorem zrV {h : H} {f r l f' r' l' : Int} {s s' : List UInt8} : Pure Tryz.prog 58 [.agg (P4 f r s l), .agg (P4 f' r' s' l')] h (.int .i64 (cmpI l l')) := by
 refine zah Tryz.func58 S.a26c S.a26e rfl (Nat.le_of_ble_eq_true rfl) fun wf => ?_; simp only [S.a26]
 simp [P4]
 refine zjV _ ?_
 simp
def cmp4 (f r l f' r' l' : Int) (s s' : List UInt8) : Int := orI (cmpI f f') (orI (cmpI r r') (orI (Go.Lib.compareBytes s s') (cmpI l l')))
def fns4 : List V := [.func (.func 52) [] [], .func (.func 54) [] [], .func (.func 56) [] [], .func (.func 58) [] []]
theorem zlC {h : H} {q : Nat} (hq : h.get q = some (.row fns4)) {f r l f' r' l' : Int} {s s' : List UInt8} : Pure Tryz.prog 51 [.agg (P4 f r s l), .agg (P4 f' r' s' l'), .sl q 4 0 4 (some 4)] h (.int .i64 (cmp4 f r l f' r' l' s s')) := by
 refine zah Tryz.func51 S.a19c S.a19e rfl (Nat.le_of_ble_eq_true rfl) fun wf => ?_; simp only [S.a19]
 have hlt := wf.lt hq
 obtain ⟨h2, hh2⟩ : ∃ h2, h2 = (h.push (.row (P4 f r s l))).push (.row (P4 f' r' s' l')) := ⟨_, rfl⟩
 have g2 : Ge h h2 := by rw [hh2]; exact ((Ge.refl _).push _).push _
 have w2 : h2.WF := by rw [hh2]; exact (wf.push _).push _
 have c1 : zab h2.get h.next 4 = some (P4 f r s l) := by rw [hh2]; simp [P4]
 have c2 : zab h2.get (h.next + 1) 4 = some (P4 f' r' s' l') := by rw [hh2]; simp [P4]
 have c3 : zab h2.get q 4 = some fns4 := by rw [zai (g2.keeps wf _ _ hq) (by rfl)]; rfl
 simp only [P4] at hh2 c1 c2
 simp [P4]
 rw [<- hh2]
 refine zaz (fun i t h' => (t 3 = .ptr h.next 4 0 ∧ t 4 = .ptr (h.next + 1) 4 0 ∧ t 10 = .sl q 4 0 4 (some 4) ∧ t 11 = .int .i64 4 ∧ t 12 = .int .i64 (i : Nat)) ∧ h' = h2 ∧ (0 < i -> cmpI f f' = 0) ∧ (1 < i -> cmpI r r' = 0) ∧ (2 < i -> Go.Lib.compareBytes s s' = 0) ∧ (3 < i -> cmpI l l' = 0)) 4 ⟨by simp, rfl, by omega, by omega, by omega, by omega⟩ ?_
 rintro i t h' hi ⟨⟨t3, t4, t10, t11, t12⟩, rfl, k1, k2, k3, k4⟩ K hK
 have w1 : IntKind.i64.wrap 1 = 1 := by decide
 have w2' : IntKind.i64.wrap 2 = 2 := by decide
 have w3 : IntKind.i64.wrap 3 = 3 := by decide
 have w4 : IntKind.i64.wrap 4 = 4 := by decide
 rcases (by omega : i = 0 ∨ i = 1 ∨ i = 2 ∨ i = 3 ∨ i = 4) with rfl | rfl | rfl | rfl | rfl
 ·simp [t3, t4, t10, t11, t12, c1, c2, c3, fns4]
  refine zrT (l := l) (l' := l') _ ?_
  by_cases hz : cmpI f f' = 0
  ·simp [hz, t12, w1]
   exact hK _ _ (by omega) ⟨by simp [t3, t4, t10, t11], rfl, fun _ => hz, by omega, by omega, by omega⟩
  ·have hb : (cmpI f f' != 0) = true := by simpa using hz
   simp [hb, hz, cmp4, zcG]
   exact g2
 ·simp [t3, t4, t10, t11, t12, c1, c2, c3, fns4]
  refine zrW (l := l) (l' := l') _ ?_
  have z1 := k1 (by omega)
  by_cases hz : cmpI r r' = 0
  ·simp [hz, t12, w2']
   exact hK _ _ (by omega) ⟨by simp [t3, t4, t10, t11], rfl, fun _ => z1, fun _ => hz, by omega, by omega⟩
  ·have hb : (cmpI r r' != 0) = true := by simpa using hz
   simp [hb, hz, cmp4, z1, zbh, zcG]
   exact g2
 ·simp [t3, t4, t10, t11, t12, c1, c2, c3, fns4]
  refine zr2 (l := l) (l' := l') _ ?_
  have z1 := k1 (by omega)
  have z2 := k2 (by omega)
  by_cases hz : Go.Lib.compareBytes s s' = 0
  ·simp [hz, t12, w3]
   exact hK _ _ (by omega) ⟨by simp [t3, t4, t10, t11], rfl, fun _ => z1, fun _ => z2, fun _ => hz, by omega⟩
  ·have hb : (Go.Lib.compareBytes s s' != 0) = true := by simpa using hz
   simp [hb, hz, cmp4, z1, z2, zbh, zcG]
   exact g2
 ·simp [t3, t4, t10, t11, t12, c1, c2, c3, fns4]
  refine zrV (l := l) (l' := l') _ ?_
  have z1 := k1 (by omega)
  have z2 := k2 (by omega)
  have z3 := k3 (by omega)
  by_cases hz : cmpI l l' = 0
  ·simp [hz, t12, w4]
   exact hK _ _ (by omega) ⟨by simp [t3, t4, t10, t11], rfl, fun _ => z1, fun _ => z2, fun _ => z3, fun _ => hz⟩
  ·have hb : (cmpI l l' != 0) = true := by simpa using hz
   simp [hb, cmp4, z1, z2, z3, zbh]
   exact g2
 ·have z1 := k1 (by omega)
  have z2 := k2 (by omega)
  have z3 := k3 (by omega)
  have z4 := k4 (by omega)
  simp [t11, t12, cmp4, z1, z2, z3, z4, zbh]
  exact g2
theorem zis {h : H} {f r l f' r' l' : Int} {s s' : List UInt8} : Pure Tryz.prog 16 [.agg (P4 f r s l), .agg (P4 f' r' s' l')] h (.int .i64 (cmp4 f r l f' r' l' s s')) := by
 refine zah Tryz.func16 S.a6c S.a6e rfl (Nat.le_of_ble_eq_true rfl) fun wf => ?_; simp only [S.a6]
 have cf : ∀ f a b, (V.func f a b).cells = [.func f a b] := fun _ _ _ => rfl
 have r4 : zaq 4 [V.nilfunc] = [.nilfunc, .nilfunc, .nilfunc, .nilfunc] := rfl
 simp only [P4]
 simp [cf, r4]
 refine zlC (q := h.next + 2) (f := f) (r := r) (s := s) (l := l) (f' := f') (r' := r') (s' := s') (l' := l') (by simp [fns4]) _ ?_
 simp
 exact (((Ge.refl _).push _).push _).push _
theorem zn6 {h : H} {a b : Pfx} : Pure Tryz.prog 16 [.agg (pfxC a), .agg (pfxC b)] h (.int .i64 (zfl a b)) := zis
theorem bq (x y : Int) : (x == y) = decide (x = y) := by by_cases h : x = y <;> simp [h]
theorem zbg {off sz : Nat} {agg : Bool} {ts : TS} {fs : List (Nat × Nat × Bool × TS)} {xs ys : List V} {x y : V} {b : Bool} (hx : zb0 agg off sz xs = some x) (hy : zb0 agg off sz ys = some y) (hb : eqV ts x y = some b) :
  eqFs ((off, sz, agg, ts) :: fs) xs ys = if b = true then eqFs fs xs ys else some false := by
 simp only [eqFs, hx, hy, hb]
 cases b <;> rfl
theorem zhw (k : IntKind) (a b : Int) : eqV .int (.int k a) (.int k b) = some (decide (a = b)) := by simp [eqV, bq]
theorem zfJ (k : IntKind) (a b : Nat) : eqV .int (.int k (a : Int)) (.int k (b : Int)) = some (decide (a = b)) := by
 rw [zhw]
 by_cases h : a = b
 ·simp [h]
 ·have : ¬ (a : Int) = b := by omega
  simp [h, this]
theorem zrC (a b : List UInt8) : eqV .str (.str a) (.str b) = some (decide (a = b)) := by
 rw [znx]
 by_cases h : a = b <;> simp [h]
theorem ifs (a b : Bool) : (if a = true then some b else some false) = some (a && b) := by cases a <;> rfl
theorem zkj (a b : Pfx) : eqV (TS.st [(0, 1, false, TS.int), (1, 1, false, TS.int), (2, 1, false, TS.str), (3, 1, false, TS.int)]) (.agg (pfxC a)) (.agg (pfxC b)) = some (decide (a = b)) := by
 show eqFs _ _ _ = _
 rw [zbg rfl rfl (zhw _ _ _), zbg rfl rfl (zfJ _ _ _), zbg rfl rfl (zrC _ _), zbg rfl rfl (zhw _ _ _), show eqFs [] (pfxC a) (pfxC b) = some true from rfl]
 simp only [ifs]
 obtain ⟨f, r, s, l⟩ := a
 obtain ⟨f', r', s', l'⟩ := b
 simp only [Pfx.mk.injEq, Bool.and_true, Bool.decide_and]
theorem zpG (a b : Nl) : eqV (TS.st [(0, 4, true, (TS.st [(0, 1, false, TS.int), (1, 1, false, TS.int), (2, 1, false, TS.str), (3, 1, false, TS.int)])), (4, 1, false, TS.int), (5, 1, false, TS.int)]) (.agg (nlC a)) (.agg (nlC b)) = some (decide (a = b)) := by
 show eqFs _ _ _ = _
 rw [zbg (x := .agg (pfxC a.p)) (y := .agg (pfxC b.p)) rfl rfl (zkj _ _), zbg rfl rfl (zfJ _ _ _), zbg rfl rfl (zfJ _ _ _), show eqFs [] (nlC a) (nlC b) = some true from rfl]
 simp only [ifs]
 obtain ⟨p, i, c⟩ := a
 obtain ⟨p', i', c'⟩ := b
 simp only [Nl.mk.injEq, Bool.and_true, Bool.decide_and]
def zod : List V -> Option V
 | [.agg [.int .i64 f, .int .u64 r, .str s, .int .i64 l], .agg [.int .i64 f', .int .u64 r', .str s', .int .i64 l']] => some (.int .i64 (cmp4 f r l f' r' l' s s'))
 | _ => none
def zmm : List V -> Option V
 | [.int .u32 a, .int .u32 b] => some (.int .i64 (cmpI a b))
 | _ => none
theorem zn2 : ∀ p ∈ [(16, zod), (81, zmm)], ∀ vals v, p.2 vals = some v -> ∀ h, Acalls Tryz.prog p.1 vals h fun u h' => u = v ∧ h' = h := by
 intro p hp vals v e h
 simp only [List.mem_cons, List.not_mem_nil, or_false] at hp
 rcases hp with rfl | rfl
 ·simp only [zod] at e
  split at e
  ·cases e; exact zis _ ⟨rfl, rfl⟩
  ·cases e
 ·simp only [zmm] at e
  split at e
  ·cases e; exact zgg _ ⟨rfl, rfl⟩
  ·cases e
end Go.Am

namespace Go.Am
open Go.Proofs

set_option maxRecDepth 100000
end Go.Am

namespace Go.Am
open Go.Proofs

set_option maxRecDepth 100000
end Go.Am

namespace Go.Am
open Go.Proofs

set_option maxRecDepth 100000
@[simp] theorem zpP (i n o : Nat) : (V.ptr i n o).solid = true := _root_.id rfl
@[simp] theorem zpL (i n o : Nat) : (V.ptr i n o).cells = [.ptr i n o] := _root_.id rfl
def Gb (h : H) (lo : Nat) (v : V) (l : List UInt8) : Prop :=
 (l = [] ∧ v = .nilsl) ∨ (l ≠ [] ∧ ∃ j, lo ≤ j ∧ j < h.next ∧ v = .sl j l.length 0 l.length none ∧ h.get j = some (.grow 1 (l.map zcg)))
theorem Gb.one {h : H} {lo : Nat} {v : V} {l : List UInt8} (g : Gb h lo v l) : v.one = true := by
 rcases g with ⟨_, rfl⟩ | ⟨_, j, _, _, rfl, _⟩ <;> rfl
theorem zgs (l : List UInt8) : (l.map zcg).all V.one = true := by simp [zcg]
theorem Gb.append {h : H} {lo : Nat} {v : V} {l : List UInt8} (g : Gb h lo v l) (hlo : lo ≤ h.next) (s : List UInt8) (hb : l.length + s.length ≤ 1000000000) :
  ∃ v' d, zaG h.get h.next 1 1 v (.str s) = some (v', d) ∧ Gb (h.app d) lo v' (l ++ s) ∧ h.next ≤ (h.app d).next ∧ (∀ b cs, h.get b = some (.row cs) -> b < h.next -> (h.app d).get b = some (.row cs)) ∧ (∀ b, b < lo -> (h.app d).get b = h.get b) ∧ (h.WF -> (h.app d).WF) := by
 have hx : zaB h.get 1 (.str s) = some (s.length, s.map zcg) := by simp [zaB]
 by_cases h0 : s = []
 ·subst h0
  refine ⟨v, .keep, ?_, by simpa using g, Nat.le_refl _, fun _ _ e _ => e, fun _ _ => rfl, fun w => w⟩
  unfold zaG
  rw [hx]
  rcases g with ⟨_, rfl⟩ | ⟨_, j, _, _, rfl, _⟩ <;> simp
 ·have hs : s.length ≠ 0 := by simpa using h0
  rcases g with ⟨rfl, rfl⟩ | ⟨hne, j, g1, g2, rfl, g3⟩
  ·refine ⟨_, _, zds hx hs (zgs s) (by omega) (by simp at hb; omega) (by simp at hb; omega), .inr ⟨by simpa using h0, h.next, hlo, by simp, by simp, by simp⟩, by simp, fun b cs e hlt => ?_, fun b hb => ?_, fun w => w.push _⟩
   ·rw [zeB, H.get_push, if_neg (by omega)]; exact e
   ·rw [zeB, H.get_push, if_neg (by omega)]
  ·refine ⟨_, _, zcO g3 (by simp) (by simp) hx hs (zgs s) (by omega) (by omega) (by omega), .inr ⟨by simp [hne], j, g1, by simpa using g2, by simp, by simp⟩, by simp, fun b cs e hlt => ?_, fun b hb => ?_, fun w => w.set g2 _⟩
   ·rw [zgf, H.get_set]
    split
    ·rename_i e2; rw [e2, g3] at e; cases e
    ·exact e
   ·rw [zgf, H.get_set, if_neg (by omega)]
structure Buf (h0 : H) (o : Nat) (acc : List UInt8) (h : H) : Prop where
 ge : Ge h0 h
 wf : h.WF
 lt : o < h.next
 lo : h0.next ≤ o
 at_ : ∃ v, h.get o = some (.row [v]) ∧ Gb h (o + 1) v acc
def Keeps (o : Nat) (h h' : H) : Prop := h.next ≤ h'.next ∧ ∀ b cs, b ≠ o -> h.get b = some (.row cs) -> h'.get b = some (.row cs)
theorem Keeps.refl (o : Nat) (h : H) : Keeps o h h := ⟨Nat.le_refl _, fun _ _ _ e => e⟩
theorem Keeps.trans {o : Nat} {a b c : H} (x : Keeps o a b) (y : Keeps o b c) : Keeps o a c := ⟨Nat.le_trans x.1 y.1, fun i cs hi e => y.2 i cs hi (x.2 i cs hi e)⟩
theorem Keeps.push {o : Nat} {h h' : H} (k : Keeps o h h') (w : h'.WF) (x : O) : Keeps o h (h'.push x) := ⟨by have := k.1; simp; omega, fun b cs hb e => by
 have := k.2 b cs hb e
 rw [H.get_push, if_neg (by have := w.lt this; omega)]; exact this⟩
theorem Buf.push {h0 h : H} {o : Nat} {acc : List UInt8} (b : Buf h0 o acc h) (x : O) : Buf h0 o acc (h.push x) := by
 obtain ⟨v, h1, h2⟩ := b.at_
 have hlt := b.lt
 refine ⟨b.ge.push x, b.wf.push x, by have := b.lt; simp; omega, b.lo, v, by rw [H.get_push, if_neg (by omega)]; exact h1, ?_⟩
 rcases h2 with ⟨rfl, rfl⟩ | ⟨hne, j, g1, g2, rfl, g3⟩
 ·exact .inl ⟨rfl, rfl⟩
 ·exact .inr ⟨hne, j, g1, by simp; omega, rfl, by rw [H.get_push, if_neg (by omega)]; exact g3⟩
theorem Buf.set {h0 h : H} {o : Nat} {acc : List UInt8} (b : Buf h0 o acc h) {i : Nat} {cs : List V} (hi : h.get i = some (.row cs)) (hne : i ≠ o) (h0i : h0.next ≤ i) (x : O) : Buf h0 o acc (h.set i x) := by
 obtain ⟨v, h1, h2⟩ := b.at_
 refine ⟨b.ge.set h0i x, b.wf.set (b.wf.lt hi) x, b.lt, b.lo, v, by rw [H.get_set, if_neg (Ne.symm hne)]; exact h1, ?_⟩
 rcases h2 with ⟨rfl, rfl⟩ | ⟨hne2, j, g1, g2, rfl, g3⟩
 ·exact .inl ⟨rfl, rfl⟩
 ·exact .inr ⟨hne2, j, g1, g2, rfl, by rw [H.get_set, if_neg (fun e => by rw [e, hi] at g3; cases g3)]; exact g3⟩
theorem Buf.add {h0 h : H} {o : Nat} {acc : List UInt8} (b : Buf h0 o acc h) (s : List UInt8) (hb : acc.length + s.length ≤ 1000000000) :
  ∃ v v' d, h.get o = some (.row [v]) ∧ zaG h.get h.next 1 1 v (.str s) = some (v', d) ∧ v'.one = true ∧ (h.app d).get o = some (.row [v]) ∧ Buf h0 o (acc ++ s) ((h.app d).set o (.row [v'])) ∧ Keeps o h ((h.app d).set o (.row [v'])) := by
 obtain ⟨v, h1, h2⟩ := b.at_
 have hlt := b.lt
 have hlo := b.lo
 obtain ⟨v', d, a1, a2, a3, a4, a5, a6⟩ := h2.append (by omega) s hb
 have go : (h.app d).get o = some (.row [v]) := a4 o _ h1 hlt
 have hw := a6 b.wf
 refine ⟨v, v', d, h1, a1, a2.one, go, ⟨?_, hw.set (hw.lt go) _, by have := b.lt; simp; omega, hlo, v', by simp, ?_⟩, ⟨by simpa using a3, fun x cs hx e => ?_⟩⟩
 ·refine Ge.set ⟨by have := b.ge.1; omega, fun i hi => ?_⟩ hlo _
  rw [a5 i (by omega)]
  exact b.ge.2 i hi
 ·rcases a2 with ⟨e1, e2⟩ | ⟨hne, j, g1, g2, e2, g3⟩
  ·exact .inl ⟨e1, e2⟩
  ·exact .inr ⟨hne, j, g1, by simpa using g2, e2, by rw [H.get_set, if_neg (by omega)]; exact g3⟩
 ·rw [H.get_set, if_neg hx]
  exact a4 x cs e (b.wf.lt e)
structure NlFit (n : Nl) : Prop where
 id : n.id < 4294967296
 rd : n.p.rd < 18446744073709551616
end Go.Am

namespace Go.Am
open Go.Proofs

set_option maxRecDepth 100000
def zpC : List V -> Option V
 | [.int .i64 f] => some (.int .i64 (zmw f : Nat))
 | _ => none
@[simp] theorem zpw (f : Int) : zpC [.int .i64 f] = some (.int .i64 (zmw f : Nat)) := rfl
end Go.Am

namespace Go.Am
open Go.Proofs

set_option maxRecDepth 100000
end Go.Am

namespace Go.Am
open Go.Proofs

set_option maxRecDepth 100000
end Go.Am

namespace Go.Am
open Go.Proofs

set_option maxRecDepth 100000
end Go.Am
