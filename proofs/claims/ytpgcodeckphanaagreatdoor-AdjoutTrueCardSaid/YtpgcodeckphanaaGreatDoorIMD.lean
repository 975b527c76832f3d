/-
 PC5, PL0, PC6, PC7, PC8, PP0, PP1, PP2, PP3, PP4, PP5, AJ0, AJ1, AJ2, AJ3, AW0, AW1, AW2, AW3, PC9, AP0, AP1, AA0, AA1, AA2, AAD, AB0, AB1, AB2, in one text.
-/
import Derived.Test.YtpgcodeckphanaaGreatDoorIMC
import Derived.Test.YtpgcodeckphanaaGreatDoorIMA
import Derived.Test.YtpgcodeckphanaaGreatDoorIAm32
import Derived.Test.YtpgcodeckphanaaGreatDoorIShS
import Derived.Test.YtpgcodeckphanaaGreatDoorIAm40
import Derived.Test.YtpgcodeckphanaaGreatDoorIMB
import Derived.Test.YtpgcodeckphanaaGreatDoorIAm37
import Derived.Test.YtpgcodeckphanaaGreatDoorIAmL
import Derived.Test.YtpgcodeckphanaaGreatDoorIAm21
import Derived.Test.YtpgcodeckphanaaGreatDoorIAm36
import Derived.Test.YtpgcodeckphanaaGreatDoorIQwTab
import Derived.KernelRfl
import Derived.Test.YtpgcodeckphanaaGreatDoorIAm33
namespace Go.Am
open Go.Proofs

set_option maxRecDepth 100000
theorem zpu {h : H} {q : Nat} {a b : Int} (hq : h.get q = some (.row [.int .i64 a, .int .i64 b])) : Pure Tryz.prog 80 [.sl q 2 0 2 (some 2)] h (.int .i64 (orI a b)) := by
 refine zah Tryz.func80 S.a32c S.a32e rfl (Nat.le_of_ble_eq_true rfl) fun wf => ?_; simp only [S.a32]
 have c1 : zab h.get q 2 = some [.int .i64 a, .int .i64 b] := by rw [zai hq (by rfl)]; rfl
 simp
 refine zaz (fun i t h' => (t 3 = .int .i64 0 ∧ t 6 = .sl q 2 0 2 (some 2) ∧ t 7 = .int .i64 2 ∧ t 8 = .int .i64 (i : Nat)) ∧ h = h' ∧ (0 < i -> a = 0) ∧ (1 < i -> b = 0)) 2 ⟨by simp, rfl, by omega, by omega⟩ ?_
 rintro i t h' hi ⟨⟨t3, t6, t7, t8⟩, rfl, k1, k2⟩ K hK
 have w1 : IntKind.i64.wrap 1 = 1 := by decide
 have w2 : IntKind.i64.wrap 2 = 2 := by decide
 rcases (by omega : i = 0 ∨ i = 1 ∨ i = 2) with rfl | rfl | rfl
 ·by_cases hz : a = 0
  ·simp [t3, t6, t7, t8, c1, hz, w1]
   exact hK _ _ (by omega) ⟨by simp [t3, t6, t7], rfl, fun _ => hz, by omega⟩
  ·have hb : (a != 0) = true := by simpa using hz
   simp [t3, t6, t7, t8, c1, hb, zcG hz]
 ·have z1 := k1 (by omega)
  by_cases hz : b = 0
  ·simp [t3, t6, t7, t8, c1, hz, w2]
   exact hK _ _ (by omega) ⟨by simp [t3, t6, t7], rfl, fun _ => z1, fun _ => hz⟩
  ·have hb : (b != 0) = true := by simpa using hz
   simp [t3, t6, t7, t8, c1, hb, z1, zbh]
 ·have z1 := k1 (by omega)
  have z2 := k2 (by omega)
  simp [t3, t7, t8, z1, z2, zbh]
theorem zlu {h : H} {a b : Chg} {vp vc vx vl vk wp wc wx wl wk : V} (o1 : vp.one = true) (o2 : vc.one = true) (o3 : vx.one = true) (o4 : vl.one = true) (o5 : vk.one = true) (p1 : wp.one = true) (p2 : wc.one = true) (p3 : wx.one = true) (p4 : wl.one = true) (p5 : wk.one = true) :
  Pure Tryz.prog 94 [.agg (chC a vp vc vx vl vk), .agg (chC b wp wc wx wl wk)] h (.int .i64 (cmpC a b)) := by
 refine zah Tryz.func94 S.a44c S.a44e rfl (Nat.le_of_ble_eq_true rfl) fun wf => ?_; simp only [S.a44]
 obtain ⟨h2, hh2⟩ : ∃ h2, h2 = (h.push (.row (chC a vp vc vx vl vk))).push (.row (chC b wp wc wx wl wk)) := ⟨_, rfl⟩
 have g2 : Ge h h2 := by rw [hh2]; exact ((Ge.refl _).push _).push _
 have n01 : ¬ h.next = h.next + 1 := by omega
 have c1 : zab h2.get h.next 23 = some (chC a vp vc vx vl vk) := by rw [hh2]; simp [chC]
 have c2 : zab h2.get (h.next + 1) 23 = some (chC b wp wc wx wl wk) := by rw [hh2]; simp [chC]
 simp only [chC] at hh2 c1 c2 ⊢
 simp [o1, o2, o3, o4, o5, p1, p2, p3, p4, p5]
 rw [<- hh2]
 have r2 : zaq 2 [V.int .i64 0] = [.int .i64 0, .int .i64 0] := rfl
 refine zft _ zn2 (by rfl) ?_
 simp [List.lookup, c1, c2, zod]
 refine zew (zpu (q := h2.next) (a := cmp4 a.n.p.fam a.n.p.rd a.n.p.len b.n.p.fam b.n.p.rd b.n.p.len a.n.p.addr b.n.p.addr) (b := cmpI a.n.id b.n.id) (by simp [r2])) ?_
 simp [cmpC, zi2, zad, zfl, cmp4]
 exact g2.push _
open Go.Sort in
theorem swo_c : SWO (ltOf cmpC) := by
 refine ⟨fun x => ?_, fun x y z h1 h2 => ?_, fun x y z h1 h2 => ?_⟩
 ·simp [ltOf, ordr_c.self x]
 ·simp only [ltOf, decide_eq_true_eq] at *
  exact ordr_c.down _ _ _ h1 h2
 ·simp only [ltOf, decide_eq_false_iff_not] at *
  intro h
  have a := ordr_c.anti x y
  rcases Int.lt_trichotomy (cmpC y x) 0 with k | k | k
  ·exact h2 (ordr_c.down y x z k h)
  ·have := ordr_c.same y x z k; omega
  ·omega
open Go.Sort in
theorem zlF {h : H} {j : Nat} {ca : Option Nat} {l : List (Chg × List V)} {o : O} (hg : h.get j = some o) (ho : o = .row (l.map Prod.snd).flatten ∨ o = .grow 23 (l.map Prod.snd).flatten) (he : ∀ x ∈ l, ∃ vp vc vx vl vk, x.2 = chC x.1 vp vc vx vl vk ∧ vp.one = true ∧ vc.one = true ∧ vx.one = true ∧ vl.one = true ∧ vk.one = true) (hl : l.length ≤ 1000000) (hne : l ≠ []) {g : FuncId} (heg : zaa Tryz.prog g = true)
  (hcmp : ∀ (a b : Chg) (h' : H), Pure Tryz.prog g [.agg (chC a .any .any .any .any .any), .agg (chC b .any .any .any .any .any)] h' (.int .i64 (cmpC a b))) {Q : V -> H -> Prop}
  (q : ∀ l' : List (Chg × List V), l'.Perm l -> l'.Pairwise (fun x y => ¬ cmpC y.1 x.1 < 0) -> Q (.tup []) (h.set j (match o with | .row _ => .row (l'.map Prod.snd).flatten | _ => .grow 23 (l'.map Prod.snd).flatten))) :
  Acalls Tryz.prog 78 [.sl j (l.length * 23) 0 l.length ca, .func (.func g) [] []] h Q := by
 have h23 : ∀ {m : List (Chg × List V)}, (∀ x ∈ m, x ∈ l) -> ∀ e ∈ m.map Prod.snd, e.length = 23 := fun hm e hx => by
  obtain ⟨x, hx1, rfl⟩ := List.mem_map.1 hx
  obtain ⟨_, _, _, _, _, e, _⟩ := he x (hm x hx1)
  rw [e]; rfl
 have hfl := zaF (h23 (m := l) fun x hx => hx)
 simp only [List.length_map] at hfl
 have hone : ∀ e ∈ l.map Prod.snd, e.all V.one = true := fun e hx => by
  obtain ⟨x, hx1, rfl⟩ := List.mem_map.1 hx
  obtain ⟨_, _, _, _, _, e, o1, o2, o3, o4, o5⟩ := he x hx1
  rw [e]; simp [chC, o1, o2, o3, o4, o5]
 have oc : o.cells = (l.map Prod.snd).flatten := by rcases ho with rfl | rfl <;> simp
 have orr : o.rowish = true := by rcases ho with rfl | rfl <;> rfl
 have ol : o.len = l.length * 23 := by rcases ho with rfl | rfl <;> simpa using hfl
 have S : SortIn h j (l.length * 23) 0 23 (l.map Prod.snd) o := ⟨hg, orr, ol, by rw [oc]; simp [hfl], by rw [oc]; simp only [List.drop_zero, List.length_map]; rw [<- hfl, List.take_length], h23 fun x hx => hx, hone⟩
 refine zk3 Tryz.sort78 (F := 78) (g := g) (k := 23) rfl (by kernel_rfl) Tryz.isAgg48 Tryz.sizeOf48 (by decide) S (encV := Prod.snd) (shV := fun x => chC x.1 .any .any .any .any .any) (cmpB := fun x y => cmpC x.1 y.1) ⟨fun x => swo_c.irrefl _, fun x y z => swo_c.trans _ _ _, fun x y z => swo_c.ntrans _ _ _⟩ (fun x hx => ?_) heg rfl (by omega) (List.length_pos_iff.2 hne) (fun x _ y _ h' => hcmp x.1 y.1 h') (fun l' o' hp hs hput => ?_)
 ·obtain ⟨vp, vc, vx, vl, vk, e, o1, o2, o3, o4, o5⟩ := he x hx
  rw [e]
  have nr : ∀ v : V, v.ids = [] -> Weak v v := fun v hv => .inr ⟨rfl, hv⟩
  have an : ∀ v : V, v.one = true -> Weak v .any := fun v hv => .inl ⟨rfl, hv⟩
  exact .cons (nr _ rfl) (.cons (nr _ rfl) (.cons (nr _ rfl) (.cons (nr _ rfl) (.cons (nr _ rfl) (.cons (nr _ rfl) (.cons (nr _ rfl) (.cons (nr _ rfl) (.cons (an _ o1) (.cons (nr _ rfl) (.cons (nr _ rfl) (.cons (nr _ rfl) (.cons (nr _ rfl) (.cons (nr _ rfl) (.cons (nr _ rfl) (.cons (nr _ rfl) (.cons (nr _ rfl) (.cons (an _ o2) (.cons (an _ o3) (.cons (an _ o4) (.cons (nr _ rfl) (.cons (nr _ rfl) (.cons (an _ o5) .nil))))))))))))))))))))))
 ·have hfl' := zaF (h23 (m := l') fun x hx => hp.mem_iff.1 hx)
  simp only [List.length_map] at hfl'
  have hle := hp.length_eq
  have hs' : l'.Pairwise (fun x y => ¬ cmpC y.1 x.1 < 0) := hs.imp fun {a b} h => by simpa [ltOf] using h
  have hQ := q l' hp hs'
  rcases ho with rfl | rfl
  ·have e : o' = .row (l'.map Prod.snd).flatten := by
    rw [zkD, if_pos (by rw [hfl', hfl, hle]; omega)] at hput
    cases hput
    unfold putCells
    rw [List.take_zero, List.nil_append, Nat.zero_add, hfl', hle, <- hfl, List.drop_length, List.append_nil]
   rw [e]; exact hQ
  ·have e : o' = .grow 23 (l'.map Prod.snd).flatten := by
    rw [zh1, if_pos (by rw [hfl', hfl, hle]; omega)] at hput
    cases hput
    unfold putCells
    rw [List.take_zero, List.nil_append, Nat.zero_add, hfl', hle, <- hfl, List.drop_length, List.append_nil]
   rw [e]; exact hQ
end Go.Am

namespace Go.Am

structure Pc where
 gap : Nat
 op : Nat
 last : Nat
 S : List Chg
def zrX (P : Pc) (l : List Chg) : Pc := ⟨P.gap, P.op, P.last, l.foldl putC P.S⟩
theorem zbS : ∀ (l S : List Chg), Rise cmpC S -> Rise cmpC (l.foldl putC S)
 | [], _, h => h
 | _ :: l, _, h => zbS l _ (zbE h)
structure Stp where
 key : Nat
 wait : Nat
 gone : Bool
 fire : Bool
def attM (i : Nat) : Att := ⟨0, [], [], true, i, false, 0, false, 0, 0, [], [], [], false, 0, []⟩
def nlOf (k : Nat) : Nl := ⟨⟨1, 0, [UInt8.ofNat (10 + k % 4), 0, 0, 0], 8⟩, k % 8 / 4, 0⟩
def zfk (x : Stp) (i : Nat) : Chg := ⟨x.gone, nlOf x.key, if x.gone = true then att0 else attM i⟩
def ixOf (c : Chg) : Nat := ((c.n.p.addr.getD 0 0).toNat - 10) + 4 * c.n.id
theorem zhX (x : Stp) (i : Nat) : ixOf (zfk x i) = x.key % 8 := by
 have : (UInt8.ofNat (10 + x.key % 4)).toNat = 10 + x.key % 4 := by
  rw [UInt8.toNat_ofNat']; omega
 simp only [ixOf, zfk, nlOf, List.getD_cons_zero, this]
 omega
theorem zoo {x y : Stp} {i j : Nat} (h : x.key % 8 = y.key % 8) : zad (zfk x i) = zad (zfk y j) := by
 have h1 : x.key % 4 = y.key % 4 := by omega
 simp only [zad, zfk, nlOf, h, h1]
def zqs (l : List Stp) (put sent : Nat -> Nat) (c : Chg) : Prop := ∃ k x, k < 8 ∧ put k ≠ sent k ∧ l[put k - 1]? = some x ∧ x.key % 8 = k ∧ c = zfk x (put k - 1)
structure PInv (g : Nat) (l : List Stp) (i : Nat) (P : Pc) (put sent : Nat -> Nat) : Prop where
 gap : P.gap = g
 le : ∀ k, k < 8 -> sent k ≤ put k
 pl : ∀ k, k < 8 -> put k ≤ i
 pk : ∀ k, k < 8 -> 0 < put k -> ∃ x, l[put k - 1]? = some x ∧ x.key % 8 = k
 rise : Rise cmpC P.S
 mem : ∀ c, c ∈ P.S ↔ zqs l put sent c
theorem PInv.zero (g : Nat) (l : List Stp) (op last : Nat) : PInv g l 0 ⟨g, op, last, []⟩ (fun _ => 0) (fun _ => 0) :=
 ⟨rfl, fun _ _ => Nat.le_refl _, fun _ _ => Nat.le_refl _, fun _ _ h => by omega, List.Pairwise.nil, fun c => ⟨fun h => (by cases h), fun ⟨_, _, _, h, _⟩ => absurd rfl h⟩⟩
def upAt (f : Nat -> Nat) (j v : Nat) : Nat -> Nat := fun k => if k = j then v else f k
theorem zcY (f : Nat -> Nat) (j v : Nat) : upAt f j v j = v := by simp [upAt]
theorem zeY (f : Nat -> Nat) {j k : Nat} (v : Nat) (h : k ≠ j) : upAt f j v k = f k := by simp [upAt, h]
theorem PInv.put {g i : Nat} {l : List Stp} {P : Pc} {put sent : Nat -> Nat} (v : PInv g l i P put sent) {x : Stp} (hx : l[i]? = some x) :
  PInv g l (i + 1) (zrX P [zfk x i]) (upAt put (x.key % 8) (i + 1)) sent := by
 refine ⟨v.gap, fun k hk => ?_, fun k hk => ?_, fun k hk hp => ?_, zbE v.rise, fun c => ?_⟩
 ·have := v.le k hk
  have := v.pl k hk
  unfold upAt
  split <;> omega
 ·have := v.pl k hk
  unfold upAt
  split <;> omega
 ·by_cases e : k = x.key % 8
  ·subst e; rw [zcY]; exact ⟨x, by simpa using hx, rfl⟩
  ·rw [zeY _ _ e] at hp ⊢; exact v.pk k hk hp
 ·show c ∈ putC P.S (zfk x i) ↔ _
  rw [zce v.rise]
  constructor
  ·rintro (rfl | ⟨hc, hne⟩)
   ·refine ⟨x.key % 8, x, Nat.mod_lt _ (by decide), ?_, by rw [zcY]; simpa using hx, rfl, by rw [zcY]; simp⟩
    have := v.le (x.key % 8) (Nat.mod_lt _ (by decide))
    have := v.pl (x.key % 8) (Nat.mod_lt _ (by decide))
    rw [zcY]; omega
   ·obtain ⟨k, y, hk, h1, h2, h3, rfl⟩ := (v.mem c).1 hc
    have hkx : k ≠ x.key % 8 := fun e => hne (zoo (h3.trans e))
    exact ⟨k, y, hk, by rw [zeY _ _ hkx]; exact h1, by rw [zeY _ _ hkx]; exact h2, h3, by rw [zeY _ _ hkx]⟩
  ·rintro ⟨k, y, hk, h1, h2, h3, rfl⟩
   by_cases e : k = x.key % 8
   ·subst e
    rw [zcY] at h2 ⊢
    simp only [Nat.add_sub_cancel, hx, Option.some.injEq] at h2
    subst h2
    exact .inl (by simp)
   ·rw [zeY _ _ e] at h1 h2 ⊢
    refine .inr ⟨(v.mem _).2 ⟨k, y, hk, h1, h2, h3, rfl⟩, fun e2 => e ?_⟩
    have a := zhX y (put k - 1)
    have b := zhX x i
    unfold ixOf at a b
    simp only [zad, Ky.mk.injEq] at e2
    rw [e2.1, e2.2] at a
    omega
theorem PInv.up {g i : Nat} {l : List Stp} {P : Pc} {put sent : Nat -> Nat} (v : PInv g l i P put sent) : PInv g l (i + 1) P put sent :=
 ⟨v.gap, v.le, fun k hk => Nat.le_succ_of_le (v.pl k hk), v.pk, v.rise, v.mem⟩
def zkh (put : Nat -> Nat) (sent : Nat -> Nat) (m : List Chg) : Nat -> Nat := fun k => if k ∈ m.map ixOf then put k else sent k
theorem PInv.one {g i : Nat} {l : List Stp} {P : Pc} {put sent : Nat -> Nat} (v : PInv g l i P put sent) {c : Chg} (hc : c ∈ P.S) :
  ixOf c < 8 ∧ 0 < put (ixOf c) ∧ put (ixOf c) ≤ i ∧ put (ixOf c) ≠ sent (ixOf c) ∧ ∃ x, l[put (ixOf c) - 1]? = some x ∧ x.key % 8 = ixOf c ∧ c = zfk x (put (ixOf c) - 1) := by
 obtain ⟨k, x, hk, h1, h2, h3, rfl⟩ := (v.mem c).1 hc
 rw [zhX, h3]
 have := v.le k hk
 exact ⟨hk, by omega, v.pl k hk, h1, x, h2, h3, rfl⟩
theorem PInv.ix_nodup {g i : Nat} {l : List Stp} {P : Pc} {put sent : Nat -> Nat} (v : PInv g l i P put sent) : (P.S.map ixOf).Nodup := by
 unfold List.Nodup
 rw [List.pairwise_map]
 refine v.rise.imp_of_mem fun {a b} ha hb hab e => ?_
 obtain ⟨_, _, _, _, x, hx, _, ea⟩ := v.one ha
 obtain ⟨_, _, _, _, y, hy, _, eb⟩ := v.one hb
 rw [e, hy] at hx
 cases hx
 have : a = b := by rw [ea, eb, e]
 subst this
 have := ordr_c.self a
 omega
theorem PInv.ix_mem {g i : Nat} {l : List Stp} {P : Pc} {put sent : Nat -> Nat} (v : PInv g l i P put sent) {k : Nat} (hk : k < 8) : k ∈ P.S.map ixOf ↔ put k ≠ sent k := by
 constructor
 ·intro h
  obtain ⟨c, hc, rfl⟩ := List.mem_map.1 h
  exact (v.one hc).2.2.2.1
 ·intro h
  have h0 : 0 < put k := by have := v.le k hk; omega
  obtain ⟨x, hx, e⟩ := v.pk k hk h0
  refine List.mem_map.2 ⟨zfk x (put k - 1), (v.mem _).2 ⟨k, x, hk, h, hx, e, rfl⟩, ?_⟩
  rw [zhX, e]
theorem PInv.count {g i : Nat} {l : List Stp} {P : Pc} {put sent : Nat -> Nat} (v : PInv g l i P put sent) : P.S.length = ((List.range 8).filter fun k => decide (put k ≠ sent k)).length := by
 have : (P.S.map ixOf).Perm ((List.range 8).filter fun k => decide (put k ≠ sent k)) := by
  refine (List.perm_ext_iff_of_nodup v.ix_nodup (List.nodup_range.filter _)).2 fun k => ?_
  rw [List.mem_filter, decide_eq_true_eq, List.mem_range]
  constructor
  ·intro h
   obtain ⟨c, hc, rfl⟩ := List.mem_map.1 h
   have := v.one hc
   exact ⟨this.1, this.2.2.2.1⟩
  ·exact fun ⟨h1, h2⟩ => (v.ix_mem h1).2 h2
 rw [<- this.length_eq, List.length_map]
theorem PInv.gone {g i : Nat} {l : List Stp} {P : Pc} {put sent : Nat -> Nat} (v : PInv g l i P put sent) (op last : Nat) : PInv g l i ⟨P.gap, op, last, []⟩ put (zkh put sent P.S) := by
 refine ⟨v.gap, fun k hk => ?_, v.pl, v.pk, List.Pairwise.nil, fun c => ⟨fun h => (by cases h), ?_⟩⟩
 ·have := v.le k hk
  unfold zkh
  split <;> omega
 ·rintro ⟨k, x, hk, h1, _⟩
  unfold zkh at h1
  split at h1
  ·exact absurd rfl h1
  ·rename_i h2
   exact absurd ((v.ix_mem hk).2 h1) h2
theorem PInv.with {g i : Nat} {l : List Stp} {P : Pc} {put sent : Nat -> Nat} (v : PInv g l i P put sent) (op last : Nat) : PInv g l i ⟨P.gap, op, last, P.S⟩ put sent := ⟨v.gap, v.le, v.pl, v.pk, v.rise, v.mem⟩
end Go.Am

namespace Go.Am
open Go.Proofs

set_option maxRecDepth 100000
theorem zp3 {h : H} : Pure Tryz.prog 149 [.int .u64 0] h (.int .i64 0) := by
 refine zah Tryz.func149 S.a59c S.a59e rfl (Nat.le_of_ble_eq_true rfl) fun wf => ?_; simp only [S.a59]
 have w : IntKind.u8.wrap 0 = 0 := by decide
 have w2 : IntKind.i64.wrap 0 = 0 := by decide
 simp [w, w2]
theorem lenz {h : H} : Pure Tryz.prog 115 [.int .u64 0] h (.int .i64 0) := by
 refine zah Tryz.func115 S.a51c S.a51e rfl (Nat.le_of_ble_eq_true rfl) fun wf => ?_; simp only [S.a51]
 simp
 refine zp3 _ ?_
 simp
theorem zpX {h : H} {v c : V} : Pure Tryz.prog 140 [v, .int .i64 0, .int .i64 0, c] h (.tup []) := by
 refine zah Tryz.func140 S.a58c S.a58e rfl (Nat.le_of_ble_eq_true rfl) fun wf => ?_; simp only [S.a58]
 have w : IntKind.i64.wrap 1 = 1 := by decide
 simp [w]
 refine zaz (fun i t h' => (t 2 = .int .i64 0 ∧ t 8 = .int .i64 1) ∧ h' = h) 0 ⟨by simp, rfl⟩ ?_
 rintro i t h' hi ⟨⟨t2, t8⟩, rfl⟩ K hK
 simp [t2, t8]
theorem pdqz {h : H} {v lim c : V} : Pure Tryz.prog 114 [v, .int .i64 0, .int .i64 0, lim, c] h (.tup []) := by
 refine zah Tryz.func114 S.a50c S.a50e rfl (Nat.le_of_ble_eq_true rfl) fun wf => ?_; simp only [S.a50]
 have w : IntKind.i64.wrap 0 = 0 := by decide
 simp
 refine zaz (fun i t h' => (t 0 = v ∧ t 1 = .int .i64 0 ∧ t 2 = .int .i64 0 ∧ t 4 = c) ∧ h' = h) 0 ⟨by simp, rfl⟩ ?_
 rintro i t h' hi ⟨⟨t0, t1, t2, t4⟩, rfl⟩ K hK
 simp [t0, t1, t2, t4, w]
 refine zpX _ ?_
 simp
theorem zrA {h : H} {v c : V} (hv : ∀ g, lenV 1 g v = some (.int .i64 0)) : Pure Tryz.prog 78 [v, c] h (.tup []) := by
 refine zah Tryz.func78 S.a31c S.a31e rfl (Nat.le_of_ble_eq_true rfl) fun wf => ?_; simp only [S.a31]
 have w : IntKind.u64.wrap 0 = 0 := by decide
 simp [hv, w]
 refine lenz _ ?_
 simp
 refine pdqz _ ?_
 simp

theorem zgG {S : List Chg} (hk : zas S) (hw : S.Pairwise fun x y => ¬ cmpC y x < 0) : Rise cmpC S := by
 unfold zas List.Nodup at hk
 rw [List.pairwise_map] at hk
 refine (hk.and hw).imp fun {a b} h => ?_
 have h1 := ordr_c.anti a b
 have h2 : cmpC a b ≠ 0 := fun e => h.1 (zhh e)
 have := h.2
 omega
def HeldAt (h : H) (R : Nat -> Prop) (m : Nat) (S : List Chg) : Prop := ∃ es bs tk L, h.get m = some (.mapo es bs tk) ∧ MapB es bs tk ∧ Srt L S ∧ es.length = L.length ∧ ∀ (i : Nat) (c : Chg), L[i]? = some c -> ∃ e, es[i]? = some (kyV (zad c), .agg e) ∧ ChP h R c e
structure PaceAt (h : H) (R : Nat -> Prop) (p m : Nat) (P : Pc) : Prop where
 row : h.get p = some (.row [.int .i64 (P.gap : Nat), .int .u64 (P.op : Nat), .int .u64 (P.last : Nat), .map m])
 held : HeldAt h R m P.S
theorem HeldAt.keep {h h' : H} {R : Nat -> Prop} {m : Nat} {S : List Chg} (x : HeldAt h R m S) (hn : h.next ≤ h'.next) (hm : h'.get m = h.get m) (k : ∀ j s cs, R j -> j < h.next -> h.get j = some (.grow s cs) -> h'.get j = some (.grow s cs)) : HeldAt h' R m S := by
 obtain ⟨es, bs, tk, L, a, b, c, d, e⟩ := x
 exact ⟨es, bs, tk, L, hm.trans a, b, c, d, fun i q hi => by obtain ⟨e1, h1, h2⟩ := e i q hi; exact ⟨e1, h1, h2.keep hn k⟩⟩
theorem HeldAt.mono {h : H} {R R' : Nat -> Prop} {m : Nat} {S : List Chg} (x : HeldAt h R m S) (k : ∀ j, j < h.next -> R j -> R' j) : HeldAt h R' m S := by
 obtain ⟨es, bs, tk, L, a, b, c, d, e⟩ := x
 exact ⟨es, bs, tk, L, a, b, c, d, fun i q hi => by obtain ⟨e1, h1, h2⟩ := e i q hi; exact ⟨e1, h1, h2.mono k⟩⟩
theorem HeldAt.len {h : H} {R : Nat -> Prop} {m : Nat} {S : List Chg} (x : HeldAt h R m S) (g : Nat -> Option O) (hg : g m = h.get m) : lenV 2 g (.map m) = some (.int .i64 (S.length : Nat)) := by
 obtain ⟨es, bs, tk, L, a, b, c, d, e⟩ := x
 simp [lenV, hg, a, d, c.perm.length_eq]
def chg0 : Chg := ⟨false, ⟨zrY, 0, 0⟩, att0⟩
end Go.Am

namespace Go.Am
open Go.Proofs

set_option maxRecDepth 100000
structure But (h h' : H) (p m : Nat) : Prop where
 next : h.next ≤ h'.next
 keep : ∀ k, k < h.next -> k ≠ p -> k ≠ m -> h'.get k = h.get k
theorem But.refl (h : H) (p m : Nat) : But h h p m := ⟨Nat.le_refl _, fun _ _ _ _ => rfl⟩
theorem But.trans {a b c : H} {p m : Nat} (x : But a b p m) (y : But b c p m) : But a c p m := ⟨Nat.le_trans x.next y.next, fun k hk h1 h2 => (y.keep k (Nat.lt_of_lt_of_le hk x.next) h1 h2).trans (x.keep k hk h1 h2)⟩
theorem Ge.but {h h' : H} (g : Ge h h') (p m : Nat) : But h h' p m := ⟨g.1, fun k hk _ _ => g.2 k hk⟩
theorem PaceAt.lt {h : H} {R : Nat -> Prop} {p m : Nat} {P : Pc} (x : PaceAt h R p m P) (w : h.WF) : p < h.next ∧ m < h.next ∧ p ≠ m := by
 obtain ⟨es, bs, tk, L, a, _⟩ := x.held
 exact ⟨w.lt x.row, w.lt a, fun e => by subst e; rw [x.row] at a; cases a⟩
theorem PaceAt.keep {h h' : H} {R : Nat -> Prop} {p m : Nat} {P : Pc} (x : PaceAt h R p m P) (hn : h.next ≤ h'.next) (hp : h'.get p = h.get p) (hm : h'.get m = h.get m) (k : ∀ j s cs, R j -> j < h.next -> h.get j = some (.grow s cs) -> h'.get j = some (.grow s cs)) : PaceAt h' R p m P :=
 ⟨hp.trans x.row, x.held.keep hn hm k⟩
theorem PaceAt.ge {h h' : H} {R : Nat -> Prop} {p m : Nat} {P : Pc} (x : PaceAt h R p m P) (w : h.WF) (g : Ge h h') : PaceAt h' R p m P :=
 x.keep g.1 (g.2 _ (x.lt w).1) (g.2 _ (x.lt w).2.1) fun j _ _ _ hj e => (g.2 j hj).trans e
end Go.Am

namespace Go.Am
open Go.Proofs

set_option maxRecDepth 100000
def kyT : TS := .st [(0, 4, true, .st [(0, 1, false, .int), (1, 1, false, .int), (2, 1, false, .str), (3, 1, false, .int)]), (4, 1, false, .int)]
def kyD : KD := .st kyT 5
theorem zi4 (k : Ky) : zbB kyD (kyV k) = true := rfl
theorem zr4 (a b : Ky) : eqV kyT (kyV a) (kyV b) = some (decide (a = b)) := by
 have e1 := zkj a.p b.p
 simp only [pfxC] at e1
 show eqFs _ _ _ = _
 rw [zbg (b := decide (a.p = b.p)) rfl rfl (by simpa using e1), zbg (b := decide (a.id = b.id)) rfl rfl (zfJ _ _ _)]
 by_cases h1 : a.p = b.p <;> by_cases h2 : a.id = b.id <;> cases a <;> cases b <;> simp_all [eqFs]
theorem zed {ts : TS} {n : Nat} {k x e : V} {es : List (V × V)} {i : Nat} (h1 : zbB (.st ts n) x = true) : zb2 (.st ts n) k ((x, e) :: es) i = (match eqV ts k x with
  | some true => some (some (i, e))
  | some false => zb2 (.st ts n) k es (i + 1)
  | none => none) := by
 show (if zbB (.st ts n) x = true then _ else none) = _
 rw [if_pos h1]
 rfl
theorem zeA : ∀ (es : List (V × V)) (L : List Chg) (i0 : Nat), es.length = L.length -> (∀ (i : Nat) (c : Chg), L[i]? = some c -> ∃ e, es[i]? = some (kyV (zad c), e)) -> ∀ k : Ky,
  (∃ j, ∃ hj : j < L.length, ∃ e, zad L[j] = k ∧ (∀ a (ha : a < j), zad L[a] ≠ k) ∧ zb2 kyD (kyV k) es i0 = some (some (i0 + j, e))) ∨ ((∀ c ∈ L, zad c ≠ k) ∧ zb2 kyD (kyV k) es i0 = some none)
 | [], [], _, _, _, _ => .inr ⟨by simp, rfl⟩
 | [], _ :: _, _, h, _, _ => by simp at h
 | _ :: _, [], _, h, _, _ => by simp at h
 | x :: es, c :: L, i0, hl, he, k => by
  obtain ⟨e, e0⟩ := he 0 c rfl
  have hx : x = (kyV (zad c), e) := by simpa using e0
  subst hx
  have hq := zr4 k (zad c)
  by_cases hk : k = zad c
  ·refine .inl ⟨0, by simp, e, hk.symm, fun a ha => by omega, ?_⟩
   rw [kyD, zed rfl, hq]; simp [hk]
  ·have ih := zeA es L (i0 + 1) (by simpa using hl) (fun i c' hi => by simpa using he (i + 1) c' (by simpa using hi)) k
   have hf : zb2 kyD (kyV k) ((kyV (zad c), e) :: es) i0 = zb2 kyD (kyV k) es (i0 + 1) := by
    rw [kyD, zed rfl, hq]; simp [hk]
   rw [hf]
   rcases ih with ⟨j, hj, e', a1, a2, a3⟩ | ⟨a1, a2⟩
   ·refine .inl ⟨j + 1, by simpa using hj, e', a1, fun a ha => ?_, by rw [a3]; congr 3; omega⟩
    cases a with
    | zero => exact fun e => hk e.symm
    | succ a => exact a2 a (by omega)
   ·exact .inr ⟨fun c' hc' => (List.mem_cons.1 hc').elim (fun e => e ▸ fun e2 => hk e2.symm) (a1 c'), a2⟩
theorem HeldAt.set {h : H} {R : Nat -> Prop} {m : Nat} {S : List Chg} (x : HeldAt h R m S) (c : Chg) {e : List V} (hc : ChP h R c e) :
  ∃ o, zcj h.get kyD (.map m) (kyV (zad c)) (.agg e) = some (.set m o) ∧ HeldAt (h.set m o) R m (putC S c) := by
 obtain ⟨es, bs, tk, L, hm, mb, srt, hl, he⟩ := x
 have keepS : ∀ {o : O} {c : Chg} {e : List V}, ChP h R c e -> ChP (h.set m o) R c e := fun f => f.keep (by simp) fun j s' cs' _ _ hj => by rw [H.get_set, if_neg (fun e => by subst e; rw [hm] at hj; cases hj)]; exact hj
 rcases zeA es L 0 hl (fun i c' hi => by obtain ⟨e', a, _⟩ := he i c' hi; exact ⟨_, a⟩) (zad c) with ⟨j, hj, e', a1, a2, a3⟩ | ⟨a1, a2⟩
 ·refine ⟨.mapo (es.set j (kyV (zad c), .agg e)) bs tk, ?_, es.set j (kyV (zad c), .agg e), bs, tk, L.set j c, by simp, mb.set, ?_, by simpa using hl, fun i c' hi => ?_⟩
  ·unfold zcj
   rw [if_pos (zi4 _)]
   simp only [hm, a3, Nat.zero_add]
  ·have hu : upC L c = L.set j c := by
    rcases zjG L c with ⟨j', hj', b1, b2, b3⟩ | ⟨b1, _⟩
    ·have : j' = j := by
      rcases Nat.lt_trichotomy j j' with h1 | h1 | h1
      ·exact absurd a1 (b3 j h1)
      ·exact h1.symm
      ·exact absurd b1 (a2 j' h1)
     rw [b2, this]
    ·exact absurd a1 (b1 _ (List.getElem_mem hj))
   rw [<- hu]; exact srt.put c
  ·by_cases hij : i = j
   ·subst hij
    rw [List.getElem?_set_self hj, Option.some.injEq] at hi
    subst hi
    exact ⟨e, by rw [List.getElem?_set_self (by omega)], keepS hc⟩
   ·rw [List.getElem?_set_ne (by omega)] at hi
    obtain ⟨e1, b1, b2⟩ := he i c' hi
    exact ⟨e1, by rw [List.getElem?_set_ne (by omega)]; exact b1, keepS b2⟩
 ·refine ⟨.mapo (es ++ [(kyV (zad c), .agg e)]) (bs ++ [tk]) (tk + 1), ?_, es ++ [(kyV (zad c), .agg e)], bs ++ [tk], tk + 1, L ++ [c], by simp, mb.snoc, ?_, by simp [hl], fun i c' hi => ?_⟩
  ·unfold zcj
   rw [if_pos (zi4 _)]
   simp only [hm, a2]
  ·have hu : upC L c = L ++ [c] := by
    rcases zjG L c with ⟨j', hj', b1, _, _⟩ | ⟨_, b2⟩
    ·exact absurd b1 (a1 _ (List.getElem_mem hj'))
    ·exact b2
   rw [<- hu]; exact srt.put c
  ·by_cases hij : i < L.length
   ·rw [List.getElem?_append_left hij] at hi
    obtain ⟨e1, b1, b2⟩ := he i c' hi
    exact ⟨e1, by rw [List.getElem?_append_left (by omega)]; exact b1, keepS b2⟩
   ·rw [List.getElem?_append_right (by omega)] at hi
    have h0 : i - L.length = 0 := by
     rcases Nat.eq_zero_or_pos (i - L.length) with h | h
     ·exact h
     ·rw [List.getElem?_eq_none (by simp; omega)] at hi; cases hi
    rw [h0] at hi
    simp at hi
    subst hi
    exact ⟨e, by rw [List.getElem?_append_right (by omega), hl, h0]; rfl, keepS hc⟩
theorem zdv {h : H} (w : h.WF) {sz : Nat} (es : List (List V)) : ∃ v h', Ge h h' ∧ h'.WF ∧ Gl h' h.next sz v es := by
 by_cases he : es = []
 ·subst he; exact ⟨.nilsl, h, Ge.refl _, w, Gl.nil _ _ _⟩
 ·exact ⟨.sl h.next es.flatten.length 0 es.length none, h.push (.grow sz es.flatten), (Ge.refl _).push _, w.push _, .inr ⟨he, h.next, Nat.le_refl _, by simp, rfl, by simp⟩⟩
theorem zg7 : ∀ (l : List Sg) {g : H}, g.WF -> ∃ (es : List (List V)) (g' : H), Ge g g' ∧ g'.WF ∧ es.length = l.length ∧ ∀ (i : Nat) (s : Sg), l[i]? = some s -> ∃ w, es[i]? = some [.int .i64 s.kind, w] ∧ Fc g' g.next 1 w (s.ases.map cP)
 | [], g, wg => ⟨[], g, Ge.refl _, wg, rfl, by simp⟩
 | s :: l, g, wg => by
  obtain ⟨w, g1, a1, b1, c1⟩ := zdv wg (sz := 1) (s.ases.map cP)
  obtain ⟨es, g2, a2, b2, c2, d2⟩ := zg7 l b1
  refine ⟨[.int .i64 s.kind, w] :: es, g2, a1.trans a2, b2, by simp [c2], fun i t hi => ?_⟩
  cases i with
  | zero => simp at hi; subst hi; exact ⟨w, rfl, (c1.keep a2.1 fun i hi => a2.2 i (c1.lo i hi).2).fr⟩
  | succ i => obtain ⟨u, e, f⟩ := d2 i t (by simpa using hi); exact ⟨u, by simpa using e, f.le a1.1⟩
theorem zhU {g : H} (wg : g.WF) {a : Att} (z : AttSz a) : ∃ wp wc wx wl wk g', Ge g g' ∧ g'.WF ∧ AttFr g' g.next a wp wc wx wl wk := by
 obtain ⟨es, g1, a1, b1, c1, d1⟩ := zg7 a.path wg
 obtain ⟨wp, g2, a2, b2, c2⟩ := zdv b1 (sz := 2) es
 obtain ⟨wc, g3, a3, b3, c3⟩ := zdv b2 (sz := 1) (a.comms.map cP)
 obtain ⟨wx, g4, a4, b4, c4⟩ := zdv b3 (sz := 1) (a.exts.map cX)
 obtain ⟨wl, g5, a5, b5, c5⟩ := zdv b4 (sz := 3) (a.larges.map cL)
 obtain ⟨wk, g6, a6, b6, c6⟩ := zdv b5 (sz := 1) (a.clus.map cP)
 have e1 := a1.1
 have e2 := a2.1
 have e3 := a3.1
 have e4 := a4.1
 have e5 := a5.1
 have t5 := a5.trans a6
 have t4 := a4.trans t5
 have t3 := a3.trans t4
 have t2 := a2.trans t3
 refine ⟨wp, wc, wx, wl, wk, g6, a1.trans t2, b6, ⟨⟨es, (c2.fr.ge t3).le (by omega), c1, fun i s hi => ?_⟩, (c3.fr.ge t4).le (by omega), (c4.fr.ge t5).le (by omega), (c5.fr.ge a6).le (by omega), c6.fr.le (by omega), z⟩⟩
 obtain ⟨w, e, f⟩ := d1 i s hi
 exact ⟨w, e, f.ge t2⟩

theorem zfj : ∀ (l S : List Chg), (l.foldl putC S).length ≤ S.length + l.length
 | [], S => by simp
 | c :: l, S => by
  have h1 := zfj l (putC S c)
  have h2 := zmf S c
  simp only [List.foldl_cons, List.length_cons]; omega
end Go.Am

namespace Go.Am
open Go.Proofs

set_option maxRecDepth 100000
def AtR (p : Chg -> List V -> Prop) (L : List Chg) (es : List (List V)) : Prop := es.length = L.length ∧ ∀ (i : Nat) (c : Chg), L[i]? = some c -> ∃ e, es[i]? = some e ∧ p c e
theorem AtR.nil (p : Chg -> List V -> Prop) : AtR p [] [] := ⟨rfl, fun i c h => by simp at h⟩
theorem AtR.mono {p p' : Chg -> List V -> Prop} {L : List Chg} {es : List (List V)} (a : AtR p L es) (k : ∀ c e, p c e -> p' c e) : AtR p' L es :=
 ⟨a.1, fun i c h => by obtain ⟨e, h1, h2⟩ := a.2 i c h; exact ⟨e, h1, k c e h2⟩⟩
theorem AtR.single {p : Chg -> List V -> Prop} {c : Chg} {e : List V} (h : p c e) : AtR p [c] [e] := ⟨rfl, fun i c' hi => by
 cases i with
 | zero => simp at hi; subst hi; exact ⟨e, rfl, h⟩
 | succ i => simp at hi⟩
theorem AtR.append {p : Chg -> List V -> Prop} {L M : List Chg} {es fs : List (List V)} (a : AtR p L es) (b : AtR p M fs) : AtR p (L ++ M) (es ++ fs) := by
 refine ⟨by simp [a.1, b.1], fun i c hi => ?_⟩
 by_cases h : i < L.length
 ·rw [List.getElem?_append_left h] at hi
  obtain ⟨e, h1, h2⟩ := a.2 i c hi
  exact ⟨e, by rw [List.getElem?_append_left (by have := a.1; omega)]; exact h1, h2⟩
 ·rw [List.getElem?_append_right (by omega)] at hi
  obtain ⟨e, h1, h2⟩ := b.2 _ c hi
  exact ⟨e, by rw [List.getElem?_append_right (by have := a.1; omega), a.1]; exact h1, h2⟩
theorem AtR.take {p : Chg -> List V -> Prop} {L : List Chg} {es : List (List V)} (a : AtR p L es) (k : Nat) : AtR p (L.take k) (es.take k) := by
 refine ⟨by simp [a.1], fun i c hi => ?_⟩
 rw [List.getElem?_take] at hi
 split at hi
 ·rename_i h
  obtain ⟨e, h1, h2⟩ := a.2 i c hi
  exact ⟨e, by rw [List.getElem?_take, if_pos h]; exact h1, h2⟩
 ·cases hi
theorem AtR.drop {p : Chg -> List V -> Prop} {L : List Chg} {es : List (List V)} (a : AtR p L es) (k : Nat) : AtR p (L.drop k) (es.drop k) := by
 refine ⟨by simp [a.1], fun i c hi => ?_⟩
 rw [List.getElem?_drop] at hi
 obtain ⟨e, h1, h2⟩ := a.2 _ c hi
 exact ⟨e, by rw [List.getElem?_drop]; exact h1, h2⟩
theorem AtR.mem {p : Chg -> List V -> Prop} {L : List Chg} {es : List (List V)} (a : AtR p L es) : ∀ e ∈ es, ∃ c ∈ L, p c e := fun e he => by
 obtain ⟨i, hi, rfl⟩ := List.mem_iff_getElem.1 he
 obtain ⟨e', h1, h2⟩ := a.2 i (L[i]'(by rw [<- a.1]; exact hi)) (List.getElem?_eq_getElem _)
 rw [List.getElem?_eq_getElem hi, Option.some.injEq] at h1
 exact ⟨_, List.getElem_mem (by rw [<- a.1]; exact hi), by rw [h1]; exact h2⟩
structure LfP (h : H) (R : Nat -> Prop) (v : V) (L : List Chg) (es : List (List V)) : Prop where
 fc : FcP h R 23 v es
 at' : AtR (ChP h R) L es
theorem LfP.ls {h : H} {R : Nat -> Prop} {v : V} {L : List Chg} {es : List (List V)} (s : LfP h R v L es) : LsP h R v L es := ⟨s.fc.rw, s.at'.1, s.at'.2⟩
theorem LfP.mono {h : H} {R R' : Nat -> Prop} {v : V} {L : List Chg} {es : List (List V)} (s : LfP h R v L es) (k : ∀ j, j < h.next -> R j -> R' j) : LfP h R' v L es :=
 ⟨s.fc.mono k, s.at'.mono fun _ _ f => f.mono k⟩
theorem LfP.keep {h h' : H} {R : Nat -> Prop} {v : V} {L : List Chg} {es : List (List V)} (s : LfP h R v L es) (hn : h.next ≤ h'.next) (k : ∀ j, R j -> j < h.next -> h'.get j = h.get j) : LfP h' R v L es :=
 ⟨s.fc.keep hn fun j _ _ hj hl e => (k j hj hl).trans e, s.at'.mono fun _ _ f => f.keep hn fun j _ _ hj hl e => (k j hj hl).trans e⟩
theorem LfP.keepG {h h' : H} {R : Nat -> Prop} {v : V} {L : List Chg} {es : List (List V)} (s : LfP h R v L es) (hn : h.next ≤ h'.next) (k : ∀ j sz cs, R j -> j < h.next -> h.get j = some (.grow sz cs) -> h'.get j = some (.grow sz cs)) : LfP h' R v L es :=
 ⟨s.fc.keep hn k, s.at'.mono fun _ _ f => f.keep hn k⟩
theorem LfP.ge {h h' : H} {R : Nat -> Prop} {v : V} {L : List Chg} {es : List (List V)} (s : LfP h R v L es) (g : Ge h h') : LfP h' R v L es := s.keep g.1 fun j _ hj => g.2 j hj
theorem LfP.nil (h : H) (R : Nat -> Prop) : LfP h R .nilsl [] [] := ⟨.inl ⟨rfl, .inl rfl⟩, AtR.nil _⟩
theorem LfP.one {h : H} {R : Nat -> Prop} {v : V} {L : List Chg} {es : List (List V)} (s : LfP h R v L es) : v.one = true := s.fc.one
theorem FcP.cap {h : H} {R : Nat -> Prop} {sz : Nat} {v : V} {es : List (List V)} (f : FcP h R sz v es) : zcV v := by
 rcases f with ⟨_, rfl | ⟨k, rfl⟩⟩ | ⟨_, j, _, _, rfl, _⟩ <;> simp [zcV]
theorem FcP.keep3 {h h' : H} {R : Nat -> Prop} {sz : Nat} {v : V} {es : List (List V)} (f : FcP h R sz v es) (hs : sz ≤ 3) (hn : h.next ≤ h'.next) (k : ∀ j s cs, s ≤ 3 -> R j -> j < h.next -> h.get j = some (.grow s cs) -> h'.get j = some (.grow s cs)) : FcP h' R sz v es := by
 rcases f with e | ⟨hne, j, a, b, c, d⟩
 ·exact .inl e
 ·exact .inr ⟨hne, j, a, Nat.lt_of_lt_of_le b hn, c, k j _ _ hs a b d⟩
theorem AttP.keep3 {h h' : H} {R : Nat -> Prop} {a : Att} {vp vc vx vl vk : V} (f : AttP h R a vp vc vx vl vk) (hn : h.next ≤ h'.next) (k : ∀ j s cs, s ≤ 3 -> R j -> j < h.next -> h.get j = some (.grow s cs) -> h'.get j = some (.grow s cs)) : AttP h' R a vp vc vx vl vk := by
 obtain ⟨es, f1, f2, f3⟩ := f.path
 exact ⟨⟨es, f1.keep3 (by decide) hn k, f2, fun i s hi => by obtain ⟨w, e, g⟩ := f3 i s hi; exact ⟨w, e, g.keep3 (by decide) hn k⟩⟩, f.comms.keep3 (by decide) hn k, f.exts.keep3 (by decide) hn k, f.larges.keep3 (by decide) hn k, f.clus.keep3 (by decide) hn k, f.sz⟩
theorem ChP.keep3 {h h' : H} {R : Nat -> Prop} {c : Chg} {e : List V} (f : ChP h R c e) (hn : h.next ≤ h'.next) (k : ∀ j s cs, s ≤ 3 -> R j -> j < h.next -> h.get j = some (.grow s cs) -> h'.get j = some (.grow s cs)) : ChP h' R c e := by
 obtain ⟨vp, vc, vx, vl, vk, a, b⟩ := f; exact ⟨vp, vc, vx, vl, vk, a, b.keep3 hn k⟩
end Go.Am

namespace Go.Am
open Go.Proofs

set_option maxRecDepth 100000
theorem za8 {body : (Exit -> Tm -> H -> Prop) -> Tm -> H -> Prop} {Q : Exit -> Tm -> H -> Prop} {t : Tm} {h : H} {id : Nat} (J : Tm -> H -> Prop) (ha : ∀ R : Exit -> Tm -> H -> Prop, (∀ t' h', J t' h' -> R .normal t' h') -> zfW body (zcF id R) t h) (k : ∀ t' h', J t' h' -> Q .normal t' h') : zfW body (zcF id Q) t h := ha Q k
theorem LfP.len {h : H} {R : Nat -> Prop} {v : V} {L : List Chg} {es : List (List V)} (s : LfP h R v L es) (g : Nat -> Option O) : lenV 1 g v = some (.int .i64 (L.length : Nat)) := by
 rw [<- s.at'.1]
 rcases s.fc with ⟨rfl, rfl | ⟨k, rfl⟩⟩ | ⟨_, j, _, _, rfl, _⟩ <;> simp [lenV]
theorem LfP.ones {h : H} {R : Nat -> Prop} {v : V} {L : List Chg} {es : List (List V)} (s : LfP h R v L es) : ∀ e ∈ es, e.all V.one = true := fun e he => by
 obtain ⟨c, _, f⟩ := s.at'.mem e he
 exact f.at.ones
end Go.Am

namespace Go.Am
open Go.Proofs

set_option maxRecDepth 100000
theorem CsAt.take {g : Nat -> Option O} {v : V} {L : List Chg} {es : List (List V)} (s : CsAt g v L es) (c : zcV v) {k : Nat} (hk : k ≤ L.length) (kd : IntKind) :
  ∃ v', zay 23 none (some (.int kd (k : Int))) none v = some v' ∧ CsAt g v' (L.take k) (es.take k) := by
 obtain ⟨v', e, s', _⟩ := s.sls.take c (k := k) (by rw [s.len]; exact hk) kd
 refine ⟨v', e, s', by simp [s.len], fun i c hi => ?_⟩
 rw [List.getElem?_take] at hi ⊢
 split at hi
 ·rename_i h
  rw [if_pos h]; exact s.at' i c hi
 ·cases hi
end Go.Am

namespace Go.Am
open Go.Proofs

set_option maxRecDepth 100000
theorem zf3 : ∀ (L : List Chg) {g : H}, g.WF -> (∀ c ∈ L, AttSz c.att) -> ∃ (es : List (List V)) (g' : H), Ge g g' ∧ g'.WF ∧ AtR (ChP g' fun j => g.next ≤ j) L es
 | [], g, w, _ => ⟨[], g, Ge.refl _, w, AtR.nil _⟩
 | c :: L, g, w, z => by
  obtain ⟨yp, yc, yx, yl, yk, g1, a1, b1, f1⟩ := zhU w (z c (by simp))
  obtain ⟨es, g2, a2, b2, f2⟩ := zf3 L b1 fun x hx => z x (by simp [hx])
  refine ⟨chC c yp yc yx yl yk :: es, g2, a1.trans a2, b2, ?_⟩
  have h1 : ChP g2 (fun j => g.next ≤ j) c (chC c yp yc yx yl yk) := ⟨yp, yc, yx, yl, yk, rfl, (f1.p.ge a2).mono fun j _ hj => hj.1⟩
  exact (AtR.single h1).append (f2.mono fun c e f => f.mono fun j _ hj => by have := a1.1; omega)
theorem zjm {g : H} (w : g.WF) {L : List Chg} (z : ∀ c ∈ L, AttSz c.att) : ∃ v es g', Ge g g' ∧ g'.WF ∧ LfP g' (fun j => g.next ≤ j) v L es := by
 obtain ⟨es, g1, a1, b1, f1⟩ := zf3 L w z
 obtain ⟨v, g2, a2, b2, f2⟩ := zdv b1 (sz := 23) es
 refine ⟨v, es, g2, a1.trans a2, b2, f2.fr.p.mono fun j _ hj => by have := a1.1; omega, f1.mono fun c e f => f.ge a2⟩
theorem zdn : ∀ (l S : List Chg) (p : Chg -> Prop), (∀ c ∈ S, p c) -> (∀ c ∈ l, p c) -> Rise cmpC S -> ∀ c ∈ l.foldl putC S, p c
 | [], _, _, h, _, _ => h
 | d :: l, S, p, h, h2, r => zdn l (putC S d) p (fun c hc => by
   rcases (zce r).1 hc with rfl | ⟨hc, _⟩
   ·exact h2 _ (by simp)
   ·exact h c hc) (fun c hc => h2 c (by simp [hc])) (zbE r)
end Go.Am

namespace Go.Am
open Go.Proofs

set_option maxRecDepth 100000
end Go.Am

namespace Go.Am
open Go.Proofs

set_option maxRecDepth 100000
structure Sp (R : Nat -> Prop) (h h' : H) : Prop where
 next : h'.next = h.next
 wf : h'.WF
 get : ∀ j, h'.get j = h.get j ∨ (R j ∧ ∃ cs cs', h.get j = some (.grow 1 cs) ∧ h'.get j = some (.grow 1 cs') ∧ cs'.length = cs.length)
theorem Sp.refl {R : Nat -> Prop} {h : H} (w : h.WF) : Sp R h h := ⟨rfl, w, fun _ => .inl rfl⟩
theorem Sp.out {R : Nat -> Prop} {h h' : H} (s : Sp R h h') {j : Nat} (hj : ¬ R j) : h'.get j = h.get j := by
 rcases s.get j with e | ⟨r, _⟩
 ·exact e
 ·exact absurd r hj
theorem Sp.row {R : Nat -> Prop} {h h' : H} (s : Sp R h h') {j : Nat} {o : O} (e : h.get j = some o) (ho : ∀ cs, o ≠ .grow 1 cs) : h'.get j = some o := by
 rcases s.get j with e2 | ⟨_, cs, _, e2, _⟩
 ·exact e2.trans e
 ·rw [e] at e2; cases e2; exact absurd rfl (ho cs)
theorem Sp.grow {R : Nat -> Prop} {h h' : H} (s : Sp R h h') {j : Nat} {cs : List V} (e : h.get j = some (.grow 1 cs)) : ∃ cs', h'.get j = some (.grow 1 cs') ∧ cs'.length = cs.length := by
 rcases s.get j with e2 | ⟨_, cs0, cs', e2, e3, e4⟩
 ·exact ⟨cs, e2.trans e, rfl⟩
 ·rw [e] at e2; cases e2; exact ⟨cs', e3, e4⟩
theorem Sp.set {R : Nat -> Prop} {h h' : H} (s : Sp R h h') {j : Nat} {cs cs2 : List V} (r : R j) (e : h'.get j = some (.grow 1 cs)) (hl : cs2.length = cs.length) : Sp R h (h'.set j (.grow 1 cs2)) := by
 refine ⟨by simpa using s.next, s.wf.set (s.wf.lt e) _, fun k => ?_⟩
 rw [H.get_set]
 by_cases hk : k = j
 ·subst hk
  rw [if_pos rfl]
  right
  refine ⟨r, ?_⟩
  rcases s.get k with e2 | ⟨_, c0, c1, e2, e3, e4⟩
  ·exact ⟨cs, cs2, e2.symm.trans e, rfl, hl⟩
  ·rw [e] at e3; cases e3
   exact ⟨c0, cs2, e2, rfl, hl.trans e4⟩
 ·rw [if_neg hk]; exact s.get k
theorem Sp.mono {R R' : Nat -> Prop} {h h' : H} (s : Sp R h h') (k : ∀ j, R j -> R' j) : Sp R' h h' := ⟨s.next, s.wf, fun j => (s.get j).imp id fun ⟨r, x⟩ => ⟨k j r, x⟩⟩
theorem RwP.at {h : H} {R : Nat -> Prop} {v : V} {es : List (List V)} (f : RwP h R 23 v es) (hs : ∀ e ∈ es, e.length = 23) {k : Nat} (hk : k < es.length) :
  ∃ j n o, (∀ kd, zaA 23 v (.int kd (k : Int)) = some (.ptr j n (k * 23))) ∧ h.get j = some o ∧ (∀ cs, o ≠ .grow 1 cs) ∧ o.len = n ∧ k * 23 + 23 ≤ n ∧ ∀ i, i < 23 -> o.cells[k * 23 + i]? = es[k][i]? := by
 have hl := zaF hs
 rcases f with ⟨rfl, _⟩ | ⟨hne, j, ca, o, _, b, rfl, d, e⟩
 ·simp at hk
 ·have hm : k * 23 + 23 ≤ es.length * 23 := by omega
  have oc : o.cells = es.flatten := by rcases e with rfl | rfl <;> rfl
  refine ⟨j, es.flatten.length, o, fun kd => ?_, d, by rcases e with rfl | rfl <;> simp, by rcases e with rfl | rfl <;> simp, by omega, fun i hi => ?_⟩
  ·simp only [zbQ, Int.toNat_natCast]
   rw [if_pos ⟨by omega, by omega⟩]; simp
  ·have := zff hs hk
   rw [oc, <- this, List.getElem?_take, if_pos hi, List.getElem?_drop]
theorem LfP.sp {h h' : H} {R R' : Nat -> Prop} {v : V} {L : List Chg} {es : List (List V)} (l : LfP h R v L es) (s : Sp R' h h') (k : ∀ j, R j -> ¬ R' j) : LfP h' R v L es :=
 l.keep (by rw [s.next]; exact Nat.le_refl _) fun j hj _ => s.out (k j hj)
theorem LsP.sp {h h' : H} {R R' : Nat -> Prop} {v : V} {L : List Chg} {es : List (List V)} (l : LsP h R v L es) (s : Sp R' h h') (k : ∀ j, R j -> ¬ R' j) : LsP h' R v L es :=
 l.keep (by rw [s.next]; exact Nat.le_refl _) fun j hj _ => s.out (k j hj)
end Go.Am

namespace Go.Am
open Go.Proofs

set_option maxRecDepth 100000
structure OutAt (h : H) (R : Nat -> Prop) (p m : Nat) (D : List Chg) : Prop where
 row : h.get p = some (.row [.map m])
 held : HeldAt h R m D
theorem OutAt.lt {h : H} {R : Nat -> Prop} {p m : Nat} {D : List Chg} (x : OutAt h R p m D) (w : h.WF) : p < h.next ∧ m < h.next ∧ p ≠ m := by
 obtain ⟨es, bs, tk, L, a, _⟩ := x.held
 exact ⟨w.lt x.row, w.lt a, fun e => by subst e; rw [x.row] at a; cases a⟩
theorem OutAt.keep {h h' : H} {R : Nat -> Prop} {p m : Nat} {D : List Chg} (x : OutAt h R p m D) (hn : h.next ≤ h'.next) (hp : h'.get p = h.get p) (hm : h'.get m = h.get m) (k : ∀ j s cs, R j -> j < h.next -> h.get j = some (.grow s cs) -> h'.get j = some (.grow s cs)) : OutAt h' R p m D :=
 ⟨hp.trans x.row, x.held.keep hn hm k⟩
theorem OutAt.ge {h h' : H} {R : Nat -> Prop} {p m : Nat} {D : List Chg} (x : OutAt h R p m D) (w : h.WF) (g : Ge h h') : OutAt h' R p m D :=
 x.keep g.1 (g.2 _ (x.lt w).1) (g.2 _ (x.lt w).2.1) fun j _ _ _ hj e => (g.2 j hj).trans e
theorem OutAt.mono {h : H} {R R' : Nat -> Prop} {p m : Nat} {D : List Chg} (x : OutAt h R p m D) (k : ∀ j, j < h.next -> R j -> R' j) : OutAt h R' p m D := ⟨x.row, x.held.mono k⟩
theorem OutAt.cell {h : H} {R : Nat -> Prop} {p m : Nat} {D : List Chg} (x : OutAt h R p m D) : zab h.get p 1 = some [.map m] := (zai (n := 1) x.row rfl).trans rfl
theorem OutAt.len {h : H} {R : Nat -> Prop} {p m : Nat} {D : List Chg} (x : OutAt h R p m D) : lenV 2 h.get (.map m) = some (.int .i64 (D.length : Nat)) := x.held.len h.get rfl
theorem HeldAt.rise {h : H} {R : Nat -> Prop} {m : Nat} {D : List Chg} (x : HeldAt h R m D) : Rise cmpC D := by
 obtain ⟨es, bs, tk, L, _, _, a3, _, a5⟩ := x
 exact a3.rise
theorem zjo (j n : Nat) : eqV TS.ptr (.ptr j n 0) .nilptr = some false := rfl
theorem zpv (m : Nat) : eqV TS.map (.map m) .nilmap = some false := rfl
theorem zgn {h : H} {R : Nat -> Prop} {p m : Nat} {D : List Chg} (x : OutAt h R p m D) : Pure Tryz.prog 43 [.ptr p 1 0] h (.bool false) := by
 refine zah Tryz.func43 S.a11c S.a11e rfl (Nat.le_of_ble_eq_true rfl) fun wf => ?_; simp only [S.a11]
 simp [zjo, zpv, x.cell]
theorem zjn {h : H} {Q : V -> H -> Prop} (q : ∀ h', Ge h h' -> h'.WF -> OutAt h' (fun _ => True) (h.next + 1) h.next [] -> Q (.ptr (h.next + 1) 1 0) h') : Acalls Tryz.prog 11 [] h Q := by
 refine zaw Tryz.func11 S.a1c S.a1e (Nat.le_of_ble_eq_true rfl) fun wf => ?_; simp only [S.a1]
 have mo : (V.map h.next).one = true := rfl
 simp
 have mo2 : (V.map h.next).cells = [V.map h.next] := rfl
 refine q _ (((Ge.refl _).push _).push _) ((wf.push _).push _) ⟨by simp [mo2], [], [], 0, [], by simp [show ¬ h.next = h.next + 1 by omega], MapB.nil _, ⟨List.Perm.refl _, List.Pairwise.nil⟩, rfl, by simp⟩
theorem zkH {h : H} {R : Nat -> Prop} {p m : Nat} {D : List Chg} (x : OutAt h R p m D) : Pure Tryz.prog 17 [.ptr p 1 0] h (.int .i64 (D.length : Nat)) := by
 refine zah Tryz.func17 S.a7c S.a7e rfl (Nat.le_of_ble_eq_true rfl) fun wf => ?_; simp only [S.a7]
 simp
 refine zgn x _ ?_
 simp [x.cell, x.len]
theorem ziu {h : H} {R : Nat -> Prop} {v : V} {L : List Chg} {es : List (List V)} (l : LfP h R v L es) (hk : zas L) (hl : L.length ≤ 1000000) {Q : V -> H -> Prop}
  (q : ∀ D es' h', Srt L D -> h'.next = h.next -> h'.WF -> (∀ j, ¬ R j -> h'.get j = h.get j) -> (∀ j s cs, s ≠ 23 -> h.get j = some (.grow s cs) -> h'.get j = some (.grow s cs)) -> LfP h' R v D es' -> Q v h') : Acalls Tryz.prog 49 [v] h Q := by
 refine zaw Tryz.func49 S.a17c S.a17e (Nat.le_of_ble_eq_true rfl) fun wf => ?_; simp only [S.a17]
 simp
 by_cases h0 : L = []
 ·subst h0
  refine zrA (fun g => l.len g) _ ?_
  simp
  exact q [] es h ⟨List.Perm.refl _, List.Pairwise.nil⟩ rfl wf (fun _ _ => rfl) (fun _ _ _ _ e => e) l
 ·have hle := l.at'.1
  have hes : es ≠ [] := fun e => by rw [e] at hle; exact h0 (List.eq_nil_of_length_eq_zero hle.symm)
  have lfc := l.fc
  rcases lfc with ⟨e, _⟩ | ⟨hne, j, r, b, rfl, d⟩
  ·exact absurd e hes
  ·obtain ⟨z, hz⟩ : ∃ z, z = L.zip es := ⟨_, rfl⟩
   have zl : z.length = L.length := by rw [hz, List.length_zip, hle]; simp
   have z1 : z.map Prod.fst = L := by rw [hz]; exact List.map_fst_zip (by omega)
   have z2 : z.map Prod.snd = es := by rw [hz]; exact List.map_snd_zip (by omega)
   have zat : ∀ y ∈ z, ChP h R y.1 y.2 := fun y hy => by
    obtain ⟨k, hk, rfl⟩ := List.mem_iff_getElem.1 hy
    have b1 : (z.map Prod.fst)[k]? = some z[k].1 := by rw [List.getElem?_map, List.getElem?_eq_getElem hk]; rfl
    have b2 : (z.map Prod.snd)[k]? = some z[k].2 := by rw [List.getElem?_map, List.getElem?_eq_getElem hk]; rfl
    rw [z1] at b1
    rw [z2] at b2
    obtain ⟨e, e1, e2⟩ := l.at'.2 k _ b1
    rw [b2, Option.some.injEq] at e1
    rw [e1]; exact e2
   have fl : es.flatten.length = L.length * 23 := by rw [zaF l.ls.lens, hle]
   have heL : ∀ y ∈ z, ∃ vp vc vx vl vk, y.2 = chC y.1 vp vc vx vl vk ∧ vp.one = true ∧ vc.one = true ∧ vx.one = true ∧ vl.one = true ∧ vk.one = true := fun y hy => by
    obtain ⟨vp, vc, vx, vl, vk, e, A⟩ := zat y hy
    obtain ⟨o1, o2, o3, o4, o5⟩ := A.one
    exact ⟨vp, vc, vx, vl, vk, e, o1, o2, o3, o4, o5⟩
   have hneL : z ≠ [] := fun e => by rw [e] at zl; simp at zl; exact h0 (List.eq_nil_of_length_eq_zero zl.symm)
   have hcm : ∀ (a b : Chg) (h' : H), Pure Tryz.prog 94 [.agg (chC a .any .any .any .any .any), .agg (chC b .any .any .any .any .any)] h' (.int .i64 (cmpC a b)) := fun a b h' => zlu rfl rfl rfl rfl rfl rfl rfl rfl rfl rfl
   have zl6 : z.length ≤ 1000000 := by omega
   have hcall : ∀ Q : V -> H -> Prop, (∀ l' : List (Chg × List V), l'.Perm z -> l'.Pairwise (fun x y => ¬ cmpC y.1 x.1 < 0) -> Q (.tup []) (h.set j (.grow 23 (l'.map Prod.snd).flatten))) -> Acalls Tryz.prog 78 [.sl j (z.length * 23) 0 z.length none, .func (.func 94) [] []] h Q := fun Q hQ =>
    zlF d (.inr (by rw [z2])) heL zl6 hneL (by kernel_rfl) hcm hQ
   rw [zl] at hcall
   rw [fl, hle]
   refine hcall _ fun l' hp hs => ?_
   simp
   have k1 : zas (l'.map Prod.fst) := by
    unfold zas at hk ⊢
    rw [<- z1] at hk
    exact ((hp.map Prod.fst).map zad).nodup_iff.2 hk
   have srt : Srt L (l'.map Prod.fst) := ⟨by rw [<- z1]; exact (hp.map Prod.fst).symm, zgG k1 (by rw [List.pairwise_map]; exact hs)⟩
   have ll' : l'.length = L.length := by rw [hp.length_eq, zl]
   have h23 : ∀ e ∈ l'.map Prod.snd, e.length = 23 := fun e he => by
    obtain ⟨y, hy, rfl⟩ := List.mem_map.1 he
    exact (zat y (hp.mem_iff.1 hy)).at.len
   have hfl' := zaF h23
   rw [List.length_map, ll'] at hfl'
   have kk : ∀ i, i ≠ j -> (h.set j (.grow 23 (l'.map Prod.snd).flatten)).get i = h.get i := fun i hi => by rw [H.get_set, if_neg hi]
   have ks : ∀ i s cs, s ≠ 23 -> h.get i = some (.grow s cs) -> (h.set j (.grow 23 (l'.map Prod.snd).flatten)).get i = some (.grow s cs) := fun i s cs hs e => by
    rw [kk i (fun e2 => by subst e2; rw [d] at e; cases e; exact hs rfl)]; exact e
   rw [fl, hle] at q
   refine q (l'.map Prod.fst) (l'.map Prod.snd) _ srt (by simp) (wf.set b _) (fun i hi => kk i (fun e => hi (e ▸ r))) ks ⟨.inr ⟨fun e => ?_, j, r, by simpa using b, by rw [hfl', List.length_map, ll'], by simp⟩, by simp, fun i c hi => ?_⟩
   ·have h9 := congrArg List.length e
    rw [List.length_map, ll'] at h9
    exact h0 (List.eq_nil_of_length_eq_zero h9)
   ·rw [List.getElem?_map] at hi
    cases hlk : l'[i]? with
    | none => rw [hlk] at hi; cases hi
    | some y =>
     rw [hlk] at hi
     cases hi
     exact ⟨y.2, by rw [List.getElem?_map, hlk]; rfl, (zat y (hp.mem_iff.1 (List.mem_of_getElem? hlk))).keep3 (by simp) fun i s cs h3 _ _ e => ks i s cs (by omega) e⟩
end Go.Am

namespace Go.Am
open Go.Proofs

set_option maxRecDepth 100000
theorem zfH {P : Program} {f : FuncId} {args : List V} {h : H} {Q : V -> H -> Prop} (F : H -> Prop) (hF : F h) (k : ∀ h', F h' -> Acalls P f args h' Q) : Acalls P f args h Q := k h hF
theorem zdT (g : H) (a b a' b' : O) {k k' : Nat} (hk : k = g.next) (hk' : k' = g.next + 1) : (((g.push a).push b).set k a').set k' b' = (g.push a').push b' := by
 subst hk hk'
 refine H.ext' (by simp) fun x => ?_
 simp only [H.get_set, H.get_push, H.next_push]
 by_cases h1 : x = g.next + 1
 ·simp [h1]
 ·by_cases h2 : x = g.next <;> simp [h1, h2]
def famB (fam : Int) (c : Chg) : Bool := decide (fam = 0) || decide (c.n.p.fam = fam)
def metL (L : List Chg) (dn : List Nat) : List Chg := dn.map fun i => L.getD i chg0
theorem zdH {L : List Chg} {dn : List Nat} {i : Nat} {c : Chg} (h : L[i]? = some c) : metL L (dn ++ [i]) = metL L dn ++ [c] := by
 simp [metL, List.getD, h]
theorem zdL {L : List Chg} {dn : List Nat} (h : dn.Perm (List.range L.length)) : (metL L dn).Perm L := zjM h rfl chg0
theorem zey {L M : List Chg} (h : L.Sublist M) (k : zas M) : zas L := k.sublist (h.map zad)
theorem zdN {L M : List Chg} (h : L.Perm M) (k : zas M) : zas L := by
 unfold zas at k ⊢
 exact (h.map zad).nodup_iff.2 k
theorem za3 {D : List Chg} (f : Chg -> Bool) (r : Rise cmpC D) : Rise cmpC (D.filter f) := r.sublist List.filter_sublist
theorem znR {h : H} {R : Nat -> Prop} {p m : Nat} {D : List Chg} {fam : Int} (x : OutAt h R p m D) (hb : D.length ≤ 100000) {Q : V -> H -> Prop} (q : ∀ w es h', Ge h h' -> h'.WF -> LfP h' (fun j => h.next ≤ j) w (D.filter (famB fam)) es -> Q w h') : Acalls Tryz.prog 15 [.ptr p 1 0, .int .i64 fam] h Q := by
 refine zaw Tryz.func15 S.a5c S.a5e (Nat.le_of_ble_eq_true rfl) fun wf => ?_; simp only [S.a5]
 obtain ⟨hp, hm, hpm⟩ := x.lt wf
 obtain ⟨es, bs, tk, L, a1, mb, srt, hl, hent⟩ := x.held
 have LD : L.length = D.length := srt.perm.length_eq
 simp
 refine zgn x _ ?_
 simp [x.cell]
 refine ⟨m, es, bs, tk, rfl, a1, ?_⟩
 simp
 obtain ⟨it, hit⟩ : ∃ it, it = h.next := ⟨_, rfl⟩
 obtain ⟨h1, hh1⟩ : ∃ h1, h1 = h.push (.miter m tk [] tk) := ⟨_, rfl⟩
 have g1 : Ge h h1 := by rw [hh1]; exact (Ge.refl _).push _
 have w1 : h1.WF := by rw [hh1]; exact wf.push _
 have n1 : h1.next = h.next + 1 := by rw [hh1]; simp
 rw [<- hh1, <- hit]
 refine zaz (fun k t h' => (t 0 = .ptr p 1 0 ∧ t 1 = .int .i64 fam ∧ t 14 = .ptr it 0 0) ∧ h'.WF ∧ (∀ j, j < h.next -> h'.get j = h.get j) ∧ h1.next ≤ h'.next ∧ ∃ w fs dn seen st, t 5 = w ∧ Vis bs seen dn ∧ dn.length = k ∧ h'.get it = some (.miter m tk seen st) ∧ Gl h' h1.next 23 w fs ∧ AtR (ChP h' fun j => h1.next ≤ j) ((metL L dn).filter (famB fam)) fs) bs.length
  ⟨by simp, w1, fun j hj => g1.2 j hj, Nat.le_refl _, .nilsl, [], [], [], tk, by simp, Vis.nil _, rfl, by rw [hh1, hit]; simp, Gl.nil _ _ _, AtR.nil _⟩ ?_
 rintro k t h' hk ⟨⟨t0, t1, t14⟩, wb, kb, nb, w, fs, dn, seen, st, t5, vis, hdn, hi, gl, ar⟩ K hK
 have hm' : h'.get m = some (.mapo es bs tk) := (kb m hm).trans a1
 have gh' : Ge h h' := ⟨by omega, kb⟩
 have ow := gl.one
 simp [t14]
 refine ⟨it, m, tk, seen, st, es, bs, rfl, hi, hm', fun i e b' he hb' hbs => ?_, fun hall => ?_⟩
 ·simp [t14]
  obtain ⟨h2, hh2⟩ : ∃ h2, h2 = h'.set it (.miter m tk (seen ++ [b']) tk) := ⟨_, rfl⟩
  have n2 : h2.next = h'.next := by rw [hh2]; simp
  have w2 : h2.WF := by rw [hh2]; exact wb.set (by omega) _
  have k2 : ∀ j, j ≠ it -> h2.get j = h'.get j := fun j hj => by rw [hh2, H.get_set, if_neg hj]
  have i2 : h2.get it = some (.miter m tk (seen ++ [b']) tk) := by rw [hh2]; simp
  refine ⟨it, m, tk, tk, seen, b', es, bs, i, e, rfl, by simp, by simp [show ¬ m = it by omega, hm'], he, hb', ?_⟩
  have v2 := vis.snoc hb' hbs
  have hlen : dn.length < bs.length := by have := v2.le; simp at this; omega
  have hil : i < L.length := by rw [<- hl]; exact (List.getElem?_eq_some_iff.1 he).1
  obtain ⟨c, hc⟩ : ∃ c, c = L[i] := ⟨_, rfl⟩
  have hci : L[i]? = some c := by rw [hc]; exact List.getElem?_eq_getElem hil
  obtain ⟨e', he', vp, vc, vx, vl, vk, hee, A⟩ := hent i c hci
  rw [he, Option.some.injEq] at he'
  subst hee
  obtain ⟨o1, o2, o3, o4, o5⟩ := A.one
  have zc := A.sz
  have gl2 : Gl h2 h1.next 23 w fs := gl.keep (by omega) fun j hj => k2 j (by have := gl.lo j hj; omega)
  have fl : fs.length ≤ D.length := by
   rw [ar.1]
   refine Nat.le_trans (List.length_filter_le _ _) ?_
   simp only [metL, List.length_map]
   have := vis.le
   rw [mb.len, hl] at this
   omega
  have met := zdH (dn := dn) hci
  have ar2 : AtR (ChP h2 fun j => h1.next ≤ j) ((metL L dn).filter (famB fam)) fs := ar.mono fun c e f => f.keep (by omega) fun j s cs _ _ e => by rw [k2 j (fun e2 => by subst e2; rw [hi] at e; cases e)]; exact e
  have b2 : ∀ j, j < h.next -> h2.get j = h.get j := fun j hj => by rw [k2 j (by omega)]; exact kb j hj
  rw [<- hh2, he']
  have ap2 : ∀ G : H, (∀ j, j < h.next -> G.get j = h.get j) -> h.next ≤ G.next -> AttAt G.get c.att vp vc vx vl vk := fun G hG hn => A.at.ge wf ⟨hn, hG⟩
  simp only [chC, kyV]
  simp [zad, o1, o2, o3, o4, o5]
  rw [zdT _ _ _ _ _ rfl rfl]
  obtain ⟨h3, hh3⟩ : ∃ h3, h3 = (h2.push (.row [.int .i64 c.n.p.fam, .int .u64 (c.n.p.rd : Nat), .str c.n.p.addr, .int .i64 c.n.p.len, .int .u32 (c.n.id : Nat)])).push (.row (chC c vp vc vx vl vk)) := ⟨_, rfl⟩
  have g3 : Ge h2 h3 := by rw [hh3]; exact ((Ge.refl _).push _).push _
  have w3 : h3.WF := by rw [hh3]; exact (w2.push _).push _
  have n3 : h3.next = h2.next + 2 := by rw [hh3]; simp
  have c6 : zab h3.get h2.next 5 = some [.int .i64 c.n.p.fam, .int .u64 (c.n.p.rd : Nat), .str c.n.p.addr, .int .i64 c.n.p.len, .int .u32 (c.n.id : Nat)] := by rw [hh3]; simp
  have c7 : zab h3.get (h2.next + 1) 23 = some (chC c vp vc vx vl vk) := by rw [hh3]; simp [chC]
  have i3 : h3.get it = some (.miter m tk (seen ++ [b']) tk) := (g3.2 it (by omega)).trans i2
  have gl3 : Gl h3 h1.next 23 w fs := gl2.keep (by omega) fun j hj => g3.2 j (gl2.lo j hj).2
  have ar3 : AtR (ChP h3 fun j => h1.next ≤ j) ((metL L dn).filter (famB fam)) fs := ar2.mono fun _ _ f => f.ge g3
  have b3 : ∀ j, j < h.next -> h3.get j = h.get j := fun j hj => by rw [g3.2 j (by omega)]; exact b2 j hj
  have A3 := ap2 h3 b3 (by omega)
  have ow3 := fun Q q => zf4 (Q := Q) A3 zc q
  simp only [chC] at hh3 c7 ow3
  rw [<- hh3]
  obtain ⟨bb, hbb⟩ : ∃ bb, bb = famB fam c := ⟨_, rfl⟩
  have fin0 : bb = false -> ∀ tt : Tm, (tt 0 = .ptr p 1 0 ∧ tt 1 = .int .i64 fam ∧ tt 14 = .ptr it 0 0) -> tt 5 = w -> K tt h3 := fun e tt r5 e5 =>
   hK _ _ (by omega) ⟨r5, w3, b3, by omega, w, fs, dn ++ [i], seen ++ [b'], tk, e5, v2, by simp [hdn], i3, gl3, by rw [met, List.filter_append]; simp [<- hbb, e]; exact ar3⟩
  have fin1 : bb = true -> ∀ (wp wc wx wl wk : V) (h4 : H), Ge h3 h4 -> h4.WF -> AttFr h4 h3.next c.att wp wc wx wl wk -> ∃ v' d, zaG (h4.push (.row (chC c wp wc wx wl wk))).get (h4.next + 1) 23 240 w (.sl h4.next 23 0 1 (some 1)) = some (v', d) ∧
    ∀ tt : Tm, (tt 0 = .ptr p 1 0 ∧ tt 1 = .int .i64 fam ∧ tt 14 = .ptr it 0 0) -> tt 5 = v' -> K tt ((h4.push (.row (chC c wp wc wx wl wk))).app d) := fun e wp wc wx wl wk h4 g4 w4 F4 => by
   obtain ⟨f1, f2, f3, f4, f5⟩ := F4.one
   have gl4 : Gl h4 h1.next 23 w fs := gl3.keep g4.1 fun j hj => g4.2 j (gl3.lo j hj).2
   have f23 : ∀ e ∈ fs, e.length = 23 := fun e he => by obtain ⟨_, _, f⟩ := ar.mem e he; exact f.at.len
   have n4 := g4.1
   obtain ⟨v', d, ea, gl5, n5, k5, w5, _⟩ := zeF (bytes := 240) (chC c wp wc wx wl wk) gl4 (by omega) f23 rfl (by simp [chC, f1, f2, f3, f4, f5]) (by decide) (by omega) (by omega)
   refine ⟨v', d, ea, fun tt r5 e5 => ?_⟩
   have keep5 : ∀ j s cs, s ≠ 23 -> j < h4.next -> h4.get j = some (.grow s cs) -> ((h4.push (.row (chC c wp wc wx wl wk))).app d).get j = some (.grow s cs) := fun j s cs hs hj e => by
    by_cases hv : j ∈ w.ids
    ·rcases gl4 with ⟨_, rfl⟩ | ⟨_, j2, _, _, rfl, a3⟩
     ·simp [V.ids] at hv
     ·simp [V.ids] at hv
      subst hv
      rw [a3] at e
      cases e
      exact absurd rfl hs
    ·rw [k5 j hv hj]; exact e
   have out5 : ∀ j, j < h4.next -> (j < h1.next) -> ((h4.push (.row (chC c wp wc wx wl wk))).app d).get j = h4.get j := fun j hj hlt => k5 j (fun hv => by have := (gl4.lo j hv).1; omega) hj
   refine hK _ _ (by omega) ⟨r5, w5 w4, fun j hj => ?_, by omega, v', fs ++ [chC c wp wc wx wl wk], dn ++ [i], seen ++ [b'], tk, e5, v2, by simp [hdn], ?_, gl5, ?_⟩
   ·rw [out5 j (by omega) (by omega), g4.2 j (by omega)]; exact b3 j hj
   ·rw [out5 it (by omega) (by omega), g4.2 it (by omega)]; exact i3
   ·rw [met, List.filter_append]
    have e1 : [c].filter (famB fam) = [c] := by simp [<- hbb, e]
    rw [e1]
    refine AtR.append ?_ (AtR.single ⟨wp, wc, wx, wl, wk, rfl, ?_⟩)
    ·exact ar3.mono fun _ _ f => (f.ge g4).keep3 (by omega) fun j s cs hs _ hj e => keep5 j s cs (by omega) hj e
    ·exact (F4.p.keep3 (by omega) fun j s cs hs _ hj e => keep5 j s cs (by omega) hj e).mono fun j _ hj => by omega
  by_cases hf0 : fam = 0
  ·have hb1 : bb = true := by rw [hbb, famB, hf0]; rfl
   have fb : (fam == 0) = true := by simp [hf0]
   simp [t1, t5, fb, c7]
   refine ow3 _ fun wp wc wx wl wk h4 g4 w4 F4 => ?_
   obtain ⟨f1, f2, f3, f4, f5⟩ := F4.one
   obtain ⟨v', d, ea, fin⟩ := fin1 hb1 wp wc wx wl wk h4 g4 w4 F4
   simp only [chC] at ea fin
   simp [f1, f2, f3, f4, f5, ea]
   refine fin _ ?_ ?_
   ·simp [t0, t1, t14]
   ·simp
  ·have fb : (fam == 0) = false := by simpa using hf0
   by_cases hf1 : c.n.p.fam = fam
   ·have hb1 : bb = true := by rw [hbb, famB, hf1]; simp
    have fb2 : (c.n.p.fam == fam) = true := by simp [hf1]
    simp [t1, t5, fb, c6, c7, fb2]
    refine ow3 _ fun wp wc wx wl wk h4 g4 w4 F4 => ?_
    obtain ⟨f1, f2, f3, f4, f5⟩ := F4.one
    obtain ⟨v', d, ea, fin⟩ := fin1 hb1 wp wc wx wl wk h4 g4 w4 F4
    simp only [chC] at ea fin
    simp [f1, f2, f3, f4, f5, ea]
    refine fin _ ?_ ?_
    ·simp [t0, t1, t14]
    ·simp
   ·have hb1 : bb = false := by rw [hbb, famB]; simp [hf0, hf1]
    have fb2 : (c.n.p.fam == fam) = false := by simpa using hf1
    simp [t1, fb, c6, fb2]
    refine fin0 hb1 _ ?_ ?_
    ·simp [t0, t1, t14]
    ·simp [t5]
 ·simp [t5]
  have full := vis.full mb.nd hall
  rw [mb.len, hl] at full
  have mp := zdL full
  have kL := srt.keys
  have kF : zas ((metL L dn).filter (famB fam)) := zey List.filter_sublist (zdN mp kL)
  have lf : LfP h' (fun j => h1.next ≤ j) w ((metL L dn).filter (famB fam)) fs := ⟨gl.fr.p.mono fun j _ hj => hj.1, ar⟩
  have ml : ((metL L dn).filter (famB fam)).length ≤ D.length := by
   refine Nat.le_trans (List.length_filter_le _ _) ?_
   rw [mp.length_eq, LD]; exact Nat.le_refl _
  refine ziu lf kF (by omega) fun D' es' h5 s5 n5 w5 o5 _ l5 => ?_
  simp
  have hD : D' = D.filter (famB fam) := by
   refine Srt.uniq s5 ⟨?_, za3 _ srt.rise⟩
   exact (mp.filter _).trans (srt.perm.filter _)
  rw [hD] at l5
  refine q _ _ h5 ⟨by omega, fun j hj => ?_⟩ w5 (l5.mono fun j _ hj => by omega)
  rw [o5 j (by omega)]; exact kb j hj
end Go.Am

namespace Go.Am
open Go.Proofs

set_option maxRecDepth 100000
theorem zky {h : H} {c : Chg} {vp vc vx vl vk : V} (o1 : vp.one = true) (o2 : vc.one = true) (o3 : vx.one = true) (o4 : vl.one = true) (o5 : vk.one = true) : Pure Tryz.prog 45 [.agg (chC c vp vc vx vl vk)] h (kyV (zad c)) := by
 refine zah Tryz.func45 S.a13c S.a13e rfl (Nat.le_of_ble_eq_true rfl) fun wf => ?_; simp only [S.a13]
 have n01 : ¬ h.next = h.next + 1 := by omega
 simp [chC, o1, o2, o3, o4, o5, kyV, zad]
 repeat' (first | exact Ge.refl _ | refine Ge.push ?_ _ | refine Ge.set ?_ (by omega) _)
theorem zhZ {k : V} : ∀ (es : List (V × V)) (i0 : Nat) {j : Nat} {e : V}, zb2 kyD k es i0 = some (some (j, e)) -> i0 ≤ j ∧ ∃ x, es[j - i0]? = some (x, e)
 | [], _, _, _, h => by simp [zb2] at h
 | (x, y) :: es, i0, j, e, h => by
  by_cases hx : zbB kyD x = true
  ·rw [kyD, zed hx] at h
   split at h
   ·simp only [Option.some.injEq, Prod.mk.injEq] at h
    obtain ⟨rfl, rfl⟩ := h
    exact ⟨Nat.le_refl _, x, by simp⟩
   ·obtain ⟨a, z, b⟩ := zhZ es (i0 + 1) h
    refine ⟨by omega, z, ?_⟩
    obtain ⟨d, hd⟩ : ∃ d, j - i0 = d + 1 := ⟨j - i0 - 1, by omega⟩
    rw [hd, List.getElem?_cons_succ, show d = j - (i0 + 1) by omega]; exact b
   ·cases h
  ·exfalso
   have : zb2 kyD k ((x, y) :: es) i0 = none := by
    show (if zbB kyD x = true then _ else none) = none
    rw [if_neg hx]
   rw [this] at h; cases h
theorem HeldAt.find {h : H} {R : Nat -> Prop} {m : Nat} {D : List Chg} (x : HeldAt h R m D) (k : Ky) (zero : V) :
  (∃ c e, c ∈ D ∧ zad c = k ∧ ChP h R c e ∧ zcw h.get kyD zero true (.map m) (kyV k) = some (.tup [.agg e, .bool true])) ∨ ((∀ c ∈ D, zad c ≠ k) ∧ zcw h.get kyD zero true (.map m) (kyV k) = some (.tup [zero, .bool false])) := by
 obtain ⟨es, bs, tk, L, hm, mb, srt, hl, he⟩ := x
 have ent : zcB h.get (.map m) = some es := by simp [zcB, hm]
 rcases zeA es L 0 hl (fun i c' hi => by obtain ⟨e', a, _⟩ := he i c' hi; exact ⟨_, a⟩) k with ⟨j, hj, e', a1, a2, a3⟩ | ⟨a1, a2⟩
 ·refine .inl ?_
  obtain ⟨e, b1, b2⟩ := he j _ (List.getElem?_eq_getElem hj)
  have fe : e' = .agg e := by
   obtain ⟨_, z, b⟩ := zhZ es 0 a3
   simp only [Nat.zero_add, Nat.sub_zero] at b
   rw [b1] at b
   simp only [Option.some.injEq, Prod.mk.injEq] at b
   exact b.2.symm
  refine ⟨L[j], e, srt.perm.mem_iff.1 (List.getElem_mem hj), a1, b2, ?_⟩
  unfold zcw
  rw [if_pos (zi4 _), ent]
  simp only [a3, fe, if_true]
 ·refine .inr ⟨fun c hc => a1 c (srt.perm.mem_iff.2 hc), ?_⟩
  unfold zcw
  rw [if_pos (zi4 _), ent]
  simp only [a2, if_true]
theorem zjv {L D : List Chg} (s : Srt L D) {j : Nat} (hj : j < L.length) : Srt (L.eraseIdx j) (D.filter fun d => !decide (zad d = zad L[j])) := by
 have kL := s.keys
 have h1 : L.eraseIdx j = L.filter fun d => !decide (zad d = zad L[j]) := by
  have hsp : L = L.take j ++ L[j] :: L.drop (j + 1) := by rw [<- List.drop_eq_getElem_cons hj, List.take_append_drop]
  have kk : (L.map zad).Nodup := kL
  rw [List.nodup_iff_pairwise_ne, List.pairwise_map, List.pairwise_iff_getElem] at kk
  have ha : ∀ x ∈ L.take j, zad x ≠ zad L[j] := fun x hx => by
   obtain ⟨i, hi, rfl⟩ := List.mem_iff_getElem.1 hx
   rw [List.length_take] at hi
   rw [List.getElem_take]
   exact kk i j (by omega) hj (by omega)
  have hb : ∀ x ∈ L.drop (j + 1), zad x ≠ zad L[j] := fun x hx => by
   obtain ⟨i, hi, rfl⟩ := List.mem_iff_getElem.1 hx
   rw [List.length_drop] at hi
   rw [List.getElem_drop]
   exact fun e => kk j (j + 1 + i) hj (by omega) (by omega) e.symm
  rw [List.eraseIdx_eq_take_drop_succ]
  obtain ⟨k, hk⟩ : ∃ k, k = zad L[j] := ⟨_, rfl⟩
  rw [<- hk] at ha hb ⊢
  conv => rhs; rw [hsp]
  rw [List.filter_append, List.filter_cons, if_neg (by simp [hk]), List.filter_eq_self.2 fun x hx => by simpa using ha x hx, List.filter_eq_self.2 fun x hx => by simpa using hb x hx]
 rw [h1]
 exact ⟨s.perm.filter _, za3 _ s.rise⟩
theorem HeldAt.del {h : H} {R : Nat -> Prop} {m : Nat} {D : List Chg} (x : HeldAt h R m D) (k : Ky) :
  ∃ o, zch h.get kyD (.map m) (kyV k) = some (.set m o) ∧ HeldAt (h.set m o) R m (D.filter fun d => !decide (zad d = k)) := by
 obtain ⟨es, bs, tk, L, hm, mb, srt, hl, he⟩ := x
 have keepS : ∀ {o : O} {c : Chg} {e : List V}, ChP h R c e -> ChP (h.set m o) R c e := fun f => f.keep (by simp) fun j s' cs' _ _ hj => by rw [H.get_set, if_neg (fun e => by subst e; rw [hm] at hj; cases hj)]; exact hj
 rcases zeA es L 0 hl (fun i c' hi => by obtain ⟨e', a, _⟩ := he i c' hi; exact ⟨_, a⟩) k with ⟨j, hj, e', a1, a2, a3⟩ | ⟨a1, a2⟩
 ·refine ⟨.mapo (es.eraseIdx j) (bs.eraseIdx j) tk, ?_, es.eraseIdx j, bs.eraseIdx j, tk, L.eraseIdx j, by simp, mb.erase, ?_, by rw [List.length_eraseIdx, List.length_eraseIdx, hl], fun i c hi => ?_⟩
  ·unfold zch
   rw [if_pos (zi4 _)]
   simp only [hm, a3, Nat.zero_add]
  ·rw [<- a1]; exact zjv srt hj
  ·rw [List.getElem?_eraseIdx] at hi ⊢
   split at hi
   ·rename_i h1
    rw [if_pos h1]
    obtain ⟨e, b1, b2⟩ := he i c hi
    exact ⟨e, b1, keepS b2⟩
   ·rename_i h1
    rw [if_neg h1]
    obtain ⟨e, b1, b2⟩ := he _ c hi
    exact ⟨e, b1, keepS b2⟩
 ·refine ⟨.mapo es bs tk, ?_, es, bs, tk, L, by simp, mb, ?_, hl, fun i c hi => ?_⟩
  ·unfold zch
   rw [if_pos (zi4 _)]
   simp only [hm, a2]
  ·have : D.filter (fun d => !decide (zad d = k)) = D := List.filter_eq_self.2 fun d hd => by simpa using a1 d (srt.perm.mem_iff.2 hd)
   rw [this]; exact srt
  ·obtain ⟨e, b1, b2⟩ := he i c hi
   exact ⟨e, b1, keepS b2⟩
def okW (p : Pfx) (c : Chg) : Bool := !c.gone && decide (c.n.p = p) && mayN c.n && attB c.att
instance (L : List Chg) : Decidable (zas L) := inferInstanceAs (Decidable (L.map zad).Nodup)
def zci (p : Pfx) (L : List Chg) : Bool := L.all (okW p) && decide (zas L)
def inP (p : Pfx) (c : Chg) : Bool := decide (c.n.p = p)
def za5 (c : Chg) : Chg := ⟨true, ⟨c.n.p, c.n.id, 0⟩, att0⟩
def zbI (p : Pfx) (L : List Chg) (c : Chg) : Bool := inP p c && !L.any fun d => decide (zad d = zad c)
def newB (D : List Chg) (c : Chg) : Bool := !decide (c ∈ D)
def zhf (p : Pfx) (D L : List Chg) : List Chg := L.foldl putC (D.filter fun c => !inP p c)
def zco (p : Pfx) (D L : List Chg) : List Chg := ((D.filter (zbI p L)).map za5 ++ L.filter (newB D)).foldl putC []
def zec (p : Pfx) (D L : List Chg) : Bool := decide (4096 < (D.filter fun c => !inP p c).length + L.length)
end Go.Am

namespace Go.Am
open Go.Proofs

set_option maxRecDepth 100000
theorem zkN {body : (Exit -> Tm -> H -> Prop) -> Tm -> H -> Prop} {Q : Exit -> Tm -> H -> Prop} {t : Tm} {h : H} {id : Nat} (J : Tm -> H -> Prop) (ha : ∀ R : Exit -> Tm -> H -> Prop, (∀ t' h', J t' h' -> R .normal t' h') -> (∀ t' h', Q .ret t' h' -> R .ret t' h') -> zfW body (zcF id R) t h) (k : ∀ t' h', J t' h' -> Q .normal t' h') : zfW body (zcF id Q) t h := ha Q k fun _ _ h => h
theorem zgX {L : List Chg} {i : Nat} (hi : i < L.length) (kt : zas (L.take i)) : zas (L.take (i + 1)) ↔ ∀ d ∈ L.take i, zad d ≠ zad L[i] := by
 have e : L.take (i + 1) = L.take i ++ [L[i]] := by rw [List.take_add_one, List.getElem?_eq_getElem hi]; rfl
 unfold zas at kt ⊢
 rw [e, List.map_append, List.nodup_append]
 constructor
 ·rintro ⟨_, _, h3⟩ d hd
  exact h3 _ (List.mem_map_of_mem hd) _ (by simp)
 ·intro h
  refine ⟨kt, by simp, fun a ha b hb => ?_⟩
  obtain ⟨d, hd, rfl⟩ := List.mem_map.1 ha
  simp only [List.map_cons, List.map_nil, List.mem_singleton] at hb
  subst hb
  exact h d hd
theorem zfR {D : List Chg} (k : zas D) {c d : Chg} (hc : c ∈ D) (hd : d ∈ D) (e : zad c = zad d) : c = d := by
 obtain ⟨i, hi, rfl⟩ := List.mem_iff_getElem.1 hc
 obtain ⟨j, hj, rfl⟩ := List.mem_iff_getElem.1 hd
 have e2 : (D.map zad)[i]'(by simpa using hi) = (D.map zad)[j]'(by simpa using hj) := by simpa using e
 have := (List.getElem_inj (h₀ := by simpa using hi) (h₁ := by simpa using hj) k).1 e2
 subst this; rfl
theorem zdR : ∀ (l S : List Chg), Rise cmpC S -> zas l -> (∀ c ∈ l, ∀ d ∈ S, zad d ≠ zad c) -> ∀ x, x ∈ l.foldl putC S ↔ x ∈ S ∨ x ∈ l
 | [], S, _, _, _, x => by simp
 | c :: l, S, r, k, hd, x => by
  have k' : zad c ∉ l.map zad ∧ (l.map zad).Nodup := by simpa [zas] using k
  rw [List.foldl_cons, zdR l (putC S c) (zbE r) k'.2 (fun d hdl e he => ?_), zce r, List.mem_cons]
  ·constructor
   ·rintro ((rfl | ⟨h, _⟩) | h)
    ·exact .inr (.inl rfl)
    ·exact .inl h
    ·exact .inr (.inr h)
   ·rintro (h | rfl | h)
    ·exact .inl (.inr ⟨h, hd c (by simp) x h⟩)
    ·exact .inl (.inl rfl)
    ·exact .inr h
  ·rcases (zce r).1 he with rfl | ⟨h, _⟩
   ·exact fun e2 => k'.1 (by rw [e2]; exact List.mem_map_of_mem hdl)
   ·exact hd d (by simp [hdl]) e h
theorem zc7 {l : List Chg} (k : zas l) (x : Chg) : x ∈ l.foldl putC [] ↔ x ∈ l := by
 rw [zdR l [] List.Pairwise.nil k (by simp)]; simp
theorem zfI {l : List Chg} (k : zas l) : Srt l (l.foldl putC []) := by
 have r := zbS l [] List.Pairwise.nil
 exact ⟨zei k (zaZ r) fun x => (zc7 k x).symm, r⟩
theorem zbA : ∀ (l S : List Chg), Rise cmpC S -> zas l -> ∀ x, x ∈ l.foldl putC S ↔ x ∈ l ∨ (x ∈ S ∧ ∀ c ∈ l, zad x ≠ zad c)
 | [], S, _, _, x => by simp
 | c :: l, S, r, k, x => by
  have k' : zad c ∉ l.map zad ∧ (l.map zad).Nodup := by simpa [zas] using k
  rw [List.foldl_cons, zbA l (putC S c) (zbE r) k'.2, zce r, List.mem_cons]
  constructor
  ·rintro (h | ⟨rfl | ⟨h1, h2⟩, h3⟩)
   ·exact .inl (.inr h)
   ·exact .inl (.inl rfl)
   ·exact .inr ⟨h1, fun d hd => (List.mem_cons.1 hd).elim (fun e => e ▸ h2) (h3 d)⟩
  ·rintro ((rfl | h) | ⟨h1, h2⟩)
   ·exact .inr ⟨.inl rfl, fun d hd e => k'.1 (by rw [e]; exact List.mem_map_of_mem hd)⟩
   ·exact .inl h
   ·exact .inr ⟨.inr ⟨h1, h2 c (by simp)⟩, fun d hd => h2 d (by simp [hd])⟩
theorem zjT (c : Chg) : zad (za5 c) = zad c := rfl
theorem zkf {p : Pfx} {D L M N M8 : List Chg} (rD : Rise cmpC D) (hD : ∀ d ∈ D, d.gone = false) (kL : zas L) (okL : ∀ c ∈ L, okW p c = true) (mM : M.Perm (D.filter (zbI p L))) (mN : N.Perm (L.filter (newB D))) (m8 : M8.Perm L) :
  M8.foldl putC (D.filter fun d => !(M.map za5 ++ N).any fun c => c.gone && decide (zad c = zad d)) = zhf p D L := by
 have k8 : zas M8 := zdN m8 kL
 have gN : ∀ c ∈ N, c.gone = false := fun c hc => by
  have := okL c (List.mem_filter.1 (mN.mem_iff.1 hc)).1
  simp only [okW, Bool.and_eq_true, Bool.not_eq_true'] at this
  exact this.1.1.1
 have pL : ∀ c ∈ L, c.n.p = p := fun c hc => by
  have := okL c hc
  simp only [okW, Bool.and_eq_true, decide_eq_true_eq] at this
  exact this.1.1.2
 have r1 := zbS M8 _ (za3 (fun d => !(M.map za5 ++ N).any fun c => c.gone && decide (zad c = zad d)) rD)
 have r2 := zbS L _ (za3 (fun c => !inP p c) rD)
 refine zf8 ordr_c r1 r2 fun x => ?_
 rw [zhf, zbA _ _ (za3 _ rD) k8, zbA _ _ (za3 _ rD) kL]
 have e8 : (∀ c ∈ M8, zad x ≠ zad c) ↔ ∀ c ∈ L, zad x ≠ zad c := by
  constructor <;> intro h c hc
  ·exact h c (m8.mem_iff.2 hc)
  ·exact h c (m8.mem_iff.1 hc)
 rw [m8.mem_iff, e8, List.mem_filter, List.mem_filter]
 refine or_congr Iff.rfl ?_
 constructor
 ·rintro ⟨⟨h1, h2⟩, h3⟩
  refine ⟨⟨h1, ?_⟩, h3⟩
  cases hp : inP p x with
  | false => rfl
  | true =>
   exfalso
   have gx : zbI p L x = true := by
    rw [zbI, hp, Bool.true_and, Bool.not_eq_true', List.any_eq_false]
    intro d hd
    simp only [decide_eq_true_eq]
    exact fun e => h3 d hd e.symm
   have : ((M.map za5 ++ N).any fun c => c.gone && decide (zad c = zad x)) = true := List.any_eq_true.2 ⟨za5 x, by simp only [List.mem_append, List.mem_map]; exact .inl ⟨x, mM.mem_iff.2 (List.mem_filter.2 ⟨h1, gx⟩), rfl⟩, by show (true && decide (zad x = zad x)) = true; simp⟩
   rw [this] at h2; cases h2
 ·rintro ⟨⟨h1, h2⟩, h3⟩
  refine ⟨⟨h1, ?_⟩, h3⟩
  have hp : inP p x = false := by simpa using h2
  rw [Bool.not_eq_true', List.any_eq_false]
  intro c hc
  rcases List.mem_append.1 hc with hc | hc
  ·obtain ⟨d, hd, rfl⟩ := List.mem_map.1 hc
   have := (List.mem_filter.1 (mM.mem_iff.1 hd)).2
   simp only [zbI, Bool.and_eq_true, inP, decide_eq_true_eq] at this
   simp only [zjT, Bool.and_eq_true, not_and]
   intro _ e
   have e2 : d.n.p = x.n.p := congrArg Ky.p (show zad d = zad x from of_decide_eq_true e)
   rw [inP, <- e2, this.1] at hp
   simp at hp
  ·simp [gN c hc]
theorem zfe {p : Pfx} {D L M N : List Chg} (rD : Rise cmpC D) (kL : zas L) (mM : M.Perm (D.filter (zbI p L))) (mN : N.Perm (L.filter (newB D))) : zas (M.map za5 ++ N) := by
 have kM : zas M := zdN mM (zey List.filter_sublist (zaZ rD))
 have kN : zas N := zdN mN (zey List.filter_sublist kL)
 unfold zas at kM kN ⊢
 rw [List.map_append, List.map_map, show zad ∘ za5 = zad from rfl, List.nodup_append]
 refine ⟨kM, kN, fun a ha b hb e => ?_⟩
 obtain ⟨c, hc, rfl⟩ := List.mem_map.1 ha
 obtain ⟨d, hd, rfl⟩ := List.mem_map.1 hb
 have h1 := (List.mem_filter.1 (mM.mem_iff.1 hc)).2
 have h2 := (List.mem_filter.1 (mN.mem_iff.1 hd)).1
 simp only [zbI, Bool.and_eq_true, Bool.not_eq_true', List.any_eq_false, decide_eq_true_eq] at h1
 exact h1.2 d h2 e.symm
theorem zlD {p : Pfx} {D L M N S' : List Chg} (rD : Rise cmpC D) (kL : zas L) (mM : M.Perm (D.filter (zbI p L))) (mN : N.Perm (L.filter (newB D))) (s : Srt (M.map za5 ++ N) S') : S' = zco p D L := by
 have k := zfe (p := p) rD kL (List.Perm.refl _) (List.Perm.refl _)
 have s2 := zfI k
 exact Srt.uniq s ⟨((mM.map za5).append mN).trans s2.perm, s2.rise⟩
def zrN (Q : V -> H -> Prop) (h : H) (R : Nat -> Prop) (p m : Nat) (px : Pfx) (D L : List Chg) : Prop :=
 ((mayP px && zci px L) = false -> ∀ h', Ge h h' -> h'.WF -> Q (.tup [.nilsl, .int .i64 2]) h') ∧
 (mayP px = true -> zci px L = true -> zec px D L = true -> ∀ h', Ge h h' -> h'.WF -> Q (.tup [.nilsl, .int .i64 7]) h') ∧
 (mayP px = true -> zci px L = true -> zec px D L = false -> ∀ w es h' n1, But h h' p m -> h'.WF -> h.next ≤ n1 -> OutAt h' (fun j => R j ∨ (h.next ≤ j ∧ j < n1)) p m (zhf px D L) -> LfP h' (fun j => n1 ≤ j) w (zco px D L) es -> Q (.tup [w, .int .i64 0]) h')
theorem zni {h : H} {R : Nat -> Prop} {p m : Nat} {px : Pfx} {D L : List Chg} {v : V} {es : List (List V)} (x : OutAt h R p m D) (hD : ∀ d ∈ D, d.gone = false) (lk : ∀ h', But h h' p m -> CsAt h'.get v L es) (zL : ∀ c ∈ L, AttSz c.att) (hb : D.length ≤ 4096) (hl : L.length ≤ 10000) {Q : V -> H -> Prop} (q : zrN Q h R p m px D L) : Acalls Tryz.prog 12 [.ptr p 1 0, .agg (pfxC px), v] h Q := by
 obtain ⟨q1, q2, q3⟩ := q
 refine zaw Tryz.func12 S.a2c S.a2e (Nat.le_of_ble_eq_true rfl) fun wf => ?_; simp only [S.a2]
 obtain ⟨hp, hm, hpm⟩ := x.lt wf
 obtain ⟨h1, hh1⟩ : ∃ h1, h1 = h.push (.row (pfxC px)) := ⟨_, rfl⟩
 have g1 : Ge h h1 := by rw [hh1]; exact (Ge.refl _).push _
 have w1 : h1.WF := by rw [hh1]; exact wf.push _
 have n1 : h1.next = h.next + 1 := by rw [hh1]; simp
 have x0 : OutAt h (fun j => R j ∧ j < h.next) p m D := x.mono fun j hj hr => ⟨hr, hj⟩
 have x1 := x0.ge wf g1
 have c4 : zab h1.get h.next 4 = some (pfxC px) := by rw [hh1]; simp [pfxC]
 have pc := zgQ (h := h1) (p := px)
 simp only [pfxC] at hh1 c4 pc
 simp [pfxC]
 rw [<- hh1]
 refine zgn x1 _ ?_
 simp [c4]
 refine pc _ ?_
 cases hmp : mayP px with
 | false =>
  simp
  exact q1 (by rw [hmp]; rfl) h1 g1 w1
 | true =>
  simp
  obtain ⟨m8, hm8⟩ : ∃ k, k = h1.next := ⟨_, rfl⟩
  obtain ⟨h2, hh2⟩ : ∃ h2, h2 = h1.push (.mapo [] [] 0) := ⟨_, rfl⟩
  have g2 : Ge h1 h2 := by rw [hh2]; exact (Ge.refl _).push _
  have w2 : h2.WF := by rw [hh2]; exact w1.push _
  have n2 : h2.next = h1.next + 1 := by rw [hh2]; simp
  have gh2 : Ge h h2 := g1.trans g2
  have hd2 : HeldAt h2 (fun j => h.next ≤ j) m8 [] := ⟨[], [], 0, [], by rw [hh2, hm8]; simp, MapB.nil _, ⟨List.Perm.refl _, List.Pairwise.nil⟩, rfl, by simp⟩
  have x4 : h2.get h.next = some (.row (pfxC px)) := by rw [g2.2 _ (by omega), hh1]; simp [pfxC]
  have hlen := (lk h2 (gh2.but p m)).sls.len
  rw [(lk h2 (gh2.but p m)).len] at hlen
  rw [<- hh2, <- hm8]
  simp [hlen]
  -- what is wanted
  refine zkN (id := 1) (fun t h' => (t 0 = .ptr p 1 0 ∧ t 4 = .ptr h.next 4 0 ∧ t 8 = .map m8) ∧ Ge h h' ∧ h'.WF ∧ h2.next ≤ h'.next ∧ zci px L = true ∧ h'.get h.next = some (.row (pfxC px)) ∧ HeldAt h' (fun j => h.next ≤ j) m8 (L.foldl putC [])) (fun Rn hR hRet => ?_) ?_
  ·refine zaz (fun i t h' => (t 0 = .ptr p 1 0 ∧ t 4 = .ptr h.next 4 0 ∧ t 8 = .map m8 ∧ t 35 = v ∧ t 36 = .int .i64 (L.length : Nat) ∧ t 37 = .int .i64 (i : Nat)) ∧ Ge h h' ∧ h'.WF ∧ h2.next ≤ h'.next ∧ h'.get h.next = some (.row (pfxC px)) ∧ (L.take i).all (okW px) = true ∧ zas (L.take i) ∧ HeldAt h' (fun j => h.next ≤ j) m8 ((L.take i).foldl putC [])) L.length
    ⟨by simp, gh2, w2, Nat.le_refl _, x4, by simp, by simp [zas], hd2⟩ ?_
   rintro i t h' hi ⟨⟨t0, t4, t8, t35, t36, t37⟩, gb, wb, nb, y4, ha, hk, hw8⟩ K hK
   have m8lt : m8 < h'.next := by omega
   by_cases hlt : i < L.length
   ·have hw := zaJ hlt (by omega : L.length < 9223372036854775808)
    obtain ⟨pp, qq, o, cs, vp, vc, vx, vl, vk, e1, _, e2, e3, e4, A, _, _⟩ := (lk h' (gb.but p m)).atG wb hlt
    have e2' := e2 h' (Ge.refl _)
    obtain ⟨c, hc⟩ : ∃ c, c = L[i] := ⟨_, rfl⟩
    rw [<- hc] at e4 A
    obtain ⟨o1, o2, o3, o4, o5⟩ := A.one
    obtain ⟨h3, hh3⟩ : ∃ h3, h3 = h'.push (.row (chC c vp vc vx vl vk)) := ⟨_, rfl⟩
    have g3 : Ge h' h3 := by rw [hh3]; exact (Ge.refl _).push _
    have w3 : h3.WF := by rw [hh3]; exact wb.push _
    have n3 : h3.next = h'.next + 1 := by rw [hh3]; simp
    have c3 : zab h3.get h'.next 23 = some (chC c vp vc vx vl vk) := by rw [hh3]; simp [chC]
    have of3 := zky (h := h3) (c := c) o1 o2 o3 o4 o5
    simp only [chC] at e4 hh3 c3 of3
    simp [t8, t35, t36, t37, hlt, e1, e2', e3, e4, o1, o2, o3, o4, o5]
    rw [zaL _ _ _ rfl, <- hh3]
    refine of3 _ ?_
    have hw3 : HeldAt h3 (fun j => h.next ≤ j) m8 ((L.take i).foldl putC []) := hw8.keep g3.1 (g3.2 m8 m8lt) fun j s cs _ hj e => (g3.2 j hj).trans e
    have fnd := hw3.find (zad c) (.agg chZ)
    simp only [kyD, kyT, kyV, zad, chZ] at fnd
    rcases fnd with ⟨d, e, f1, f2, f3, f4⟩ | ⟨f1, f2⟩
    ·obtain ⟨dp, dc, dx, dl, dk, rfl, B⟩ := f3
     obtain ⟨p1, p2, p3, p4, p5⟩ := B.at.one
     have dm : d ∈ L.take i := (zc7 hk d).1 f1
     have bad : zci px L = false := by
      rw [zci, Bool.and_eq_false_iff]
      right
      refine decide_eq_false fun kL => ?_
      have kt : zas (L.take (i + 1)) := zey (List.take_sublist _ _) kL
      exact (zgX hlt hk).1 kt d dm (by rw [<- hc]; exact f2)
     simp only [chC] at f4
     simp [kyV, zad, f4, p1, p2, p3, p4, p5]
     refine hRet _ _ ?_
     simp
     refine q1 (by rw [hmp, bad]; rfl) _ ?_ ?_
     ·refine Ge.trans gb (Ge.trans g3 ?_)
      repeat' (first | exact Ge.refl _ | refine Ge.push ?_ _ | refine Ge.set ?_ (by omega) _)
     ·repeat' (first | exact w3 | refine H.WF.push ?_ _ | refine H.WF.set ?_ (by simp) _)
    ·have a0 : ¬ h'.next = h3.next := by omega
     obtain ⟨h4, hh4⟩ : ∃ h4, h4 = h3.push (.row chZ) := ⟨_, rfl⟩
     have g4 : Ge h3 h4 := by rw [hh4]; exact (Ge.refl _).push _
     have w4 : h4.WF := by rw [hh4]; exact w3.push _
     have n4 : h4.next = h3.next + 1 := by rw [hh4]; simp
     have c10 : zab h4.get h'.next 23 = some (chC c vp vc vx vl vk) := by rw [g4.cells (by omega)]; simpa [chC] using c3
     have g34 := g3.trans g4
     have A4 := A.ge wb g34
     have y44 : zab h4.get h.next 4 = some (pfxC px) := (zai (n := 4) ((g34.2 h.next (by omega)).trans y4) rfl).trans rfl
     have nc := zj1 (h := h4) (n := c.n)
     have ck := zjx A4
     have ep := zkj c.n.p px
     simp only [chZ] at hh4
     simp only [chC] at c10
     simp only [nlC, pfxC] at nc y44 ep
     simp only [attC] at ck
     have retE : okW px c = false -> ∀ G, Ge h4 G -> G.WF -> Q (.tup [.nilsl, .int .i64 2]) G := fun e G gG wG => q1 (by
      have : zci px L = false := by
       rw [zci, Bool.and_eq_false_iff]
       left
       cases hA : L.all (okW px) with
       | false => rfl
       | true => have := List.all_eq_true.1 hA c (by rw [hc]; exact List.getElem_mem hlt); rw [e] at this; cases this
      rw [this, Bool.and_false]) G (gb.trans (g34.trans gG)) wG
     simp [kyV, zad, f2]
     rw [zaL _ _ _ rfl, <- hh4]
     simp [a0, c3]
     cases hgn : c.gone with
     | true =>
      simp
      refine hRet _ _ ?_
      simp
      exact retE (by simp [okW, hgn]) h4 (Ge.refl _) w4
     | false =>
      cases hpx : decide (c.n.p = px) with
      | false =>
       rw [hpx] at ep
       simp [c10, y44, t4, ep]
       refine hRet _ _ ?_
       simp
       exact retE (by simp [okW, of_decide_eq_false hpx]) h4 (Ge.refl _) w4
      | true =>
       rw [hpx] at ep
       have hpx' := of_decide_eq_true hpx
       simp [c10, y44, t4, ep]
       refine nc _ ?_
       cases hmn : mayN c.n with
       | false =>
        simp
        refine hRet _ _ ?_
        simp
        exact retE (by simp [okW, hmn]) h4 (Ge.refl _) w4
       | true =>
        simp [c10]
        refine ck _ ?_
        cases hat : attB c.att with
        | false =>
         simp
         refine hRet _ _ ?_
         simp
         exact retE (by simp [okW, hat]) h4 (Ge.refl _) w4
        | true =>
         simp
         have okc : okW px c = true := by simp [okW, hgn, hpx', hmn, hat]
         have zc : AttSz c.att := zfa hat
         have of4 := zky (h := h4) (c := c) o1 o2 o3 o4 o5
         have ow4 := fun Q q => zf4 (h := h4) (Q := Q) A4 zc q
         obtain ⟨yp, yc, yx, yl, yk, hy, gy, wy, fy⟩ := zhU w4 zc
         have lt10 : h'.next < h4.next := by omega
         simp only [chC] at of4 ow4
         refine zbP [h'.next] [0, 0, 1, 2, 0, 0] rfl (by rfl) ?_
         simp [t8, c10, I.foot, zaQ]
         refine zby of4 (by decide) (fun _ => fun k hk => rfl) ?_
         simp [c10, I.foot, zaQ]
         refine ⟨by decide, fun w g => ∃ wp wc wx wl wk, w = .agg (chC c wp wc wx wl wk) ∧ Ge h4 g ∧ g.WF ∧ AttFr g h4.next c.att wp wc wx wl wk, ⟨_, hy, yp, yc, yx, yl, yk, rfl, gy, wy, fy⟩, ow4 _ fun wp wc wx wl wk g a b f => ⟨wp, wc, wx, wl, wk, rfl, a, b, f⟩, ?_⟩
         rintro _ g ⟨wp, wc, wx, wl, wk, rfl, gg, wg, F⟩
         refine ⟨fun e => (by cases e), ?_⟩
         have ng := gg.1
         have gg' : Ge h' g := g34.trans gg
         have hwg : HeldAt g (fun j => h.next ≤ j) m8 ((L.take i).foldl putC []) := hw8.keep gg'.1 (gg'.2 m8 m8lt) fun j s cs _ hj e => (gg'.2 j hj).trans e
         have hch : ChP g (fun j => h.next ≤ j) c (chC c wp wc wx wl wk) := ⟨wp, wc, wx, wl, wk, rfl, F.p.mono fun j _ hj => by have := gb.1; omega⟩
         obtain ⟨ob, hset, hld⟩ := hwg.set c hch
         simp only [kyD, kyT] at hset
         simp [hset, t37, hw]
         have gbn := gb.1
         refine hK _ _ hlt ?_
         refine ⟨by simp [t0, t4, t8, t35, t36], ((gb.trans gg').set (by omega) _), wg.set (by omega) _, by simp; omega, ?_, ?_, ?_, ?_⟩
         ·rw [H.get_set, if_neg (by omega), gg'.2 _ (by omega)]; exact y4
         ·rw [List.take_add_one, List.getElem?_eq_getElem hlt, List.all_append, ha, <- hc]; simp [okc]
         ·exact (zgX hlt hk).2 fun d hd e2 => f1 d ((zc7 hk d).2 hd) (by rw [<- hc] at e2; exact e2)
         ·rw [List.take_add_one, List.getElem?_eq_getElem hlt, <- hc, List.foldl_append]; exact hld
   ·have hi2 : i = L.length := by omega
    rw [hi2, List.take_length] at ha hk hw8
    simp [t36, t37, hi2]
    refine hR _ _ ⟨by simp [t0, t4, t8], gb, wb, nb, by rw [zci, ha, Bool.true_and]; exact decide_eq_true hk, y4, hw8⟩
  ·rintro t h5 ⟨⟨t0, t4, t8⟩, g5, w5, n5, hwb, y4, hw8⟩
   have kL : zas L := by
    rw [zci, Bool.and_eq_true] at hwb
    exact of_decide_eq_true hwb.2
   have x5 := x0.ge wf g5
   replace hw8 : HeldAt h5 (fun j => h.next ≤ j ∧ j < h5.next) m8 (L.foldl putC []) := hw8.mono fun j hj hr => ⟨hr, hj⟩
   obtain ⟨es0, bs0, tk0, L0, a1, mb, srt, hl0, hent⟩ := x5.held
   have LD : L0.length = D.length := srt.perm.length_eq
   obtain ⟨hp5, hm5, _⟩ := x5.lt w5
   have m8lt : m8 < h5.next := by omega
   simp [t0, x5.cell]
   refine ⟨m, es0, bs0, tk0, rfl, a1, ?_⟩
   simp
   obtain ⟨it, hit⟩ : ∃ it, it = h5.next := ⟨_, rfl⟩
   obtain ⟨h6, hh6⟩ : ∃ h6, h6 = h5.push (.miter m tk0 [] tk0) := ⟨_, rfl⟩
   have g6 : Ge h5 h6 := by rw [hh6]; exact (Ge.refl _).push _
   have w6 : h6.WF := by rw [hh6]; exact w5.push _
   have n6 : h6.next = h5.next + 1 := by rw [hh6]; simp
   rw [<- hh6, <- hit]
   -- what is told no more
   refine za8 (id := 3) (fun t h' => (t 0 = .ptr p 1 0 ∧ t 8 = .map m8) ∧ h'.WF ∧ (∀ j, j < h5.next -> h'.get j = h5.get j) ∧ h6.next ≤ h'.next ∧ ∃ (w : V) (fs : List (List V)) (M : List Chg), t 13 = w ∧ t 14 = .int .i64 ((D.filter (inP px)).length : Nat) ∧ M.Perm (D.filter (zbI px L)) ∧ Gl h' h6.next 23 w fs ∧ AtR (ChP h' fun j => h6.next ≤ j) (M.map za5) fs) (fun Rn hR => ?_) ?_
   ·refine zaz (fun k t h' => (t 0 = .ptr p 1 0 ∧ t 4 = .ptr h.next 4 0 ∧ t 8 = .map m8 ∧ t 82 = .ptr it 0 0) ∧ h'.WF ∧ (∀ j, j < h5.next -> h'.get j = h5.get j) ∧ h6.next ≤ h'.next ∧ ∃ w fs dn seen st, t 13 = w ∧ t 14 = .int .i64 (((metL L0 dn).filter (inP px)).length : Nat) ∧ Vis bs0 seen dn ∧ dn.length = k ∧ h'.get it = some (.miter m tk0 seen st) ∧ Gl h' h6.next 23 w fs ∧ AtR (ChP h' fun j => h6.next ≤ j) (((metL L0 dn).filter (zbI px L)).map za5) fs) bs0.length
     ⟨by simp [t0, t4, t8], w6, fun j hj => g6.2 j hj, Nat.le_refl _, .nilsl, [], [], [], tk0, by simp, by simp [metL], Vis.nil _, rfl, by rw [hh6, hit]; simp, Gl.nil _ _ _, AtR.nil _⟩ ?_
    rintro k t h' hk ⟨⟨t0, t4, t8, t82⟩, wb, kb, nb, w, fs, dn, seen, st, t13, t14, vis, hdn, hi, gl, ar⟩ K hK
    have hm' : h'.get m = some (.mapo es0 bs0 tk0) := (kb m hm5).trans a1
    have ow := gl.one
    simp [t82]
    refine ⟨it, m, tk0, seen, st, es0, bs0, rfl, hi, hm', fun i e b' he hb' hbs => ?_, fun hall => ?_⟩
    ·simp [t82]
     obtain ⟨h7, hh7⟩ : ∃ h7, h7 = h'.set it (.miter m tk0 (seen ++ [b']) tk0) := ⟨_, rfl⟩
     have n7 : h7.next = h'.next := by rw [hh7]; simp
     have w7 : h7.WF := by rw [hh7]; exact wb.set (by omega) _
     have k7 : ∀ j, j ≠ it -> h7.get j = h'.get j := fun j hj => by rw [hh7, H.get_set, if_neg hj]
     have i7 : h7.get it = some (.miter m tk0 (seen ++ [b']) tk0) := by rw [hh7]; simp
     refine ⟨it, m, tk0, tk0, seen, b', es0, bs0, i, e, rfl, by simp, by simp [show ¬ m = it by omega, hm'], he, hb', ?_⟩
     have v7 := vis.snoc hb' hbs
     have hlen7 : dn.length < bs0.length := by have := v7.le; simp at this; omega
     have hil : i < L0.length := by rw [<- hl0]; exact (List.getElem?_eq_some_iff.1 he).1
     obtain ⟨c, hc⟩ : ∃ c, c = L0[i] := ⟨_, rfl⟩
     have hci : L0[i]? = some c := by rw [hc]; exact List.getElem?_eq_getElem hil
     obtain ⟨e', he', vp, vc, vx, vl, vk, hee, A⟩ := hent i c hci
     rw [he, Option.some.injEq] at he'
     subst hee
     obtain ⟨o1, o2, o3, o4, o5⟩ := A.one
     have met := zdH (dn := dn) hci
     have b7 : ∀ j, j < h5.next -> h7.get j = h5.get j := fun j hj => by rw [k7 j (by omega)]; exact kb j hj
     rw [<- hh7, he']
     simp only [chC, kyV]
     simp [zad, o1, o2, o3, o4, o5]
     rw [zdT _ _ _ _ _ rfl rfl]
     obtain ⟨h8, hh8⟩ : ∃ h8, h8 = (h7.push (.row [.int .i64 c.n.p.fam, .int .u64 (c.n.p.rd : Nat), .str c.n.p.addr, .int .i64 c.n.p.len, .int .u32 (c.n.id : Nat)])).push (.row (chC c vp vc vx vl vk)) := ⟨_, rfl⟩
     have g8 : Ge h7 h8 := by rw [hh8]; exact ((Ge.refl _).push _).push _
     have w8 : h8.WF := by rw [hh8]; exact (w7.push _).push _
     have n8 : h8.next = h7.next + 2 := by rw [hh8]; simp
     have cA : zab h8.get h7.next 5 = some [.int .i64 c.n.p.fam, .int .u64 (c.n.p.rd : Nat), .str c.n.p.addr, .int .i64 c.n.p.len, .int .u32 (c.n.id : Nat)] := by rw [hh8]; simp
     have cB : zab h8.get (h7.next + 1) 23 = some (chC c vp vc vx vl vk) := by rw [hh8]; simp [chC]
     have xB : h8.get (h7.next + 1) = some (.row (chC c vp vc vx vl vk)) := by rw [hh8]; simp
     have i8 : h8.get it = some (.miter m tk0 (seen ++ [b']) tk0) := (g8.2 it (by omega)).trans i7
     have b8 : ∀ j, j < h5.next -> h8.get j = h5.get j := fun j hj => by rw [g8.2 j (by omega)]; exact b7 j hj
     have gl8 : Gl h8 h6.next 23 w fs := (gl.keep (by omega) fun j hj => k7 j (by have := gl.lo j hj; omega)).keep (by omega) fun j hj => g8.2 j (by have := (gl.lo j hj).2; omega)
     have ar8 : AtR (ChP h8 fun j => h6.next ≤ j) (((metL L0 dn).filter (zbI px L)).map za5) fs := ar.mono fun c e f => (f.keep (by omega) fun j s cs _ _ e => by rw [k7 j (fun e2 => by subst e2; rw [hi] at e; cases e)]; exact e).ge g8
     have y48 : zab h8.get h.next 4 = some (pfxC px) := (zai (n := 4) ((b8 h.next (by omega)).trans y4) rfl).trans rfl
     have ep := zkj c.n.p px
     have hw88 : HeldAt h8 (fun j => h.next ≤ j ∧ j < h5.next) m8 (L.foldl putC []) := hw8.keep (by omega) (b8 m8 m8lt) fun j s cs _ hj e => (b8 j hj).trans e
     simp only [chC] at hh8 cB
     simp only [pfxC] at y48 ep
     rw [<- hh8]
     -- a round that tells nothing
     have quiet : zbI px L c = false -> ∀ G : H, Ge h8 G -> G.WF -> ∀ tt : Tm, (tt 0 = .ptr p 1 0 ∧ tt 4 = .ptr h.next 4 0 ∧ tt 8 = .map m8 ∧ tt 82 = .ptr it 0 0) -> tt 13 = w -> tt 14 = .int .i64 (((metL L0 (dn ++ [i])).filter (inP px)).length : Nat) -> K tt G := fun e G gG wG tt r5 e13 e14 => by
      have nG := gG.1
      refine hK _ _ (by omega) ⟨r5, wG, fun j hj => by rw [gG.2 j (by omega)]; exact b8 j hj, by omega, w, fs, dn ++ [i], seen ++ [b'], tk0, e13, e14, v7, by simp [hdn], (gG.2 it (by omega)).trans i8, gl8.keep gG.1 fun j hj => gG.2 j (gl8.lo j hj).2, ?_⟩
      rw [met, List.filter_append]
      have e1 : [c].filter (zbI px L) = [] := by simp [e]
      rw [e1, List.append_nil]
      exact ar8.mono fun _ _ f => f.ge gG
     cases hpx : decide (c.n.p = px) with
     | false =>
      rw [hpx] at ep
      have e1 : inP px c = false := hpx
      simp [y48, t4, ep]
      refine quiet (by rw [zbI, e1]; rfl) h8 (Ge.refl _) w8 _ ?_ ?_ ?_
      ·simp [t0, t4, t8, t82]
      ·simp [t13]
      ·simp [t14, met, List.filter_append, e1]
     | true =>
      rw [hpx] at ep
      have e1 : inP px c = true := hpx
      have ml : ((metL L0 dn).filter (inP px)).length ≤ 4096 := by
       refine Nat.le_trans (List.length_filter_le _ _) ?_
       simp only [metL, List.length_map]
       have := vis.le
       rw [mb.len, hl0] at this
       omega
      obtain ⟨cn, hcn⟩ : ∃ cn, cn = ((metL L0 dn).filter (inP px)).length := ⟨_, rfl⟩
      rw [<- hcn] at t14 ml
      have wc : IntKind.i64.wrap ((cn : Int) + 1) = (cn : Int) + 1 := zaf (by omega) (by omega)
      have cn2 : ((metL L0 (dn ++ [i])).filter (inP px)).length = cn + 1 := by rw [met, List.filter_append, List.length_append, <- hcn]; simp [e1]
      have fnd := hw88.find (zad c) (.agg chZ)
      simp only [kyD, kyT, kyV, zad, chZ] at fnd
      rcases fnd with ⟨d, e, f1, f2, f3, f4⟩ | ⟨f1, f2⟩
      ·have gb0 : zbI px L c = false := by
        rw [zbI, Bool.and_eq_false_iff]
        right
        have : L.any (fun d => decide (zad d = zad c)) = true := List.any_eq_true.2 ⟨d, (zc7 kL d).1 f1, decide_eq_true f2⟩
        rw [this]; rfl
       obtain ⟨dp, dc, dx, dl, dk, rfl, B⟩ := f3
       obtain ⟨p1, p2, p3, p4, p5⟩ := B.at.one
       simp only [chC] at f4
       simp [cA, y48, t4, ep, t14, wc, t8, f4, p1, p2, p3, p4, p5]
       rw [zaL _ _ _ rfl]
       refine quiet gb0 _ ((Ge.refl _).push _) (w8.push _) _ ?_ ?_ ?_
       ·simp [t0, t4, t8, t82]
       ·simp [t13]
       ·simp [cn2]
      ·have gb1 : zbI px L c = true := by
        rw [zbI, e1, Bool.true_and, Bool.not_eq_true', List.any_eq_false]
        intro d hd
        simp only [decide_eq_true_eq]
        exact f1 d ((zc7 kL d).2 hd)
       simp [cA, y48, t4, ep, t14, wc, t8, f2]
       rw [zaL _ _ _ rfl]
       have a0 : ¬ h7.next + 1 = h8.next := by omega
       have xB' := xB
       simp only [chC] at xB'
       simp [a0, xB']
       obtain ⟨h9, hh9⟩ : ∃ h9, h9 = (h8.push (.row chZ)).set (h7.next + 1) (.row (chC ⟨c.gone, ⟨c.n.p, c.n.id, 0⟩, c.att⟩ vp vc vx vl vk)) := ⟨_, rfl⟩
       have n9 : h9.next = h8.next + 1 := by rw [hh9]; simp
       have w9 : h9.WF := by rw [hh9]; exact (w8.push _).set (by simp; omega) _
       have k9 : ∀ j, j < h8.next -> j ≠ h7.next + 1 -> h9.get j = h8.get j := fun j hj hne => by rw [hh9, H.get_set, if_neg hne, H.get_push, if_neg (by omega)]
       have cC : zab h9.get (h7.next + 1) 23 = some (chC ⟨c.gone, ⟨c.n.p, c.n.id, 0⟩, c.att⟩ vp vc vx vl vk) := by rw [hh9]; simp [chC]
       have gl9 : Gl h9 h6.next 23 w fs := gl8.keep (by omega) fun j hj => k9 j (gl8.lo j hj).2 (fun e2 => by
        rcases gl8 with ⟨_, rfl⟩ | ⟨_, j2, _, _, rfl, a3⟩
        ·simp [V.ids] at hj
        ·simp [V.ids] at hj
         subst hj
         rw [e2, xB] at a3
         cases a3)
       have f23 : ∀ e ∈ fs, e.length = 23 := fun e he => by obtain ⟨_, _, f⟩ := ar8.mem e he; exact f.at.len
       have fl : fs.length ≤ 4096 := by
        rw [ar8.1, List.length_map]
        refine Nat.le_trans (List.length_filter_le _ _) ?_
        simp only [metL, List.length_map]
        have := vis.le
        rw [mb.len, hl0] at this
        omega
       obtain ⟨v', d, ea, gl10, n10, k10, w10, _⟩ := zeF (bytes := 240) (chC (za5 c) .nilsl .nilsl .nilsl .nilsl .nilsl) gl9 (by omega) f23 rfl (by simp [chC]) (by decide) (by omega) (by omega)
       have fin : ∀ tt : Tm, (tt 0 = .ptr p 1 0 ∧ tt 4 = .ptr h.next 4 0 ∧ tt 8 = .map m8 ∧ tt 82 = .ptr it 0 0) -> tt 13 = v' -> tt 14 = .int .i64 ((cn + 1 : Nat) : Nat) -> K tt ((h9.push (.row (chC (za5 c) .nilsl .nilsl .nilsl .nilsl .nilsl))).app d) := fun tt r5 e13 e14 => by
        have keepA : ∀ j s cs, s ≠ 23 -> j < h8.next -> h8.get j = some (.grow s cs) -> ((h9.push (.row (chC (za5 c) .nilsl .nilsl .nilsl .nilsl .nilsl))).app d).get j = some (.grow s cs) := fun j s cs hs hj e => by
         have e9 : h9.get j = some (.grow s cs) := by rw [k9 j hj (fun e2 => by rw [e2, xB] at e; cases e)]; exact e
         by_cases hv : j ∈ w.ids
         ·rcases gl9 with ⟨_, rfl⟩ | ⟨_, j2, _, _, rfl, a3⟩
          ·simp [V.ids] at hv
          ·simp [V.ids] at hv
           subst hv
           rw [a3] at e9
           cases e9
           exact absurd rfl hs
         ·rw [k10 j hv (by omega)]; exact e9
        have outA : ∀ j, j < h6.next -> ((h9.push (.row (chC (za5 c) .nilsl .nilsl .nilsl .nilsl .nilsl))).app d).get j = h8.get j := fun j hj => by
         rw [k10 j (fun hv => by have := (gl9.lo j hv).1; omega) (by omega), k9 j (by omega) (by omega)]
        refine hK _ _ (by omega) ⟨r5, w10 w9, fun j hj => by rw [outA j (by omega)]; exact b8 j hj, by omega, v', fs ++ [chC (za5 c) .nilsl .nilsl .nilsl .nilsl .nilsl], dn ++ [i], seen ++ [b'], tk0, e13, by rw [cn2]; exact e14, v7, by simp [hdn], by rw [outA it (by omega)]; exact i8, gl10, ?_⟩
        rw [met, List.filter_append]
        have e2 : [c].filter (zbI px L) = [c] := by simp [gb1]
        rw [e2, List.map_append]
        refine AtR.append (ar8.mono fun _ _ f => f.keep3 (by omega) fun j s cs hs _ hj e => keepA j s cs (by omega) hj e) (AtR.single ⟨.nilsl, .nilsl, .nilsl, .nilsl, .nilsl, rfl, zkt _ _⟩)
       have z0 : ((0 : Nat) : Int) = 0 := rfl
       rw [n9] at ea
       simp only [chC, za5, att0, chZ, z0] at hh9 cC ea fin
       rw [<- hh9]
       simp [t13, ea]
       refine fin _ ?_ ?_ ?_
       ·simp [t0, t4, t8, t82]
       ·simp
       ·simp
    ·simp
     have full := vis.full mb.nd hall
     rw [mb.len, hl0] at full
     have mp := (zdL full).trans srt.perm
     refine hR _ _ ⟨by simp [t0, t8], wb, kb, nb, w, fs, (metL L0 dn).filter (zbI px L), by simp [t13], ?_, mp.filter _, gl, ar⟩
     simp [t14, (mp.filter (inP px)).length_eq]
   ·rintro t h7 ⟨⟨t0, t8⟩, w7, k7, n7, w, fs, M, t13, t14, mM, gl, ar⟩
    have x7 : OutAt h7 (fun j => R j ∧ j < h.next) p m D := x5.keep (by omega) (k7 p hp5) (k7 m hm5) fun j s cs _ hj e => (k7 j hj).trans e
    have hw87 : HeldAt h7 (fun j => h.next ≤ j ∧ j < h5.next) m8 (L.foldl putC []) := hw8.keep (by omega) (k7 m8 m8lt) fun j s cs _ hj e => (k7 j hj).trans e
    have lm8 := hw87.len h7.get rfl
    have sL := (zfI kL).perm.length_eq
    rw [<- sL] at lm8
    have fle : (D.filter (inP px)).length ≤ D.length := List.length_filter_le _ _
    have fsum : (D.filter (inP px)).length + (D.filter fun c => !inP px c).length = D.length := by
     have := List.length_eq_countP_add_countP (p := inP px) (l := D)
     rw [List.countP_eq_length_filter, List.countP_eq_length_filter] at this
     simpa using this.symm
    obtain ⟨off, hoff⟩ : ∃ off, off = (D.filter fun c => !inP px c).length := ⟨_, rfl⟩
    obtain ⟨onn, honn⟩ : ∃ onn, onn = (D.filter (inP px)).length := ⟨_, rfl⟩
    rw [<- honn] at t14 fle fsum
    rw [<- hoff] at fsum
    have ws : IntKind.i64.wrap ((D.length : Int) - (onn : Int)) = (off : Int) := by rw [show (D.length : Int) - (onn : Int) = (off : Int) by omega]; exact zaf (by omega) (by omega)
    have wa : IntKind.i64.wrap ((off : Int) + (L.length : Int)) = ((off + L.length : Nat) : Int) := by rw [<- Int.natCast_add]; exact zaf (by omega) (by omega)
    have lD := x7.len
    by_cases hfull : 4096 < off + L.length
    ·have hf2 : zec px D L = true := by rw [zec, <- hoff]; exact decide_eq_true hfull
     have hf3 : (4096 : Int) < (off : Int) + (L.length : Int) := by omega
     have hf4 : (4096 : Int) < ((off + L.length : Nat) : Int) := by omega
     simp [t0, t8, t14, x7.cell, lD, lm8, ws, wa, hf3]
     exact q2 hmp hwb hf2 h7 ⟨by omega, fun j hj => by rw [k7 j (by omega)]; exact g5.2 j hj⟩ w7
    ·have hf2 : zec px D L = false := by rw [zec, <- hoff]; exact decide_eq_false hfull
     have hf3 : ¬ (4096 : Int) < (off : Int) + (L.length : Int) := by omega
     have hf4 : ¬ (4096 : Int) < ((off + L.length : Nat) : Int) := by omega
     simp [t0, t8, t14, x7.cell, lD, lm8, ws, wa, hf3]
     obtain ⟨es8, bs8, tk8, L8, a8, mb8, srt8, hl8, hent8⟩ := hw87
     have LD8 : L8.length = L.length := srt8.perm.length_eq.trans sL.symm
     have p8L : L8.Perm L := srt8.perm.trans (zfI kL).perm.symm
     have okL : ∀ c ∈ L, okW px c = true := fun c hc => by
      rw [zci, Bool.and_eq_true] at hwb
      exact List.all_eq_true.1 hwb.1 c hc
     refine ⟨m8, es8, bs8, tk8, rfl, a8, ?_⟩
     simp
     obtain ⟨it3, hit3⟩ : ∃ it, it = h7.next := ⟨_, rfl⟩
     obtain ⟨h8, hh8⟩ : ∃ h8, h8 = h7.push (.miter m8 tk8 [] tk8) := ⟨_, rfl⟩
     have g8 : Ge h7 h8 := by rw [hh8]; exact (Ge.refl _).push _
     have w8 : h8.WF := by rw [hh8]; exact w7.push _
     have n8 : h8.next = h7.next + 1 := by rw [hh8]; simp
     rw [<- hh8, <- hit3]
     have Mlen : M.length ≤ D.length := by rw [mM.length_eq]; exact List.length_filter_le _ _
     -- what is to be told
     refine za8 (id := 5) (fun t h' => (t 0 = .ptr p 1 0 ∧ t 8 = .map m8) ∧ h'.WF ∧ (∀ j, j < h6.next -> h'.get j = h7.get j) ∧ h8.next ≤ h'.next ∧ ∃ (w : V) (fs : List (List V)) (N : List Chg), t 13 = w ∧ N.Perm (L.filter (newB D)) ∧ Gl h' h6.next 23 w fs ∧ AtR (ChP h' fun j => h6.next ≤ j) (M.map za5 ++ N) fs) (fun Rn hR => ?_) ?_
     ·refine zaz (fun k t h' => (t 0 = .ptr p 1 0 ∧ t 8 = .map m8 ∧ t 122 = .ptr it3 0 0) ∧ h'.WF ∧ (∀ j, j < h6.next -> h'.get j = h7.get j) ∧ h8.next ≤ h'.next ∧ ∃ (w : V) (fs : List (List V)) (dn seen : List Nat) (st : Nat), t 13 = w ∧ Vis bs8 seen dn ∧ dn.length = k ∧ h'.get it3 = some (.miter m8 tk8 seen st) ∧ Gl h' h6.next 23 w fs ∧ AtR (ChP h' fun j => h6.next ≤ j) (M.map za5 ++ (metL L8 dn).filter (newB D)) fs) bs8.length
       ⟨by simp [t0, t8], w8, fun j hj => g8.2 j (by omega), Nat.le_refl _, w, fs, [], [], tk8, by simp [t13], Vis.nil _, rfl, by rw [hh8, hit3]; simp, gl.keep g8.1 fun j hj => g8.2 j (gl.lo j hj).2, by simpa [metL] using ar.mono fun _ _ f => f.ge g8⟩ ?_
      rintro k t h' hk ⟨⟨t0, t8, t122⟩, wb, kb, nb, w, fs, dn, seen, st, t13, vis, hdn, hi, gl, ar⟩ K hK
      have hm' : h'.get m8 = some (.mapo es8 bs8 tk8) := (kb m8 (by omega)).trans a8
      have ow := gl.one
      simp [t122]
      refine ⟨it3, m8, tk8, seen, st, es8, bs8, rfl, hi, hm', fun i e b' he hb' hbs => ?_, fun hall => ?_⟩
      ·simp [t122]
       obtain ⟨h9, hh9⟩ : ∃ h9, h9 = h'.set it3 (.miter m8 tk8 (seen ++ [b']) tk8) := ⟨_, rfl⟩
       have n9 : h9.next = h'.next := by rw [hh9]; simp
       have w9 : h9.WF := by rw [hh9]; exact wb.set (by omega) _
       have k9 : ∀ j, j ≠ it3 -> h9.get j = h'.get j := fun j hj => by rw [hh9, H.get_set, if_neg hj]
       have i9 : h9.get it3 = some (.miter m8 tk8 (seen ++ [b']) tk8) := by rw [hh9]; simp
       refine ⟨it3, m8, tk8, tk8, seen, b', es8, bs8, i, e, rfl, by simp, by simp [show ¬ m8 = it3 by omega, hm'], he, hb', ?_⟩
       have v9 := vis.snoc hb' hbs
       have hlen9 : dn.length < bs8.length := by have := v9.le; simp at this; omega
       have hil : i < L8.length := by rw [<- hl8]; exact (List.getElem?_eq_some_iff.1 he).1
       obtain ⟨c, hc⟩ : ∃ c, c = L8[i] := ⟨_, rfl⟩
       have hci : L8[i]? = some c := by rw [hc]; exact List.getElem?_eq_getElem hil
       have hcL : c ∈ L := p8L.mem_iff.1 (by rw [hc]; exact List.getElem_mem hil)
       obtain ⟨e', he', vp, vc, vx, vl, vk, hee, A⟩ := hent8 i c hci
       rw [he, Option.some.injEq] at he'
       subst hee
       obtain ⟨o1, o2, o3, o4, o5⟩ := A.one
       have zc := A.sz
       have met := zdH (dn := dn) hci
       have b9 : ∀ j, j < h6.next -> h9.get j = h7.get j := fun j hj => by rw [k9 j (by omega)]; exact kb j hj
       rw [<- hh9, he']
       simp only [chC, kyV]
       simp [zad, o1, o2, o3, o4, o5]
       rw [zdT _ _ _ _ _ rfl rfl]
       obtain ⟨hA, hhA⟩ : ∃ hA, hA = (h9.push (.row [.int .i64 c.n.p.fam, .int .u64 (c.n.p.rd : Nat), .str c.n.p.addr, .int .i64 c.n.p.len, .int .u32 (c.n.id : Nat)])).push (.row (chC c vp vc vx vl vk)) := ⟨_, rfl⟩
       have gA : Ge h9 hA := by rw [hhA]; exact ((Ge.refl _).push _).push _
       have wA : hA.WF := by rw [hhA]; exact (w9.push _).push _
       have nA : hA.next = h9.next + 2 := by rw [hhA]; simp
       have cA : zab hA.get h9.next 5 = some [.int .i64 c.n.p.fam, .int .u64 (c.n.p.rd : Nat), .str c.n.p.addr, .int .i64 c.n.p.len, .int .u32 (c.n.id : Nat)] := by rw [hhA]; simp
       have cB : zab hA.get (h9.next + 1) 23 = some (chC c vp vc vx vl vk) := by rw [hhA]; simp [chC]
       have iA : hA.get it3 = some (.miter m8 tk8 (seen ++ [b']) tk8) := (gA.2 it3 (by omega)).trans i9
       have bA : ∀ j, j < h6.next -> hA.get j = h7.get j := fun j hj => by rw [gA.2 j (by omega)]; exact b9 j hj
       have glA : Gl hA h6.next 23 w fs := (gl.keep (by omega) fun j hj => k9 j (fun e2 => by
        rcases gl with ⟨_, rfl⟩ | ⟨_, j2, _, _, rfl, a3⟩
        ·simp [V.ids] at hj
        ·simp [V.ids] at hj
         subst hj
         rw [e2, hi] at a3
         cases a3)).keep (by omega) fun j hj => gA.2 j (by have := (gl.lo j hj).2; omega)
       have arA : AtR (ChP hA fun j => h6.next ≤ j) (M.map za5 ++ (metL L8 dn).filter (newB D)) fs := ar.mono fun c e f => (f.keep (by omega) fun j s cs _ _ e => by rw [k9 j (fun e2 => by subst e2; rw [hi] at e; cases e)]; exact e).ge gA
       have g5n := g5.1
       have xA : OutAt hA (fun j => R j ∧ j < h.next) p m D := x7.keep (by omega) (bA p (by omega)) (bA m (by omega)) fun j s cs hr hj e => (bA j (by omega)).trans e
       have A7 : AttP hA (fun j => h.next ≤ j ∧ j < h5.next) c.att vp vc vx vl vk := A.keep (by omega) fun j s cs hr hj e => (bA j (by omega)).trans e
       have cP := xA.cell
       have fnd := xA.held.find (zad c) (.agg chZ)
       have okc := okL c hcL
       have gc0 : c.gone = false := by
        simp only [okW, Bool.and_eq_true, Bool.not_eq_true'] at okc
        exact okc.1.1.1
       have frm : [p, h9.next, m].all (· < hA.next) = true := by simp; omega
       -- a round that tells nothing
       have quiet : newB D c = false -> ∀ G : H, Ge hA G -> G.WF -> ∀ tt : Tm, (tt 0 = .ptr p 1 0 ∧ tt 8 = .map m8 ∧ tt 122 = .ptr it3 0 0) -> tt 13 = w -> K tt G := fun e G gG wG tt r5 e13 => by
        have nG := gG.1
        refine hK _ _ (by omega) ⟨r5, wG, fun j hj => by rw [gG.2 j (by omega)]; exact bA j hj, by omega, w, fs, dn ++ [i], seen ++ [b'], tk8, e13, v9, by simp [hdn], (gG.2 it3 (by omega)).trans iA, glA.keep gG.1 fun j hj => gG.2 j (glA.lo j hj).2, ?_⟩
        rw [met, List.filter_append]
        have e1 : [c].filter (newB D) = [] := by simp [e]
        rw [e1, List.append_nil]
        exact arA.mono fun _ _ f => f.ge gG
       have f23 : ∀ e ∈ fs, e.length = 23 := fun e he => by obtain ⟨_, _, f⟩ := arA.mem e he; exact f.at.len
       have fl : fs.length ≤ 20000 := by
        rw [arA.1, List.length_append, List.length_map]
        have h1 : ((metL L8 dn).filter (newB D)).length ≤ L8.length := by
         refine Nat.le_trans (List.length_filter_le _ _) ?_
         simp only [metL, List.length_map]
         have := vis.le
         rw [mb8.len, hl8] at this
         exact this
        omega
       -- one that is told
       have tells : newB D c = true -> ∀ (G G2 : H) (wp wc wx wl wk : V), Ge hA G -> Ge G G2 -> G2.WF -> AttFr G2 G.next c.att wp wc wx wl wk -> ∃ v' d, zaG (G2.push (.row (chC c wp wc wx wl wk))).get (G2.next + 1) 23 240 w (.sl G2.next 23 0 1 (some 1)) = some (v', d) ∧
         ∀ tt : Tm, (tt 0 = .ptr p 1 0 ∧ tt 8 = .map m8 ∧ tt 122 = .ptr it3 0 0) -> tt 13 = v' -> K tt ((G2.push (.row (chC c wp wc wx wl wk))).app d) := fun e G G2 wp wc wx wl wk gG gG2 wG2 F => by
        obtain ⟨f1, f2, f3, f4, f5⟩ := F.one
        have g2' := gG.trans gG2
        have nG := gG.1
        have nG2 := gG2.1
        have gl4 : Gl G2 h6.next 23 w fs := glA.keep g2'.1 fun j hj => g2'.2 j (glA.lo j hj).2
        obtain ⟨v', d, ea, gl5, n5, k5', w5', _⟩ := zeF (bytes := 240) (chC c wp wc wx wl wk) gl4 (by omega) f23 rfl (by simp [chC, f1, f2, f3, f4, f5]) (by decide) (by omega) (by omega)
        refine ⟨v', d, ea, fun tt r5 e5 => ?_⟩
        have keep5 : ∀ j s cs, s ≠ 23 -> j < G2.next -> G2.get j = some (.grow s cs) -> ((G2.push (.row (chC c wp wc wx wl wk))).app d).get j = some (.grow s cs) := fun j s cs hs hj e => by
         by_cases hv : j ∈ w.ids
         ·rcases gl4 with ⟨_, rfl⟩ | ⟨_, j2, _, _, rfl, a3⟩
          ·simp [V.ids] at hv
          ·simp [V.ids] at hv
           subst hv
           rw [a3] at e
           cases e
           exact absurd rfl hs
         ·rw [k5' j hv hj]; exact e
        have out5 : ∀ j, j < h6.next -> ((G2.push (.row (chC c wp wc wx wl wk))).app d).get j = G2.get j := fun j hlt => k5' j (fun hv => by have := (gl4.lo j hv).1; omega) (by omega)
        have oit : ((G2.push (.row (chC c wp wc wx wl wk))).app d).get it3 = G2.get it3 := k5' it3 (fun hv => by
         rcases gl4 with ⟨_, rfl⟩ | ⟨_, j2, _, _, rfl, a3⟩
         ·simp [V.ids] at hv
         ·simp [V.ids] at hv
          subst hv
          rw [g2'.2 _ (by omega), iA] at a3
          cases a3) (by omega)
        refine hK _ _ (by omega) ⟨r5, w5' wG2, fun j hj => ?_, by omega, v', fs ++ [chC c wp wc wx wl wk], dn ++ [i], seen ++ [b'], tk8, e5, v9, by simp [hdn], ?_, gl5, ?_⟩
        ·rw [out5 j hj, g2'.2 j (by omega)]; exact bA j hj
        ·rw [oit, g2'.2 it3 (by omega)]; exact iA
        ·rw [met, List.filter_append]
         have e1 : [c].filter (newB D) = [c] := by simp [e]
         rw [e1, <- List.append_assoc]
         refine AtR.append ?_ (AtR.single ⟨wp, wc, wx, wl, wk, rfl, ?_⟩)
         ·exact arA.mono fun _ _ f => (f.ge g2').keep3 (by omega) fun j s cs hs _ hj e => keep5 j s cs (by omega) hj e
         ·exact (F.p.keep3 (by omega) fun j s cs hs _ hj e => keep5 j s cs (by omega) hj e).mono fun j _ hj => by omega
       have refs : True := trivial
       simp only [chC] at hhA cB
       simp only [kyD, kyT, kyV, zad, chZ] at fnd
       rw [<- hhA]
       refine zbP [p, h9.next, m] [0, 0, 0, 2, 2, 2, 0, 0, 0, 1, 0, 0] rfl (by rfl) ?_
       rcases fnd with ⟨d, e, f1, f2, f3, f4⟩ | ⟨f1, f2⟩
       ·obtain ⟨dp, dc, dx, dl, dk, rfl, B⟩ := f3
        obtain ⟨p1, p2, p3, p4, p5⟩ := B.at.one
        have hdc : newB D c = !decide (d = c) := by
         rw [newB]
         congr 1
         rw [decide_eq_decide]
         constructor
         ·intro hcD
          exact zfR (zaZ srt.rise) f1 hcD f2
         ·rintro rfl; exact f1
        have dg0 := hD d f1
        have dex : d = c ↔ d.n = c.n ∧ d.att = c.att := by
         constructor
         ·rintro rfl; exact ⟨rfl, rfl⟩
         ·rintro ⟨h1, h2⟩
          cases d; cases c
          simp only at dg0 gc0 h1 h2
          simp [dg0, gc0, h1, h2]
        have a0 : ¬ h9.next + 1 = hA.next := by omega
        obtain ⟨hB, hhB⟩ : ∃ hB, hB = hA.push (.row (chC d dp dc dx dl dk)) := ⟨_, rfl⟩
        have gB : Ge hA hB := by rw [hhB]; exact (Ge.refl _).push _
        have wB : hB.WF := by rw [hhB]; exact wA.push _
        have nB : hB.next = hA.next + 1 := by rw [hhB]; simp
        have A8 := A7.at.ge wA gB
        have B8 := B.at.ge wA gB
        have ow8 := fun Q q => zf4 (h := hB) (Q := Q) A8 zc q
        have as8 := zk6 B8 A8
        have en := zpG d.n c.n
        have cD : zab hB.get hA.next 23 = some (chC d dp dc dx dl dk) := by rw [hhB]; simp [chC]
        have cBB : zab hB.get (h9.next + 1) 23 = some (chC c vp vc vx vl vk) := by rw [gB.cells (by omega)]; simpa [chC] using cB
        simp only [chC] at hhB ow8 f4 cD cBB
        simp only [attC] at as8
        simp only [nlC] at en
        simp [t0, cP, cA, f4, I.foot, zaQ, p1, p2, p3, p4, p5]
        refine ⟨fun k hk => ?_, ?_⟩
        ·simp only [List.mem_cons, List.not_mem_nil, or_false] at hk
         rw [H.get_push, if_neg (by omega)]
        rw [zaL _ _ _ rfl, <- hhB]
        have tell : newB D c = true -> True := fun _ => trivial
        cases hn : decide (d.n = c.n) with
        | false =>
         rw [hn] at en
         have new1 : newB D c = true := by rw [hdc, Bool.not_eq_true']; exact decide_eq_false fun e => of_decide_eq_false hn (dex.1 e).1
         simp [a0, cB, cBB, en, t13]
         refine ow8 _ fun wp wc wx wl wk hC gC wC FC => ?_
         obtain ⟨r1, r2, r3, r4, r5⟩ := FC.one
         obtain ⟨v', dd, ea, fin⟩ := tells new1 hB hC wp wc wx wl wk gB gC wC FC
         simp only [chC] at ea fin
         simp [r1, r2, r3, r4, r5, ea]
         refine fin _ ?_ ?_
         ·simp [t0, t8, t122]
         ·simp
        | true =>
         rw [hn] at en
         simp [a0, cB, cBB, cD, en]
         refine as8 _ ?_
         cases hat : decide (d.att = c.att) with
         | false =>
          have new1 : newB D c = true := by rw [hdc, Bool.not_eq_true']; exact decide_eq_false fun e => of_decide_eq_false hat (dex.1 e).2
          simp [cBB, t13]
          refine ow8 _ fun wp wc wx wl wk hC gC wC FC => ?_
          obtain ⟨r1, r2, r3, r4, r5⟩ := FC.one
          obtain ⟨v', dd, ea, fin⟩ := tells new1 hB hC wp wc wx wl wk gB gC wC FC
          simp only [chC] at ea fin
          simp [r1, r2, r3, r4, r5, ea]
          refine fin _ ?_ ?_
          ·simp [t0, t8, t122]
          ·simp
         | true =>
          have new0 : newB D c = false := by rw [hdc, Bool.not_eq_false']; exact decide_eq_true (dex.2 ⟨of_decide_eq_true hn, of_decide_eq_true hat⟩)
          simp
          refine quiet new0 hB gB wB _ ?_ ?_
          ·simp [t0, t8, t122]
          ·simp [t13]
       ·have new1 : newB D c = true := by
         rw [newB, Bool.not_eq_true']
         exact decide_eq_false fun hcD => f1 c hcD rfl
        have a0 : ¬ h9.next + 1 = hA.next := by omega
        obtain ⟨hB, hhB⟩ : ∃ hB, hB = hA.push (.row chZ) := ⟨_, rfl⟩
        have gB : Ge hA hB := by rw [hhB]; exact (Ge.refl _).push _
        have wB : hB.WF := by rw [hhB]; exact wA.push _
        have A8 := A7.at.ge wA gB
        have ow8 := fun Q q => zf4 (h := hB) (Q := Q) A8 zc q
        simp only [chZ] at hhB
        simp only [chC] at ow8
        simp [t0, cP, cA, f2, I.foot, zaQ, a0, cB, t13]
        refine ⟨fun k hk => ?_, ?_⟩
        ·simp only [List.mem_cons, List.not_mem_nil, or_false] at hk
         rw [H.get_push, if_neg (by omega)]
        rw [zaL _ _ _ rfl, <- hhB]
        refine ow8 _ fun wp wc wx wl wk hC gC wC FC => ?_
        obtain ⟨p1, p2, p3, p4, p5⟩ := FC.one
        obtain ⟨v', d, ea, fin⟩ := tells new1 hB hC wp wc wx wl wk gB gC wC FC
        simp only [chC] at ea fin
        simp [p1, p2, p3, p4, p5, ea]
        refine fin _ ?_ ?_
        ·simp [t0, t8, t122]
        ·simp
      ·simp
       have full := vis.full mb8.nd hall
       rw [mb8.len, hl8] at full
       have mp := (zdL full).trans p8L
       exact hR _ _ ⟨by simp [t0, t8], wb, kb, nb, w, fs, (metL L8 dn).filter (newB D), by simp [t13], mp.filter _, gl, ar⟩
     ·rintro t h9 ⟨⟨t0, t8⟩, w9, k9, n9, w, fs, N, t13, mN, gl, ar⟩
      have x9 : OutAt h9 (fun j => R j ∧ j < h.next) p m D := x7.keep (by omega) (k9 p (by omega)) (k9 m (by omega)) fun j s cs hr hj e => (k9 j (by have := g5.1; omega)).trans e
      have hw9 : HeldAt h9 (fun j => h.next ≤ j ∧ j < h5.next) m8 (L.foldl putC []) := ⟨es8, bs8, tk8, L8, (k9 m8 (by omega)).trans a8, mb8, srt8, hl8, fun i c hi => by
       obtain ⟨e, b1, b2⟩ := hent8 i c hi
       exact ⟨e, b1, b2.keep (by omega) fun j s cs hr hj e => (k9 j (by omega)).trans e⟩⟩
      obtain ⟨E, hE⟩ : ∃ E, E = M.map za5 ++ N := ⟨_, rfl⟩
      rw [<- hE] at ar
      have lf : LfP h9 (fun j => h6.next ≤ j) w E fs := ⟨gl.fr.p.mono fun j _ hj => hj.1, ar⟩
      have El : E.length ≤ 20000 := by
       rw [hE, List.length_append, List.length_map, mN.length_eq]
       have := List.length_filter_le (newB D) L
       omega
      have lenE := lf.len h9.get
      have ft : D.filter (fun _ => true) = D := List.filter_eq_self.2 (by simp)
      simp [t13, lenE]
      -- what is gone is taken out
      refine za8 (id := 7) (fun t h' => (t 0 = .ptr p 1 0 ∧ t 8 = .map m8 ∧ t 13 = w) ∧ h'.WF ∧ (∀ j, j < h9.next -> j ≠ m -> h'.get j = h9.get j) ∧ h9.next ≤ h'.next ∧ OutAt h' (fun j => R j ∧ j < h.next) p m (D.filter fun d => !E.any fun c => c.gone && decide (zad c = zad d))) (fun Rn hR => ?_) ?_
      ·refine zaz (fun i t h' => (t 0 = .ptr p 1 0 ∧ t 8 = .map m8 ∧ t 13 = w ∧ t 159 = w ∧ t 160 = .int .i64 (E.length : Nat) ∧ t 161 = .int .i64 (i : Nat)) ∧ h'.WF ∧ (∀ j, j < h9.next -> j ≠ m -> h'.get j = h9.get j) ∧ h9.next ≤ h'.next ∧ OutAt h' (fun j => R j ∧ j < h.next) p m (D.filter fun d => !(E.take i).any fun c => c.gone && decide (zad c = zad d))) E.length
        ⟨by simp [t0, t8, t13], w9, fun _ _ _ => rfl, Nat.le_refl _, by simpa [ft] using x9⟩ ?_
       rintro i t h' hi ⟨⟨t0, t8, t13, t159, t160, t161⟩, wb, kb, nb, xb⟩ K hK
       obtain ⟨xp, xm, _⟩ := xb.lt wb
       by_cases hlt : i < E.length
       ·have hw := zaJ hlt (by omega : E.length < 9223372036854775808)
        have lfb : LfP h' (fun j => h6.next ≤ j) w E fs := lf.keep nb fun j hj hl => kb j hl (by omega)
        obtain ⟨pp, qq, o, cs, vp, vc, vx, vl, vk, e1, _, e2, e3, e4, A, _, _⟩ := (lfb.ls.at (by omega)).atG wb hlt
        have e2' := e2 h' (Ge.refl _)
        obtain ⟨c, hc⟩ : ∃ c, c = E[i] := ⟨_, rfl⟩
        rw [<- hc] at e4 A
        obtain ⟨o1, o2, o3, o4, o5⟩ := A.one
        obtain ⟨hA, hhA⟩ : ∃ hA, hA = h'.push (.row (chC c vp vc vx vl vk)) := ⟨_, rfl⟩
        have gA : Ge h' hA := by rw [hhA]; exact (Ge.refl _).push _
        have wA : hA.WF := by rw [hhA]; exact wb.push _
        have nA : hA.next = h'.next + 1 := by rw [hhA]; simp
        have cA : zab hA.get h'.next 23 = some (chC c vp vc vx vl vk) := by rw [hhA]; simp [chC]
        have ofA := zky (h := hA) (c := c) o1 o2 o3 o4 o5
        have xA := xb.ge wb gA
        have cP := xA.cell
        have tk1 : E.take (i + 1) = E.take i ++ [c] := by rw [List.take_add_one, List.getElem?_eq_getElem hlt, <- hc]; rfl
        simp only [chC] at e4 hhA cA ofA
        simp [t159, t160, t161, hlt, e1, e2', e3, e4, o1, o2, o3, o4, o5]
        rw [zaL _ _ _ rfl, <- hhA]
        cases hgn : c.gone with
        | false =>
         simp [t161, hw]
         refine hK _ _ hlt ⟨by simp [t0, t8, t13, t159, t160], wA, fun j hj hne => by rw [gA.2 j (by omega)]; exact kb j hj hne, by omega, ?_⟩
         have e9 : (D.filter fun d => !(E.take (i + 1)).any fun c => c.gone && decide (zad c = zad d)) = D.filter fun d => !(E.take i).any fun c => c.gone && decide (zad c = zad d) := by
          rw [tk1]
          refine List.filter_congr fun d _ => ?_
          simp [hgn]
         rw [e9]; exact xA
        | true =>
         simp
         refine zbP [p] [0, 0, 0, 2, 0, 1, 0] rfl (by rfl) ?_
         simp [t0, cP, cA, I.foot, zaQ]
         refine zby ofA (by decide) (fun _ => fun k hk => rfl) ?_
         obtain ⟨ob, hdel, hld⟩ := xA.held.del (zad c)
         simp only [kyD, kyT] at hdel
         simp [hdel, t161, hw]
         have e9 : (D.filter fun d => !(E.take (i + 1)).any fun c => c.gone && decide (zad c = zad d)) = (D.filter fun d => !(E.take i).any fun c => c.gone && decide (zad c = zad d)).filter fun d => !decide (zad d = zad c) := by
          rw [tk1, List.filter_filter]
          refine List.filter_congr fun d _ => ?_
          have : decide (zad c = zad d) = decide (zad d = zad c) := by rw [decide_eq_decide]; exact eq_comm
          simp [hgn, this, Bool.and_comm]
         refine hK _ _ hlt ⟨by simp [t0, t8, t13, t159, t160], wA.set (by omega) _, fun j hj hne => by rw [H.get_set, if_neg hne, gA.2 j (by omega)]; exact kb j hj hne, by simp; omega, ?_⟩
         rw [e9]
         refine ⟨?_, hld⟩
         rw [H.get_set, if_neg (by omega)]; exact xA.row
       ·have hi2 : i = E.length := by omega
        rw [hi2, List.take_length] at xb
        simp [t160, t161, hi2]
        exact hR _ _ ⟨by simp [t0, t8, t13], wb, kb, nb, xb⟩
      ·rintro t hF ⟨⟨t0, t8, t13⟩, wF, kF, nF, xF⟩
       obtain ⟨D1, hD1⟩ : ∃ D1, D1 = D.filter fun d => !E.any fun c => c.gone && decide (zad c = zad d) := ⟨_, rfl⟩
       rw [<- hD1] at xF
       have aF : hF.get m8 = some (.mapo es8 bs8 tk8) := (kF m8 (by omega) (by omega)).trans ((k9 m8 (by omega)).trans a8)
       have lfF : LfP hF (fun j => h6.next ≤ j) w E fs := lf.keep nF fun j hj hl => kF j hl (by omega)
       simp [t8]
       refine ⟨m8, es8, bs8, tk8, rfl, aF, ?_⟩
       simp
       obtain ⟨it5, hit5⟩ : ∃ it, it = hF.next := ⟨_, rfl⟩
       obtain ⟨hG, hhG⟩ : ∃ hG, hG = hF.push (.miter m8 tk8 [] tk8) := ⟨_, rfl⟩
       have gG : Ge hF hG := by rw [hhG]; exact (Ge.refl _).push _
       have wG : hG.WF := by rw [hhG]; exact wF.push _
       have nG : hG.next = hF.next + 1 := by rw [hhG]; simp
       rw [<- hhG, <- hit5]
       have g5n := g5.1
       refine za8 (id := 9) (fun t h' => (t 13 = w) ∧ h'.WF ∧ (∀ j, j < hF.next -> j ≠ m -> h'.get j = hF.get j) ∧ hG.next ≤ h'.next ∧ OutAt h' (fun j => (R j ∧ j < h.next) ∨ (h.next ≤ j ∧ j < h5.next)) p m (zhf px D L)) (fun Rn hR => ?_) ?_
       ·refine zaz (fun k t h' => (t 0 = .ptr p 1 0 ∧ t 13 = w ∧ t 175 = .ptr it5 0 0) ∧ h'.WF ∧ (∀ j, j < hF.next -> j ≠ m -> h'.get j = hF.get j) ∧ hG.next ≤ h'.next ∧ ∃ (dn seen : List Nat) (st : Nat), Vis bs8 seen dn ∧ dn.length = k ∧ h'.get it5 = some (.miter m8 tk8 seen st) ∧ OutAt h' (fun j => (R j ∧ j < h.next) ∨ (h.next ≤ j ∧ j < h5.next)) p m ((metL L8 dn).foldl putC D1)) bs8.length
         ⟨by simp [t0, t13], wG, fun j hj _ => gG.2 j hj, Nat.le_refl _, [], [], tk8, Vis.nil _, rfl, by rw [hhG, hit5]; simp, (xF.mono fun j _ hr => .inl hr).ge wF gG⟩ ?_
        rintro k t h' hk ⟨⟨t0, t13, t175⟩, wb, kb, nb, dn, seen, st, vis, hdn, hi, xb⟩ K hK
        have hm' : h'.get m8 = some (.mapo es8 bs8 tk8) := (kb m8 (by omega) (by omega)).trans aF
        simp [t175]
        refine ⟨it5, m8, tk8, seen, st, es8, bs8, rfl, hi, hm', fun i e b' he hb' hbs => ?_, fun hall => ?_⟩
        ·simp [t175]
         obtain ⟨hA, hhA⟩ : ∃ hA, hA = h'.set it5 (.miter m8 tk8 (seen ++ [b']) tk8) := ⟨_, rfl⟩
         have nA : hA.next = h'.next := by rw [hhA]; simp
         have wA : hA.WF := by rw [hhA]; exact wb.set (by omega) _
         have kA : ∀ j, j ≠ it5 -> hA.get j = h'.get j := fun j hj => by rw [hhA, H.get_set, if_neg hj]
         have iA : hA.get it5 = some (.miter m8 tk8 (seen ++ [b']) tk8) := by rw [hhA]; simp
         refine ⟨it5, m8, tk8, tk8, seen, b', es8, bs8, i, e, rfl, by simp, by simp [show ¬ m8 = it5 by omega, hm'], he, hb', ?_⟩
         have vA := vis.snoc hb' hbs
         have hlenA : dn.length < bs8.length := by have := vA.le; simp at this; omega
         have hil : i < L8.length := by rw [<- hl8]; exact (List.getElem?_eq_some_iff.1 he).1
         obtain ⟨c, hc⟩ : ∃ c, c = L8[i] := ⟨_, rfl⟩
         have hci : L8[i]? = some c := by rw [hc]; exact List.getElem?_eq_getElem hil
         obtain ⟨e', he', vp, vc, vx, vl, vk, hee, A⟩ := hent8 i c hci
         rw [he, Option.some.injEq] at he'
         subst hee
         obtain ⟨o1, o2, o3, o4, o5⟩ := A.one
         have met := zdH (dn := dn) hci
         rw [<- hhA, he']
         simp only [chC, kyV]
         simp [zad, o1, o2, o3, o4, o5]
         rw [zdT _ _ _ _ _ rfl rfl]
         obtain ⟨hB, hhB⟩ : ∃ hB, hB = (hA.push (.row [.int .i64 c.n.p.fam, .int .u64 (c.n.p.rd : Nat), .str c.n.p.addr, .int .i64 c.n.p.len, .int .u32 (c.n.id : Nat)])).push (.row (chC c vp vc vx vl vk)) := ⟨_, rfl⟩
         have gB : Ge hA hB := by rw [hhB]; exact ((Ge.refl _).push _).push _
         have wB : hB.WF := by rw [hhB]; exact (wA.push _).push _
         have nB : hB.next = hA.next + 2 := by rw [hhB]; simp
         have cK : zab hB.get hA.next 5 = some [.int .i64 c.n.p.fam, .int .u64 (c.n.p.rd : Nat), .str c.n.p.addr, .int .i64 c.n.p.len, .int .u32 (c.n.id : Nat)] := by rw [hhB]; simp
         have cB : zab hB.get (hA.next + 1) 23 = some (chC c vp vc vx vl vk) := by rw [hhB]; simp [chC]
         have kB : ∀ j, j < hF.next -> j ≠ m -> hB.get j = hF.get j := fun j hj hne => by rw [gB.2 j (by omega), kA j (by omega)]; exact kb j hj hne
         have xB : OutAt hB (fun j => (R j ∧ j < h.next) ∨ (h.next ≤ j ∧ j < h5.next)) p m ((metL L8 dn).foldl putC D1) := (xb.keep (by omega) (kA p (by omega)) (kA m (by omega)) fun j s cs hr hj e => by rw [kA j (by omega)]; exact e).ge wA gB
         have chB : ChP hB (fun j => (R j ∧ j < h.next) ∨ (h.next ≤ j ∧ j < h5.next)) c (chC c vp vc vx vl vk) := ⟨vp, vc, vx, vl, vk, rfl, (A.keep (by omega) fun j s cs hr hj e => by rw [kB j (by omega) (by omega), kF j (by omega) (by omega), k9 j (by omega)]; exact e).mono fun j _ hr => .inr hr⟩
         obtain ⟨ob, hset, hld⟩ := xB.held.set c chB
         have cP := xB.cell
         simp only [chC] at hhB cB hset
         simp only [kyD, kyT, kyV, zad] at hset
         rw [<- hhB]
         refine zbM ?_
         simp [t0, cP, cK, cB, hset]
         refine hK _ _ (by omega) ⟨by simp [t0, t13, t175], wB.set (by omega) _, fun j hj hne => by rw [H.get_set, if_neg hne]; exact kB j hj hne, by simp; omega, dn ++ [i], seen ++ [b'], tk8, vA, by simp [hdn], ?_, ?_⟩
         ·rw [H.get_set, if_neg (by omega), gB.2 _ (by omega)]; exact iA
         ·rw [met, List.foldl_append]
          refine ⟨?_, hld⟩
          rw [H.get_set, if_neg (by omega)]; exact xB.row
        ·simp
         have full := vis.full mb8.nd hall
         rw [mb8.len, hl8] at full
         have mp := (zdL full).trans p8L
         have ev := zkf srt.rise hD kL okL mM mN mp
         rw [<- hE, <- hD1] at ev
         rw [ev] at xb
         exact hR _ _ ⟨by simp [t13], wb, kb, nb, xb⟩
       ·rintro t hH ⟨t13, wH, kH, nH, xH⟩
        have lfH : LfP hH (fun j => h6.next ≤ j) w E fs := lfF.keep (by omega) fun j hj hl => kH j hl (by omega)
        have kE : zas E := by rw [hE]; exact zfe srt.rise kL mM mN
        simp [t13]
        refine ziu lfH kE (by omega) fun S' es' hZ sZ nZ wZ oZ _ lZ => ?_
        rw [hE] at sZ
        have hS' := zlD srt.rise kL mM mN sZ
        rw [hS'] at lZ
        simp
        refine q3 hmp hwb hf2 w es' hZ h6.next ⟨by omega, fun j hj hp' hm' => ?_⟩ wZ (by omega) ?_ lZ
        ·rw [oZ j (by omega), kH j (by omega) hm', kF j (by omega) hm', k9 j (by omega), k7 j (by omega)]
         exact g5.2 j hj
        ·refine (xH.keep (by omega) (oZ p (by omega)) (oZ m (by omega)) fun j s cs hr hj e => by rw [oZ j (by omega)]; exact e).mono fun j _ hr => ?_
         rcases hr with hr | hr
         ·exact .inl hr.1
         ·exact .inr ⟨hr.1, by omega⟩
end Go.Am

namespace Go.Am
open Go.Proofs

set_option maxRecDepth 100000
theorem znP {cs e : List V} {o a n : Nat} (h : (cs.drop o).take 23 = e) (ha : a + n ≤ 23) : (cs.drop (o + a)).take n = (e.drop a).take n := by
 rw [<- h, List.drop_take, List.take_take, List.drop_drop, Nat.min_eq_left (by omega)]
end Go.Am

namespace Go.Am
open Go.Proofs

set_option maxRecDepth 100000
theorem zop {h : H} {R : Nat -> Prop} {lo : Nat} {w : V} {M : List Chg} {fs : List (List V)} {c : Chg} {vp vc vx vl vk : V} (wf : h.WF) (gl : Gl h lo 23 w fs) (hlo : lo ≤ h.next) (ar : AtR (ChP h R) M fs) (hR : ∀ j s cs, R j -> s ≤ 3 -> h.get j = some (.grow s cs) -> True) (ch : ChP h R c (chC c vp vc vx vl vk)) (hl : M.length ≤ 100000) :
  ∃ v' d, zaG (h.push (.row (chC c vp vc vx vl vk))).get (h.next + 1) 23 240 w (.sl h.next 23 0 1 (some 1)) = some (v', d) ∧ ((h.push (.row (chC c vp vc vx vl vk))).app d).WF ∧ (∀ j, j < lo -> ((h.push (.row (chC c vp vc vx vl vk))).app d).get j = h.get j) ∧ (∀ j, j < h.next -> j ∉ w.ids -> ((h.push (.row (chC c vp vc vx vl vk))).app d).get j = h.get j) ∧ (∀ j s cs, s ≤ 3 -> j < h.next -> h.get j = some (.grow s cs) -> ((h.push (.row (chC c vp vc vx vl vk))).app d).get j = some (.grow s cs)) ∧ h.next ≤ ((h.push (.row (chC c vp vc vx vl vk))).app d).next ∧ Gl ((h.push (.row (chC c vp vc vx vl vk))).app d) lo 23 v' (fs ++ [chC c vp vc vx vl vk]) ∧ AtR (ChP ((h.push (.row (chC c vp vc vx vl vk))).app d) R) (M ++ [c]) (fs ++ [chC c vp vc vx vl vk]) ∧ ∀ i ∈ v'.ids, i ∈ w.ids ∨ h.next ≤ i := by
 have f23 : ∀ e ∈ fs, e.length = 23 := fun e he => by obtain ⟨_, _, f⟩ := ar.mem e he; exact f.at.len
 have ones := ch.at.ones
 have fl := ar.1
 obtain ⟨v', d, ea, gl5, n5, k5, w5, id5⟩ := zeF (bytes := 240) (chC c vp vc vx vl vk) gl hlo f23 rfl ones (by decide) (by omega) (by omega)
 have keep5 : ∀ j s cs, s ≤ 3 -> j < h.next -> h.get j = some (.grow s cs) -> ((h.push (.row (chC c vp vc vx vl vk))).app d).get j = some (.grow s cs) := fun j s cs hs hj e => by
  by_cases hv : j ∈ w.ids
  ·rcases gl with ⟨_, rfl⟩ | ⟨_, j2, _, _, rfl, a3⟩
   ·simp [V.ids] at hv
   ·simp [V.ids] at hv
    subst hv
    rw [a3] at e
    cases e
    omega
  ·rw [k5 j hv hj]; exact e
 refine ⟨v', d, ea, w5 wf, fun j hj => k5 j (fun hv => by have := (gl.lo j hv).1; omega) (by omega), fun j hj hv => k5 j hv hj, keep5, n5, gl5, ?_, id5⟩
 exact (ar.mono fun _ _ f => f.keep3 n5 fun j s cs hs _ hj e => keep5 j s cs hs hj e).append (AtR.single (ch.keep3 n5 fun j s cs hs _ hj e => keep5 j s cs hs hj e))
end Go.Am

namespace Go.Am
open Go.Proofs

set_option maxRecDepth 100000
def zdQ (p : Pfx) (D L : List Chg) : Int := if (zci p L && mayP p) = true then (if zec p D L = true then 7 else 0) else 2
def zb8 (p : Pfx) (D L : List Chg) : List Chg := if (zci p L && mayP p) = true then (if zec p D L = true then D else zhf p D L) else D
def zcb (p : Pfx) (D L : List Chg) : List Chg := if (zci p L && mayP p) = true then (if zec p D L = true then [] else zco p D L) else []
end Go.Am

namespace Go.Am
open Go.Proofs

set_option maxRecDepth 100000
end Go.Am

namespace Go.Am
open Go.Proofs

set_option maxRecDepth 100000
theorem p_no : Fr.KnownOk Tryz.prog [] := fun _ h => by cases h
theorem zjc : Fr.plainRun (Fr.runO8 [] Fr.q.tab 100000 60) 63 [.str [118, 52, 32, 49, 48, 46, 48, 46, 48, 46, 48, 47, 56]] = some (.tup [.agg [.int .i64 1, .int .u64 0, .str [10, 0, 0, 0], .int .i64 8], .int .i64 0]) := by kernel_rfl
theorem zjB (h : H) : Pure Tryz.prog 63 [.str [118, 52, 32, 49, 48, 46, 48, 46, 48, 46, 48, 47, 56]] h (.tup [.agg [.int .i64 1, .int .u64 0, .str [10, 0, 0, 0], .int .i64 8], .int .i64 0]) := zkE p_no Fr.q.tab_ok zjc h
theorem znf (g : Nat -> Option O) {a : Att} (h1 : a.path = []) (h2 : a.comms = []) (h3 : a.exts = []) (h4 : a.larges = []) (h5 : a.clus = []) : AttAt g a .nilsl .nilsl .nilsl .nilsl .nilsl := by
 refine ⟨⟨[], zd2 _ _, by rw [h1]; rfl, by simp [h1]⟩, ?_, ?_, ?_, ?_⟩
 ·rw [h2]; exact zd2 _ _
 ·rw [h3]; exact zd2 _ _
 ·rw [h4]; exact zd2 _ _
 ·rw [h5]; exact zd2 _ _
def chN (c : Chg) : List V := chC c .nilsl .nilsl .nilsl .nilsl .nilsl
def NoL (a : Att) : Prop := a.path = [] ∧ a.comms = [] ∧ a.exts = [] ∧ a.larges = [] ∧ a.clus = []
theorem zkO (i : Nat) : NoL (attM i) := ⟨rfl, rfl, rfl, rfl, rfl⟩
theorem zph {g : Nat -> Option O} {j : Nat} {c : Chg} (hc : NoL c.att) (hj : g j = some (.row (chN c))) : CsAt g (.sl j 23 0 1 (some 1)) [c] [chN c] := by
 refine ⟨⟨.inr ⟨j, 23, 0, some 1, rfl⟩, by simp [chN, chC], ?_, by simp⟩, rfl, fun i c' hi => ?_⟩
 ·rw [zax, if_neg (by simp), zai (n := 23) hj rfl]
  simp [chN, chC]
 ·cases i with
  | zero =>
   simp at hi; subst hi
   exact ⟨chN c, rfl, _, _, _, _, _, rfl, znf _ hc.1 hc.2.1 hc.2.2.1 hc.2.2.2.1 hc.2.2.2.2⟩
  | succ i => simp at hi
def zbi (id med : Nat) : Chg := ⟨false, ⟨⟨1, 0, [10, 0, 0, 0], 8⟩, id, 0⟩, attM med⟩
theorem zf9 (i : Nat) : attB (attM i) = true := by simp [attB, attM, zes, risB, adjB]
theorem LsP.lenV {h : H} {R : Nat -> Prop} {v : V} {L : List Chg} {es : List (List V)} (s : LsP h R v L es) (g : Nat -> Option O) : lenV 1 g v = some (.int .i64 (L.length : Nat)) := by
 rw [<- s.len]
 rcases s.fc with ⟨rfl, rfl | ⟨k, rfl⟩⟩ | ⟨_, j, ca, o, _, _, rfl, _⟩ <;> simp
end Go.Am

namespace Go.Am
open Go.Proofs

set_option maxRecDepth 100000
def zcf (P : Program) (F : List Nat) (K : Tm -> H -> Prop) (w : Bool) (d : Option Nat) (x : X) (m : Nat) (is : List (SI × Nat)) (t : Tm) (h : H) (g : V) : Prop :=
 match g with
 | .bool b => if (b == w) = true then Awp P F K ((⟨d, none, x⟩, m) :: is) t h else Awp P F K is (t.put d .undef) h
 | _ => False
section
variable {P : Program} (F : List Nat) (K : Tm -> H -> Prop) (d : Option Nat) (x : X) (m : Nat) (is : List (SI × Nat)) (t : Tm) (h : H)
@[simp] theorem zo0 : zcf P F K true d x m is t h (.bool true) = Awp P F K ((⟨d, none, x⟩, m) :: is) t h := by simp [zcf]
@[simp] theorem zoC : zcf P F K false d x m is t h (.bool false) = Awp P F K ((⟨d, none, x⟩, m) :: is) t h := by simp [zcf]
@[simp] theorem zoD : zcf P F K false d x m is t h (.bool true) = Awp P F K is (t.put d .undef) h := by simp [zcf]
@[simp] theorem zoF : zcf P F K true d x m is t h (.bool false) = Awp P F K is (t.put d .undef) h := by simp [zcf]
end
theorem zgK {P : Program} {F : List Nat} {K : Tm -> H -> Prop} {d : Option Nat} {g m : Nat} {w : Bool} {x : X} {is : List (SI × Nat)} {t : Tm} {h : H} (c : zcf P F K w d x m is t h (t g)) : Awp P F K ((⟨d, some (g, w), x⟩, m) :: is) t h := by
 unfold zcf at c
 split at c
 ·rename_i b e
  by_cases hb : (b == w) = true
  ·rw [if_pos hb] at c
   simp only [Awp, Astep, Sstep, FootIn, zao, e, hb] at c ⊢
   exact c
  ·rw [if_neg hb] at c
   have hb' : (b == w) = false := by simpa using hb
   simp only [Awp, Astep, Sstep, FootIn, zao, e, hb']
   exact ⟨⟨fun _ => fun _ _ => rfl, c⟩, fun _ => trivial⟩
 ·exact c.elim
def ziL (R : Nat -> Prop) (h : H) (p m : Nat) (D' out : List Chg) (err : Int) (r : V) (h' : H) : Prop :=
 ∃ nk wa ea, r = .tup [wa, .int .i64 err] ∧ But h h' p m ∧ h'.WF ∧ h.next ≤ nk ∧ nk ≤ h'.next ∧ OutAt h' (fun j => R j ∨ (h.next ≤ j ∧ j < nk)) p m D' ∧ LfP h' (fun j => nk ≤ j) wa out ea
theorem zfP {h : H} {R : Nat -> Prop} {p m : Nat} {px : Pfx} {D L : List Chg} {v : V} {es : List (List V)} (wf : h.WF) (x : OutAt h R p m D) (hD : ∀ d ∈ D, d.gone = false) (lk : ∀ h', But h h' p m -> CsAt h'.get v L es) (zL : ∀ c ∈ L, AttSz c.att) (hb : D.length ≤ 4096) (hl : L.length ≤ 10000) : Acalls Tryz.prog 12 [.ptr p 1 0, .agg (pfxC px), v] h (ziL R h p m (zb8 px D L) (zcb px D L) (zdQ px D L)) := by
 refine zni x hD lk zL hb hl ⟨fun e h' g w => ?_, fun e1 e2 e3 h' g w => ?_, fun e1 e2 e3 w es' h' n1 bt wf' hn ox ls => ?_⟩
 ·have e' : (zci px L && mayP px) = false := by rw [Bool.and_comm]; exact e
  rw [zb8, zcb, zdQ, e']
  simp
  exact ⟨h'.next, .nilsl, [], rfl, g.but p m, w, g.1, Nat.le_refl _, (x.ge wf g).mono fun j _ hr => .inl hr, LfP.nil _ _⟩
 ·rw [zb8, zcb, zdQ, e1, e2, e3]
  simp
  exact ⟨h'.next, .nilsl, [], rfl, g.but p m, w, g.1, Nat.le_refl _, (x.ge wf g).mono fun j _ hr => .inl hr, LfP.nil _ _⟩
 ·rw [zb8, zcb, zdQ, e1, e2, e3]
  simp
  by_cases hn2 : n1 ≤ h'.next
  ·exact ⟨n1, w, es', rfl, bt, wf', hn, hn2, ox, ls⟩
  ·refine ⟨h'.next, w, es', rfl, bt, wf', bt.next, Nat.le_refl _, ox.mono fun j hj hr => ?_, ls.mono fun j hj hr => by omega⟩
   rcases hr with hr | hr
   ·exact .inl hr
   ·exact .inr ⟨hr.1, hj⟩
theorem zkZ (D : List Chg) : D.filter (famB 0) = D := List.filter_eq_self.2 fun _ _ => rfl
theorem zhd {h : H} {id med : Nat} : Pure Tryz.prog 22 [.str [118, 52, 32, 49, 48, 46, 48, 46, 48, 46, 48, 47, 56], .int .u32 (id : Nat), .int .u32 (med : Nat)] h (.agg (chN (zbi id med))) := by
 refine zah Tryz.func22 S.a10c S.a10e rfl (Nat.le_of_ble_eq_true rfl) fun wf => ?_; simp only [S.a10]
 simp
 refine zjB _ _ ?_
 simp [chN, chC, zbi, attM]
 exact ((((Ge.refl _).push _).push _).set (by omega) _).set (Nat.le_refl _) _
end Go.Am

namespace Go.Am
open Go.Proofs

set_option maxRecDepth 100000
def x29 : Chg := zbi 0 5
theorem zqd : NoL x29.att := zkO 5
theorem zcC : mayP x29.n.p = true := by decide +kernel
theorem zi1 : zci x29.n.p [x29] = true := by
 have h1 : mayN x29.n = true := by decide +kernel
 have h2 : attB x29.att = true := zf9 5
 simp [zci, okW, h1, h2, zas, show x29.gone = false from rfl]
theorem zkz : zci x29.n.p [] = true := by simp [zci, zas]
theorem zrF : zb8 x29.n.p [] [x29] = [x29] ∧ zcb x29.n.p [] [x29] = [x29] ∧ zdQ x29.n.p [] [x29] = 0 := by
 have hf : zec x29.n.p [] [x29] = false := by decide +kernel
 refine ⟨?_, ?_, ?_⟩
 ·rw [zb8, zi1, zcC, hf]; decide +kernel
 ·rw [zcb, zi1, zcC, hf]; decide +kernel
 ·rw [zdQ, zi1, zcC, hf]; rfl
theorem zr1 : zb8 x29.n.p [x29] [x29] = [x29] ∧ zcb x29.n.p [x29] [x29] = [] ∧ zdQ x29.n.p [x29] [x29] = 0 := by
 have hf : zec x29.n.p [x29] [x29] = false := by decide +kernel
 refine ⟨?_, ?_, ?_⟩
 ·rw [zb8, zi1, zcC, hf]; decide +kernel
 ·rw [zcb, zi1, zcC, hf]; decide +kernel
 ·rw [zdQ, zi1, zcC, hf]; rfl
theorem zrL : zb8 x29.n.p [x29] [] = [] ∧ zcb x29.n.p [x29] [] = [za5 x29] ∧ zdQ x29.n.p [x29] [] = 0 := by
 have hf : zec x29.n.p [x29] [] = false := by decide +kernel
 refine ⟨?_, ?_, ?_⟩
 ·rw [zb8, zkz, zcC, hf]; decide +kernel
 ·rw [zcb, zkz, zcC, hf]; decide +kernel
 ·rw [zdQ, zkz, zcC, hf]; rfl
theorem ziK (h : H) : Pure Tryz.prog 18 [] h (.bool true) := by
 refine zah Tryz.func18 S.a8c S.a8e rfl (Nat.le_of_ble_eq_true rfl) fun wf => ?_; simp only [S.a8]
 simp
 refine zjn fun h1 g1 w1 x1 => ?_
 obtain ⟨p, hp⟩ : ∃ p, p = h.next + 1 := ⟨_, rfl⟩
 obtain ⟨m, hm⟩ : ∃ m, m = h.next := ⟨_, rfl⟩
 rw [<- hp, <- hm] at x1
 rw [<- hp]
 simp [zjo]
 refine zhd (id := 0) (med := 5) _ ?_
 have lt1 := x1.lt w1
 have hg1 := g1.1
 have zx : AttSz x29.att := zfa (zf9 5)
 have W : ∀ (H : H) (D : List Chg) (j : Nat), H.WF -> OutAt H (fun _ => True) p m D -> (∀ d ∈ D, d.gone = false) -> D.length ≤ 1 -> H.get j = some (.row (chN x29)) -> j ≠ p -> j ≠ m -> Acalls Tryz.prog 12 [.ptr p 1 0, .agg [.int .i64 1, .int .u64 0, .str [10, 0, 0, 0], .int .i64 8], .sl j 23 0 1 (some 1)] H (ziL (fun _ => True) H p m (zb8 x29.n.p D [x29]) (zcb x29.n.p D [x29]) (zdQ x29.n.p D [x29])) := fun H D j w x hD hl hj j1 j2 =>
  zfP (L := [x29]) (es := [chN x29]) (v := .sl j 23 0 1 (some 1)) (px := x29.n.p) w x hD (fun h9 bt => zph zqd (by rw [bt.keep j (w.lt hj) j1 j2]; exact hj)) (by simpa using zx) (by omega) (by simp)
 have W0 : ∀ (H : H) (D : List Chg), H.WF -> OutAt H (fun _ => True) p m D -> (∀ d ∈ D, d.gone = false) -> D.length ≤ 1 -> Acalls Tryz.prog 12 [.ptr p 1 0, .agg [.int .i64 1, .int .u64 0, .str [10, 0, 0, 0], .int .i64 8], .nilsl] H (ziL (fun _ => True) H p m (zb8 x29.n.p D []) (zcb x29.n.p D []) (zdQ x29.n.p D [])) := fun H D w x hD hl =>
  zfP (L := []) (es := []) (v := .nilsl) (px := x29.n.p) w x hD (fun h9 bt => ⟨zd2 _ _, rfl, by simp⟩) (by simp) (by omega) (by simp)
 simp [chN, chC, zbi, attM]
 refine zfH (fun H => H.WF ∧ H.next = h1.next + 2 ∧ Ge h1 H ∧ H.get h1.next = some (.row (chN x29)) ∧ H.get (h1.next + 1) = some (.row (chN x29))) ⟨?_, ?_, ?_, ?_, ?_⟩ fun h2 ⟨w2, n2, g2, b2, s2⟩ => ?_
 ·repeat' (first | exact w1 | refine H.WF.push ?_ _ | refine H.WF.set ?_ (by simp) _)
 ·simp
 ·repeat' (first | exact Ge.refl _ | refine Ge.push ?_ _ | refine Ge.set ?_ (by omega) _)
 ·simp [chN, chC, x29, zbi, attM]
 ·simp [chN, chC, x29, zbi, attM]
 have x2 := x1.ge w1 g2
 obtain ⟨r1, r2, r3⟩ := zrF
 have W1 := W h2 [] (h1.next + 1) w2 x2 (by simp) (by simp) s2 (by omega) (by omega)
 rw [r1, r2, r3] at W1
 refine W1.mono ?_
 rintro _ h3 ⟨k3, a3, e3, rfl, bt3, w3, m3, l3, x3, ls3⟩
 have n3 := bt3.next
 have b3 : h3.get h1.next = some (.row (chN x29)) := by rw [bt3.keep _ (by omega) (by omega) (by omega)]; exact b2
 have c3 : zab h3.get h1.next 23 = some (chN x29) := (zai (n := 23) b3 rfl).trans rfl
 have x3' : OutAt h3 (fun _ => True) p m [x29] := x3.mono fun _ _ _ => trivial
 simp only [chN, chC, x29, zbi, attM] at c3
 simp [c3]
 refine zfH (fun H => H.WF ∧ H.next = h3.next + 1 ∧ Ge h3 H ∧ H.get h3.next = some (.row (chN x29))) ⟨w3.push _, by simp, (Ge.refl _).push _, by simp [chN, chC, x29, zbi, attM]⟩ fun h4 ⟨w4, n4, g4, s4⟩ => ?_
 have x4 := x3'.ge w3 g4
 obtain ⟨r4, r5, r6⟩ := zr1
 have W2 := W h4 [x29] h3.next w4 x4 (by simp [x29, zbi]) (by simp) s4 (by omega) (by omega)
 rw [r4, r5, r6] at W2
 refine W2.mono ?_
 rintro _ h5 ⟨k5, a5, e5, rfl, bt5, w5, m5, l5, x5, ls5⟩
 have n5 := bt5.next
 have b5 : h5.get h1.next = some (.row (chN x29)) := by rw [bt5.keep _ (by omega) (by omega) (by omega), g4.2 _ (by omega)]; exact b3
 have c5 : zab h5.get h1.next 23 = some (chN x29) := (zai (n := 23) b5 rfl).trans rfl
 have x5' : OutAt h5 (fun _ => True) p m [x29] := x5.mono fun _ _ _ => trivial
 simp only [chN, chC, x29, zbi, attM] at c5
 simp [c5]
 obtain ⟨r7, r8, r9⟩ := zrL
 have W3 := W0 h5 [x29] w5 x5' (by simp [x29, zbi]) (by simp)
 rw [r7, r8, r9] at W3
 refine W3.mono ?_
 rintro _ h6 ⟨k6, a6, e6, rfl, bt6, w6, m6, l6, x6, ls6⟩
 have n6 := bt6.next
 have b6 : h6.get h1.next = some (.row (chN x29)) := by rw [bt6.keep _ (by omega) (by omega) (by omega)]; exact b5
 have c6 : zab h6.get h1.next 23 = some (chN x29) := (zai (n := 23) b6 rfl).trans rfl
 have la : LfP h6 (fun j => k3 ≤ j) a3 [x29] e3 := (((ls3.ge g4).keep bt5.next fun j hj hl => bt5.keep j hl (by omega) (by omega))).keep bt6.next fun j hj hl => bt6.keep j hl (by omega) (by omega)
 have lb : LfP h6 (fun j => k5 ≤ j) a5 [] e5 := ls5.keep bt6.next fun j hj hl => bt6.keep j hl (by omega) (by omega)
 obtain ⟨pp, qq, o, cs, vp, vc, vx, vl, vk, i1, _, i2, i3, i4, _, _, i5⟩ := (la.ls.at (by simp)).atG w6 (k := 0) (by simp)
 obtain ⟨pp', qq', o', cs', vp', vc', vx', vl', vk', j1, _, j2, j3, j4, _, _, j5⟩ := (ls6.ls.at (by simp)).atG w6 (k := 0) (by simp)
 have i2' := i2 h6 (Ge.refl _)
 have j2' := j2 h6 (Ge.refl _)
 have i6 := i5 0 (by omega)
 have i7 := i5 11 (by omega)
 have j6 := j5 0 (by omega)
 have j7 : (cs'.drop (o' + 1)).take 6 = nlC (za5 x29).n := (znP (a := 1) (n := 6) j4 (by omega)).trans rfl
 have o7 : o' + 1 + 6 ≤ cs'.length := by omega
 have en := zpG (za5 x29).n x29.n
 have en2 : decide ((za5 x29).n = x29.n) = true := by decide +kernel
 rw [en2] at en
 simp [chC, x29, zbi, attM] at i6 i7
 simp [chC, za5] at j6
 have i1' := i1 .i64
 have j1' := j1 .i64
 simp at i1' j1'
 have c1 := la.len h6.get
 have c2 := lb.len h6.get
 have c4 := ls6.len h6.get
 simp only [List.length_cons, List.length_nil, Nat.zero_add] at c1 c2 c4
 have z0 : ((0 : Nat) : Int) = 0 := rfl
 simp only [nlC, za5, x29, zbi, z0] at j7 en
 simp only [chN, chC, x29, zbi, attM] at c6
 simp
 refine zbM ?_
 simp [c1, c2, c4, i1', i2', i6, i7, j1', j2', j6, j7, o7, c6, en]
 refine zew (zkH x6) ?_
 simp
 have := g1.1
 exact ⟨by omega, fun k hk => by rw [bt6.keep k (by omega) (by omega) (by omega), bt5.keep k (by omega) (by omega) (by omega), g4.2 k (by omega), bt3.keep k (by omega) (by omega) (by omega), g2.2 k (by omega), g1.2 k hk]⟩
end Go.Am

namespace Go.Am
open Go.Proofs

set_option maxRecDepth 100000
def zgx (a : Nat) : List UInt8 := UInt8.ofNat (10 + a % 3) :: List.replicate (3 + 12 * (a % 6 / 3)) 0
def zal (a : Nat) : Pfx := ⟨((1 + a % 6 / 3 : Nat) : Int), 0, zgx a, 8⟩
theorem zp1 : ∀ n, n < 256 -> ∀ i, i < 4 -> ((n : Nat) : Int).fdiv (2 ^ min i IntKind.u8.bits) = ((n / 2 ^ i : Nat) : Int) := by decide +kernel
theorem zqe (n : Nat) (h : n < 256) : intV .and .u8 (n : Int) 1 = some (.int .u8 ((n % 2 : Nat) : Int)) := by
 have : ∀ n : Nat, n < 256 -> IntKind.u8.wrap ((BitVec.ofInt 8 (n : Int) &&& BitVec.ofInt 8 1).toNat : Int) = ((n % 2 : Nat) : Int) := by decide +kernel
 show some (V.int .u8 (IntKind.u8.wrap ((BitVec.ofInt 8 (n : Int) &&& BitVec.ofInt 8 1).toNat : Int))) = _
 rw [this n h]
theorem znE {h : H} {a : Nat} (ha : a < 256) : Pure Tryz.prog 50 [.int .u8 (a : Nat)] h (.str (zgx a)) := by
 refine zah Tryz.func50 S.a18c S.a18e rfl (Nat.le_of_ble_eq_true rfl) fun wf => ?_; simp only [S.a18]
 have r6 : intV .rem .u8 (a : Int) 6 = some (.int .u8 ((a % 6 : Nat) : Int)) := by simp [intV]; rw [Int.tmod_eq_emod_of_nonneg (by omega)]
 have r3 : intV .rem .u8 (a : Int) 3 = some (.int .u8 ((a % 3 : Nat) : Int)) := by simp [intV]; rw [Int.tmod_eq_emod_of_nonneg (by omega)]
 obtain ⟨a6, h6⟩ : ∃ k, k = a % 6 := ⟨_, rfl⟩
 obtain ⟨a3, h3⟩ : ∃ k, k = a % 3 := ⟨_, rfl⟩
 obtain ⟨z, hz⟩ : ∃ k, k = a6 / 3 := ⟨_, rfl⟩
 have ea : zgx a = UInt8.ofNat (10 + a3) :: List.replicate (3 + 12 * z) 0 := by rw [h3, hz, h6]; rfl
 rw [<- h6] at r6
 rw [<- h3] at r3
 have w6 : IntKind.i64.wrap (a6 : Int) = (a6 : Int) := zaf (by omega) (by omega)
 have q6 : intV .quo .i64 (a6 : Int) 3 = some (.int .i64 (z : Nat)) := by
  have e : (a6 : Int).tdiv 3 = (z : Int) := by rw [Int.tdiv_eq_ediv_of_nonneg (by omega)]; omega
  have w : IntKind.i64.wrap (z : Int) = (z : Int) := zaf (by omega) (by omega)
  simp [intV, e, w]
 have w10 : IntKind.u8.wrap (10 + (a3 : Int)) = ((10 + a3 : Nat) : Int) := by
  rw [show (10 + (a3 : Int)) = ((10 + a3 : Nat) : Int) by omega]; exact zmT (by omega)
 have t10 : (10 + (a3 : Int)).toNat = 10 + a3 := by omega
 have z2 : z = 0 ∨ z = 1 := by omega
 have k0 : IntKind.i64.wrap 0 = 0 := by decide
 have k4 : IntKind.i64.wrap 4 = 4 := by decide
 have k12 : IntKind.i64.wrap 12 = 12 := by decide
 have k16 : IntKind.i64.wrap 16 = 16 := by decide
 rcases z2 with rfl | rfl
 ·have mk : ∀ n, zaH n 1 1 [V.int .u8 0] (.int .i64 4) (.int .i64 4) = some (.sl n 4 0 4 (some 4), .push (.row [.int .u8 0, .int .u8 0, .int .u8 0, .int .u8 0])) := fun n => by simp [zaH, zaq]
  simp [r6, r3, w6, q6, w10, k0, k4, mk, u8Of, zax, t10, ea]
  repeat' (first | exact Ge.refl _ | refine Ge.push ?_ _ | refine Ge.set ?_ (by omega) _)
 ·have mk : ∀ n, zaH n 1 1 [V.int .u8 0] (.int .i64 16) (.int .i64 16) = some (.sl n 16 0 16 (some 16), .push (.row (zaq 16 [.int .u8 0]))) := fun n => by simp [zaH]
  simp [r6, r3, w6, q6, w10, k12, k16, mk, u8Of, zax, t10, ea, zaq]
  repeat' (first | exact Ge.refl _ | refine Ge.push ?_ _ | refine Ge.set ?_ (by omega) _)
theorem zdx {h : H} {a : Nat} (ha : a < 256) : Pure Tryz.prog 13 [.int .u8 (a : Nat)] h (.agg (pfxC (zal a))) := by
 refine zah Tryz.func13 S.a3c S.a3e rfl (Nat.le_of_ble_eq_true rfl) fun wf => ?_; simp only [S.a3]
 have r6 : intV .rem .u8 (a : Int) 6 = some (.int .u8 ((a % 6 : Nat) : Int)) := by simp [intV]; rw [Int.tmod_eq_emod_of_nonneg (by omega)]
 obtain ⟨a6, h6⟩ : ∃ k, k = a % 6 := ⟨_, rfl⟩
 obtain ⟨z, hz⟩ : ∃ k, k = a6 / 3 := ⟨_, rfl⟩
 rw [<- h6] at r6
 have w6 : IntKind.i64.wrap (a6 : Int) = (a6 : Int) := zaf (by omega) (by omega)
 have q6 : intV .quo .i64 (a6 : Int) 3 = some (.int .i64 (z : Nat)) := by
  have e : (a6 : Int).tdiv 3 = (z : Int) := by rw [Int.tdiv_eq_ediv_of_nonneg (by omega)]; omega
  have w : IntKind.i64.wrap (z : Int) = (z : Int) := zaf (by omega) (by omega)
  simp [intV, e, w]
 have w1 : IntKind.i64.wrap (1 + (z : Int)) = 1 + (z : Int) := zaf (by omega) (by omega)
 have ep : zal a = ⟨((1 + z : Nat) : Int), 0, zgx a, 8⟩ := by rw [hz, h6]; rfl
 simp [r6, w6, q6, w1]
 refine znE ha _ ?_
 simp [pfxC, ep]
 repeat' (first | exact Ge.refl _ | refine Ge.push ?_ _ | refine Ge.set ?_ (by omega) _)
structure Stq where
 at' : Nat
 ids : Nat
 med : Nat
def sqC (x : Stq) : List V := [.int .u8 (x.at' : Nat), .int .u8 (x.ids : Nat), .int .u8 (x.med : Nat)]
def bitq (x : Stq) (i : Nat) : Bool := decide (x.ids / 2 ^ i % 2 = 1)
def chgq (x : Stq) (i : Nat) : Chg := ⟨false, ⟨zal x.at', i, 0⟩, attM (x.med % 3 + i)⟩
def zaT (x : Stq) : List Chg := ((List.range 4).filter (bitq x)).map (chgq x)
theorem zna (h : H) (R : Nat -> Prop) {a : Att} (n : NoL a) (z : AttSz a) : AttP h R a .nilsl .nilsl .nilsl .nilsl .nilsl := by
 obtain ⟨a1, a2, a3, a4, a5⟩ := n
 exact ⟨⟨[], .inl ⟨rfl, .inl rfl⟩, by rw [a1]; rfl, by simp [a1]⟩, .inl ⟨by rw [a2]; rfl, .inl rfl⟩, .inl ⟨by rw [a3]; rfl, .inl rfl⟩, .inl ⟨by rw [a4]; rfl, .inl rfl⟩, .inl ⟨by rw [a5]; rfl, .inl rfl⟩, z⟩
theorem zgI {h : H} {x : Stq} (hx : x.at' < 256 ∧ x.ids < 256 ∧ x.med < 256) {Q : V -> H -> Prop} (q : ∀ w es h', Ge h h' -> h'.WF -> LfP h' (fun j => h.next ≤ j) w (zaT x) es -> Q w h') : Acalls Tryz.prog 14 [.agg (sqC x)] h Q := by
 refine zaw Tryz.func14 S.a4c S.a4e (Nat.le_of_ble_eq_true rfl) fun wf => ?_; simp only [S.a4]
 obtain ⟨h1, hh1⟩ : ∃ h1, h1 = h.push (.row (sqC x)) := ⟨_, rfl⟩
 have g1 : Ge h h1 := by rw [hh1]; exact (Ge.refl _).push _
 have w1 : h1.WF := by rw [hh1]; exact wf.push _
 have n1 : h1.next = h.next + 1 := by rw [hh1]; simp
 have x1 : h1.get h.next = some (.row (sqC x)) := by rw [hh1]; simp
 simp only [sqC] at hh1
 simp [sqC]
 rw [<- hh1]
 refine zaz (fun i t h' => (t 1 = .ptr h.next 3 0 ∧ t 4 = .int .u32 (i : Nat)) ∧ Ge h h' ∧ h1.next ≤ h'.next ∧ h'.WF ∧ h'.get h.next = some (.row (sqC x)) ∧ ∃ (w : V) (fs : List (List V)), t 3 = w ∧ Gl h' h1.next 23 w fs ∧ AtR (ChP h' fun j => h1.next ≤ j) (((List.range i).filter (bitq x)).map (chgq x)) fs) 4
  ⟨by simp, g1, Nat.le_refl _, w1, x1, .nilsl, [], by simp, Gl.nil _ _ _, AtR.nil _⟩ ?_
 rintro i t h' hi ⟨⟨t1, t4⟩, gb, nb, wb, y1, w, fs, t3, gl, ar⟩ K hK
 have cS : zab h'.get h.next 3 = some (sqC x) := (zai (n := 3) y1 rfl).trans rfl
 simp only [sqC] at cS
 by_cases hlt : i < 4
 ·have hlt2 : (i : Int) < 4 := by omega
  have sh := zp1 x.ids hx.2.1 i hlt
  obtain ⟨b, hb⟩ : ∃ b, b = x.ids / 2 ^ i := ⟨_, rfl⟩
  have hb256 : b < 256 := by rw [hb]; exact Nat.lt_of_le_of_lt (Nat.div_le_self _ _) hx.2.1
  rw [<- hb] at sh
  have e4 : zcT .shr .u8 (x.ids : Int) (i : Int) = some (.int .u8 (b : Nat)) := by rw [zi6 _ _ _ (by omega), Int.toNat_natCast, sh]
  have e5 := zqe b hb256
  have w32 : IntKind.u32.wrap ((i : Int) + 1) = ((i + 1 : Nat) : Int) := by rw [show (i : Int) + 1 = ((i + 1 : Nat) : Int) by omega]; simp [IntKind.wrap, IntKind.bits, IntKind.signed]; omega
  have rg : (List.range (i + 1)).filter (bitq x) = (List.range i).filter (bitq x) ++ [i].filter (bitq x) := by rw [List.range_succ, List.filter_append]
  by_cases hbit : b % 2 = 1
  ·have hq : bitq x i = true := by rw [bitq, <- hb]; exact decide_eq_true hbit
   have hbe : (((b : Int) % 2) == 1) = true := by simp; omega
   simp [t1, t4, hlt2, cS, e4, e5, hbe]
   have px := fun h => zdx (h := h) hx.1
   have r3 : intV .rem .u8 (x.med : Int) 3 = some (.int .u8 ((x.med % 3 : Nat) : Int)) := by simp [intV]; rw [Int.tmod_eq_emod_of_nonneg (by omega)]
   obtain ⟨m3, hm3⟩ : ∃ k, k = x.med % 3 := ⟨_, rfl⟩
   rw [<- hm3] at r3
   have wm : IntKind.u32.wrap (m3 : Int) = (m3 : Int) := by simp [IntKind.wrap, IntKind.bits, IntKind.signed]; omega
   have wm2 : IntKind.u32.wrap ((m3 : Int) + (i : Int)) = (m3 : Int) + (i : Int) := by rw [<- Int.natCast_add]; simp [IntKind.wrap, IntKind.bits, IntKind.signed]; omega
   have fl : fs.length ≤ 4 := by rw [ar.1, List.length_map]; exact Nat.le_trans (List.length_filter_le _ _) (by simp; omega)
   have chq : ChP h' (fun j => h1.next ≤ j) (chgq x i) (chC (chgq x i) .nilsl .nilsl .nilsl .nilsl .nilsl) := ⟨.nilsl, .nilsl, .nilsl, .nilsl, .nilsl, rfl, zna _ _ (zkO _) (zfa (zf9 _))⟩
   obtain ⟨v', d, ea, w5, k5, _, _, n5, gl5, ar5, _⟩ := zop wb gl nb ar (fun _ _ _ _ _ _ => trivial) chq (by rw [<- ar.1]; omega)
   obtain ⟨h5, hh5⟩ : ∃ h5, h5 = (h'.push (.row (chC (chgq x i) .nilsl .nilsl .nilsl .nilsl .nilsl))).app d := ⟨_, rfl⟩
   rw [<- hh5] at w5 k5 n5 gl5 ar5
   have ec : chC (chgq x i) .nilsl .nilsl .nilsl .nilsl .nilsl = [.bool false, .int .i64 (zal x.at').fam, .int .u64 ((zal x.at').rd : Nat), .str (zal x.at').addr, .int .i64 (zal x.at').len, .int .u32 (i : Nat), .int .u32 0, .int .i64 0, .nilsl, .str [], .bool true, .int .u32 ((m3 : Int) + (i : Int)), .bool false, .int .u32 0, .bool false, .int .u32 0, .int .u32 0, .nilsl, .nilsl, .nilsl, .bool false, .int .u32 0, .nilsl] := by rw [hm3]; rfl
   rw [ec] at ea hh5
   have g5 : Ge h h5 := ⟨by have := gb.1; omega, fun j hj => by rw [k5 j (by omega)]; exact gb.2 j hj⟩
   have bl := wb.lt y1
   simp only [pfxC] at px
   refine zbP [h.next] [0, 0, 0, 1, 0, 0, 0, 2, 0, 0, 0, 0, 0, 0, 0, 0, 0] rfl (by rfl) ?_
   simp [t1, t3, cS, I.foot, zaQ]
   refine zby (px h') (by decide) (fun _ => fun k hk => rfl) ?_
   simp [t1, t4, cS, I.foot, zaQ, r3, wm, wm2, ea, <- hh5]
   refine hK _ _ hlt ⟨by simp [t1, w32], g5, by omega, w5, by rw [k5 _ (by omega)]; exact y1, v', _, by simp, gl5, ?_⟩
   rw [rg, List.map_append]; simp [hq]; exact ar5
  ·have hq : bitq x i = false := by rw [bitq, <- hb]; exact decide_eq_false hbit
   have hbe : (((b : Int) % 2) == 1) = false := by simp; omega
   simp [t1, t4, hlt2, cS, e4, e5, hbe, w32]
   refine hK _ _ hlt ⟨by simp [t1], gb, nb, wb, y1, w, fs, by simp [t3], gl, by rw [rg]; simp [hq]; exact ar⟩
 ·have hi4 : i = 4 := by omega
  subst hi4
  simp [t3, t4]
  exact q w fs h' gb wb ⟨gl.fr.p.mono fun j _ hj => by omega, ar.mono fun _ _ f => f.mono fun j _ hj => by omega⟩
end Go.Am

namespace Go.Am
open Go.Proofs

set_option maxRecDepth 100000
theorem OutAt.rise {h : H} {R : Nat -> Prop} {p m : Nat} {D : List Chg} (x : OutAt h R p m D) : Rise cmpC D := x.held.rise
theorem zjR {h : H} {m : Nat} {es : List (V × V)} {bs : List Nat} {tk : Nat} (o : O) (e : h.get m = some (.mapo es bs tk)) : ∀ (j s : Nat) (cs : List V), h.get j = some (.grow s cs) -> (h.set m o).get j = some (.grow s cs) := fun j s cs hj => by
 have : j ≠ m := fun e2 => by subst e2; rw [e] at hj; cases hj
 simp [this, hj]
theorem zkJ {h : H} {R : Nat -> Prop} {p m : Nat} {D0 : List Chg} (wf : h.WF) (x : OutAt h R p m D0) {D : List Chg} (r : Rise cmpC D) (z : ∀ c ∈ D, AttSz c.att) : ∃ g, But h g p m ∧ g.WF ∧ OutAt g (fun j => h.next ≤ j ∧ j < g.next) p m D := by
 obtain ⟨es0, bs0, tk0, L0, a0, _⟩ := x.held
 obtain ⟨lp, lm, lpm⟩ := x.lt wf
 obtain ⟨es, g, gg, w, ar⟩ := zf3 D wf z
 have gm := (gg.2 m lm).trans a0
 have lmg := w.lt gm
 obtain ⟨ents, he⟩ : ∃ e : List (V × V), e = (List.range D.length).map fun i => (kyV (zad (D.getD i chg0)), V.agg (es.getD i [])) := ⟨_, rfl⟩
 obtain ⟨bs, hbs⟩ : ∃ b : List Nat, b = List.range D.length := ⟨_, rfl⟩
 refine ⟨g.set m (.mapo ents bs D.length), ⟨gg.1, fun j hj h1 h2 => ?_⟩, w.set lmg _, ⟨?_, ⟨ents, bs, D.length, D, by simp, ⟨by rw [he, hbs]; simp, by rw [hbs]; exact List.nodup_range, fun b hb => by rw [hbs] at hb; simpa using hb⟩, ⟨List.Perm.refl _, r⟩, by rw [he]; simp, fun i c hi => ?_⟩⟩⟩
 ·simp [h2]; exact gg.2 j hj
 ·simp [lpm]; exact (gg.2 p lp).trans x.row
 ·obtain ⟨e, e1, f⟩ := ar.2 i c hi
  have hl : i < D.length := (List.getElem?_eq_some_iff.1 hi).1
  refine ⟨e, ?_, (f.mono (R' := fun j => h.next ≤ j ∧ j < g.next) fun j hj hr => ⟨hr, hj⟩).keep (by simp) fun j s cs _ _ => zjR _ gm j s cs⟩
  rw [he, List.getElem?_map, List.getElem?_range hl]
  simp [List.getD_eq_getElem?_getD, hi, e1]
theorem ziX {h : H} {R : Nat -> Prop} {p m : Nat} {D0 D out : List Chg} {err : Int} (wf : h.WF) (x : OutAt h R p m D0) (r : Rise cmpC D) (z : ∀ c ∈ D, AttSz c.att) (zo : ∀ c ∈ out, AttSz c.att) : ∃ v h', ziL R h p m D out err v h' := by
 obtain ⟨g, b, w, y⟩ := zkJ wf x r z
 obtain ⟨v, es, g2, a2, w2, f⟩ := zjm w zo
 have := b.next
 have := a2.1
 have yl := x.lt wf
 exact ⟨_, g2, g.next, v, es, rfl, ⟨by omega, fun j hj h1 h2 => by rw [a2.2 j (by omega)]; exact b.keep j hj h1 h2⟩, w2, b.next, a2.1, (y.ge w a2).mono fun j _ hj => .inr hj, f⟩
theorem zcn (a : Nat) : zal a = zal (a % 6) := by
 have h1 : a % 6 % 6 = a % 6 := by omega
 have h2 : a % 6 % 3 = a % 3 := by omega
 simp only [zal, zgx, h1, h2]
theorem zkM (a : Nat) : mayP (zal a) = true := by
 have : ∀ n, n < 6 -> mayP (zal n) = true := by decide +kernel
 rw [zcn]; exact this _ (Nat.mod_lt _ (by omega))
theorem zk1 (x : Stq) {i : Nat} (hi : i < 4) : okW (zal x.at') (chgq x i) = true := by
 have : ∀ n, n < 6 -> ∀ i, i < 4 -> mayN ⟨zal n, i, 0⟩ = true := by decide +kernel
 have h1 : mayN (chgq x i).n = true := by
  show mayN ⟨zal x.at', i, 0⟩ = true
  rw [zcn]; exact this _ (Nat.mod_lt _ (by omega)) i hi
 have h2 : attB (chgq x i).att = true := zf9 _
 simp only [okW, h1, h2, Bool.and_true]
 show (!false && decide (zal x.at' = zal x.at')) = true
 simp
theorem ze6 (x : Stq) : ∀ c ∈ zaT x, okW (zal x.at') c = true := fun c hc => by
 obtain ⟨i, hi, rfl⟩ := List.mem_map.1 hc
 have := (List.mem_filter.1 hi).1
 exact zk1 x (by simpa using this)
theorem zd1 (x : Stq) : zas (zaT x) := by
 unfold zas
 rw [zaT, List.map_map]
 unfold List.Nodup
 rw [List.pairwise_map]
 refine (List.Pairwise.sublist List.filter_sublist (List.pairwise_lt_range (n := 4))).imp fun {a b} hab e => ?_
 have : a = b := congrArg Ky.id e
 omega
theorem zm9 (x : Stq) : zci (zal x.at') (zaT x) = true := by
 rw [zci, Bool.and_eq_true]
 exact ⟨List.all_eq_true.2 (ze6 x), decide_eq_true (zd1 x)⟩
theorem zcJ (x : Stq) : (zaT x).length ≤ 4 := by
 rw [zaT, List.length_map]
 exact Nat.le_trans (List.length_filter_le _ _) (by simp)
theorem zev (x : Stq) : ∀ c ∈ zaT x, AttSz c.att := fun c hc => by
 have := ze6 x c hc
 simp only [okW, Bool.and_eq_true] at this
 exact zfa this.2
theorem ziZ (x : Stq) : ∀ c ∈ zaT x, c.gone = false := fun c hc => by
 obtain ⟨i, hi, rfl⟩ := List.mem_map.1 hc
 rfl
theorem zjt {cs e : List V} {o a n : Nat} (h : (cs.drop o).take 23 = e) (ha : a + n ≤ 23) : (cs.drop (o + a)).take n = (e.drop a).take n := by
 rw [<- h, List.drop_take, List.take_take, List.drop_drop, Nat.min_eq_left (by omega)]
def zbf (D : List Chg) (x : Stq) : List Chg := zhf (zal x.at') D (zaT x)
theorem zrv {D : List Chg} {x : Stq} (hl : D.length ≤ 4000) : zec (zal x.at') D (zaT x) = false := by
 have h1 := List.length_filter_le (fun c => !inP (zal x.at') c) D
 have h2 := zcJ x
 exact decide_eq_false (by omega)
theorem zk8 {D : List Chg} {x : Stq} (hl : D.length ≤ 4000) : zb8 (zal x.at') D (zaT x) = zbf D x ∧ zcb (zal x.at') D (zaT x) = zco (zal x.at') D (zaT x) ∧ zdQ (zal x.at') D (zaT x) = 0 := by
 rw [zb8, zcb, zdQ, zm9, zkM, zrv hl]
 exact ⟨rfl, rfl, rfl⟩
theorem zl8 (D : List Chg) (x : Stq) : (zbf D x).length ≤ D.length + 4 := by
 have h1 := zfj (zaT x) (D.filter fun c => !inP (zal x.at') c)
 have h2 := List.length_filter_le (fun c => !inP (zal x.at') c) D
 have h3 := zcJ x
 show ((zaT x).foldl putC _).length ≤ _
 omega
theorem zdK {D : List Chg} (x : Stq) (r : Rise cmpC D) : Rise cmpC (zbf D x) := zbS _ _ (za3 _ r)
theorem zb4 {D : List Chg} (x : Stq) (r : Rise cmpC D) (c : Chg) : c ∈ zbf D x ↔ c ∈ zaT x ∨ (c ∈ D ∧ c.n.p ≠ zal x.at') := by
 rw [zbf, zhf, zbA _ _ (za3 _ r) (zd1 x), List.mem_filter]
 constructor
 ·rintro (h | ⟨⟨h1, h2⟩, _⟩)
  ·exact .inl h
  ·exact .inr ⟨h1, by simpa [inP] using h2⟩
 ·rintro (h | ⟨h1, h2⟩)
  ·exact .inl h
  ·refine .inr ⟨⟨h1, by simpa [inP] using h2⟩, fun d hd e => h2 ?_⟩
   have hp := ze6 x d hd
   simp only [okW, Bool.and_eq_true, decide_eq_true_eq] at hp
   rw [<- hp.1.1.2]; exact congrArg Ky.p e
theorem zkx {D : List Chg} (x : Stq) (r : Rise cmpC D) (g : ∀ d ∈ D, d.gone = false) : ∀ d ∈ zbf D x, d.gone = false := fun d hd => by
 rcases (zb4 x r d).1 hd with h | ⟨h, _⟩
 ·exact ziZ x d h
 ·exact g d h
theorem zki {D : List Chg} (x : Stq) (r : Rise cmpC D) (g : ∀ d ∈ D, AttSz d.att) : ∀ d ∈ zbf D x, AttSz d.att := fun d hd => by
 rcases (zb4 x r d).1 hd with h | ⟨h, _⟩
 ·exact zev x d h
 ·exact g d h
theorem zls (p : Pfx) (D L : List Chg) : (zco p D L).length ≤ D.length + L.length := by
 have h1 := zfj ((D.filter (zbI p L)).map za5 ++ L.filter (newB D)) []
 have h2 := List.length_filter_le (zbI p L) D
 have h3 := List.length_filter_le (newB D) L
 simp only [List.length_append, List.length_map, List.length_nil] at h1
 show (((D.filter (zbI p L)).map za5 ++ L.filter (newB D)).foldl putC []).length ≤ _
 omega
end Go.Am

namespace Go.Am
open Go.Proofs

set_option maxRecDepth 100000
def zb1 (l : List Stq) : List Chg := l.foldl zbf []
theorem zjE (l : List Stq) : ∀ S : List Chg, Rise cmpC S -> (∀ d ∈ S, d.gone = false) -> (∀ d ∈ S, AttSz d.att) -> Rise cmpC (l.foldl zbf S) ∧ (∀ d ∈ l.foldl zbf S, d.gone = false) ∧ (∀ d ∈ l.foldl zbf S, AttSz d.att) ∧ (l.foldl zbf S).length ≤ S.length + 4 * l.length := by
 induction l with
 | nil => exact fun S a b c => ⟨a, b, c, by simp⟩
 | cons x l ih =>
  intro S a b c
  obtain ⟨h1, h2, h3, h4⟩ := ih _ (zdK x a) (zkx x a b) (zki x a c)
  have := zl8 S x
  exact ⟨h1, h2, h3, by rw [List.foldl_cons, List.length_cons]; omega⟩
theorem ziz (l : List Stq) : Rise cmpC (zb1 l) ∧ (∀ d ∈ zb1 l, d.gone = false) ∧ (∀ d ∈ zb1 l, AttSz d.att) ∧ (zb1 l).length ≤ 4 * l.length := by
 have := zjE l [] List.Pairwise.nil (by simp) (by simp)
 simpa [zb1] using this
theorem ziY {l : List Stq} {i : Nat} (hi : i < l.length) : zb1 (l.take (i + 1)) = zbf (zb1 (l.take i)) l[i] := by
 rw [zb1, List.take_add_one, List.getElem?_eq_getElem hi, List.foldl_append]; rfl
theorem zjk {h h' : H} {R0 : Nat -> Prop} {p m : Nat} {D : List Chg} (x : OutAt h R0 p m D) (b : But h h' p m) {R : Nat -> Prop} {u : V} {M : List Chg} {gs : List (List V)} (l : LfP h R u M gs) : LfP h' R u M gs := by
 obtain ⟨es, bs, tk, L, a1, _⟩ := x.held
 exact l.keepG b.next fun j sz cs hr hj e => by
  rw [b.keep j hj (fun e2 => by subst e2; rw [x.row] at e; cases e) (fun e2 => by subst e2; rw [a1] at e; cases e)]; exact e
theorem zl3 {D : List Chg} (x : Stq) : ∀ c ∈ zco (zal x.at') D (zaT x), AttSz c.att := by
 refine zdn _ [] (fun c => AttSz c.att) (by simp) (fun c hc => ?_) List.Pairwise.nil
 rcases List.mem_append.1 hc with hc | hc
 ·obtain ⟨d, _, rfl⟩ := List.mem_map.1 hc
  exact zfa (show attB att0 = true by decide)
 ·exact zev x c (List.mem_filter.1 hc).1
theorem zqn {h : H} {p m : Nat} {D : List Chg} {s : Stq} {R : Nat -> Prop} {wl : V} {el : List (List V)} (wf : h.WF) (x : OutAt h (fun _ => True) p m D) (gD : ∀ d ∈ D, d.gone = false) (zD : ∀ d ∈ D, AttSz d.att) (lD : D.length ≤ 4000) (ll : LfP h R wl (zaT s) el) :
  (∃ v h', ziL (fun _ => True) h p m (zbf D s) (zco (zal s.at') D (zaT s)) 0 v h') ∧ Acalls Tryz.prog 12 [.ptr p 1 0, .agg (pfxC (zal s.at')), wl] h (ziL (fun _ => True) h p m (zbf D s) (zco (zal s.at') D (zaT s)) 0) := by
 have rD := x.rise
 have hq := zcJ s
 obtain ⟨sa1, sa2, sa3⟩ := zk8 (D := D) (x := s) lD
 have W := zfP (px := zal s.at') wf x gD (fun h9 bt => ((zjk x bt ll).ls.at (by omega))) (zev s) (by omega) (by omega)
 rw [sa1, sa2, sa3] at W
 exact ⟨ziX wf x (zdK s rD) (zki s rD zD) (zl3 s), W⟩
end Go.Am

namespace Go.Am
open Go.Proofs

def sqL : List Lf := [.int .u8, .int .u8, .int .u8]
theorem zqv : ∀ {ess : List (List V)}, (∀ es ∈ ess, Lfs sqL es) -> ∃ l : List Stq, ess = l.map sqC ∧ ∀ x ∈ l, x.at' < 256 ∧ x.ids < 256 ∧ x.med < 256
 | [], _ => ⟨[], rfl, fun _ h => by cases h⟩
 | es :: ess, h => by
  obtain ⟨l, rfl, hl⟩ := zqv (ess := ess) fun e he => h e (List.mem_cons_of_mem _ he)
  cases h es (by simp) with
  | cons h1 r1 => cases r1 with
   | cons h2 r2 => cases r2 with
    | cons h3 r3 => cases r3 with
     | nil =>
      obtain ⟨n1, rfl, f1⟩ := zjs zng h1
      obtain ⟨n2, rfl, f2⟩ := zjs zng h2
      obtain ⟨n3, rfl, f3⟩ := zjs zng h3
      exact ⟨⟨n1, n2, n3⟩ :: l, rfl, fun x hx => (List.mem_cons.1 hx).elim (fun e => by subst e; exact ⟨f1, f2, f3⟩) (hl x)⟩
end Go.Am

namespace Go.Am
open Go.Proofs

set_option maxRecDepth 100000
def rowF (n : Nat) (f : Nat -> V) : List V := (List.range n).map f
theorem zbz (n : Nat) (f : Nat -> V) : (rowF n f).length = n := by simp [rowF]
theorem zc0 {n : Nat} (f : Nat -> V) {k : Nat} (h : k < n) : (rowF n f)[k]? = some (f k) := by simp [rowF, h]
theorem zfK {n : Nat} {f g : Nat -> V} {k : Nat} (v : V) (h : k < n) (hv : g k = v) (hg : ∀ j, j < n -> j ≠ k -> g j = f j) : (rowF n f).take k ++ v :: (rowF n f).drop (k + 1) = rowF n g := by
 apply List.ext_getElem?
 intro i
 by_cases hi : i < n
 ·rw [zc0 _ hi]
  rcases Nat.lt_trichotomy i k with h1 | h1 | h1
  ·rw [List.getElem?_append_left (by simp [zbz]; omega), List.getElem?_take_of_lt h1, zc0 _ hi, hg i hi (by omega)]
  ·subst h1
   rw [List.getElem?_append_right (by simp [zbz]; omega)]
   simp [zbz, Nat.min_eq_left (Nat.le_of_lt h), hv]
  ·rw [List.getElem?_append_right (by simp [zbz]; omega), List.length_take, zbz, Nat.min_eq_left (by omega)]
   obtain ⟨d, hd⟩ : ∃ d, i - k = d + 1 := ⟨i - k - 1, by omega⟩
   rw [hd, List.getElem?_cons_succ, List.getElem?_drop, show k + 1 + d = i by omega, zc0 _ hi, hg i hi (by omega)]
 ·rw [List.getElem?_eq_none (by simp [zbz]; omega), List.getElem?_eq_none (by rw [zbz]; omega)]
theorem ixF {n j k : Nat} (hk : k < n) (kd : IntKind) : zaA 1 (.sl j n 0 n (some n)) (.int kd (k : Int)) = some (.ptr j n k) := by
 simp only [zbQ, Int.toNat_natCast]
 rw [if_pos ⟨by omega, by omega⟩]; simp
theorem zcX {g : Nat -> Option O} {n j : Nat} {f : Nat -> V} (h : g j = some (.row (rowF n f))) : zab g j n = some (rowF n f) := by
 rw [zai h (by simp [zbz])]; rfl
def kk (k : Nat) : Ky := ⟨zal (k / 4), k % 4⟩
theorem zmZ : ∀ k, k < 24 -> ∀ j, j < 24 -> kk k = kk j -> k = j := by decide +kernel
theorem zkK : ∀ a, a < 6 -> ∀ b, b < 6 -> zal a = zal b -> a = b := by decide +kernel
def hitK (k : Nat) (c : Chg) : Bool := decide (zad c = kk k)
def hasB (D : List Chg) (k : Nat) : Bool := D.any (hitK k)
def medB (D : List Chg) (k : Nat) : Nat := ((D.find? (hitK k)).map fun c => c.att.med).getD 0
theorem zbl {D : List Chg} {k : Nat} : hasB D k = true ↔ ∃ c ∈ D, zad c = kk k := by
 simp [hasB, hitK]
theorem ze9 {D : List Chg} {k : Nat} (k1 : zas D) {c : Chg} (hc : c ∈ D) (e : zad c = kk k) : medB D k = c.att.med := by
 unfold medB
 cases hf : D.find? (hitK k) with
 | none =>
  have := List.find?_eq_none.1 hf c hc
  simp [hitK, e] at this
 | some d =>
  have h1 := List.find?_some hf
  have h2 := List.mem_of_find?_eq_some hf
  simp only [hitK, decide_eq_true_eq] at h1
  rw [zfR k1 h2 hc (h1.trans e.symm)]; rfl
theorem zhC {D : List Chg} {k : Nat} (h : hasB D k = false) : medB D k = 0 := by
 unfold medB
 have : D.find? (hitK k) = none := List.find?_eq_none.2 fun c hc => by
  unfold hasB at h
  rw [List.any_eq_false] at h
  exact h c hc
 rw [this]; rfl
def Frm (D : List Chg) : Prop := ∀ c ∈ D, ∃ a i m, a < 6 ∧ i < 4 ∧ c = ⟨false, ⟨zal a, i, 0⟩, attM m⟩
theorem zkk (x : Stq) : ∀ c ∈ zaT x, ∃ i m, i < 4 ∧ c = ⟨false, ⟨zal x.at', i, 0⟩, attM m⟩ := fun c hc => by
 obtain ⟨i, hi, rfl⟩ := List.mem_map.1 hc
 exact ⟨i, _, by simpa using (List.mem_filter.1 hi).1, rfl⟩
theorem zl4 {D : List Chg} (x : Stq) (r : Rise cmpC D) (f : Frm D) : Frm (zbf D x) := fun c hc => by
 rcases (zb4 x r c).1 hc with h | ⟨h, _⟩
 ·obtain ⟨i, m, hi, rfl⟩ := zkk x c h
  exact ⟨x.at' % 6, i, m, Nat.mod_lt _ (by omega), hi, by rw [<- zcn]⟩
 ·exact f c h
theorem zeC {D : List Chg} (x : Stq) (r : Rise cmpC D) (c : Chg) : c ∈ zco (zal x.at') D (zaT x) ↔ (∃ d ∈ D, zbI (zal x.at') (zaT x) d = true ∧ c = za5 d) ∨ (c ∈ zaT x ∧ c ∉ D) := by
 have kk := zfe (p := zal x.at') r (zd1 x) (List.Perm.refl _) (List.Perm.refl _)
 rw [zco, zc7 kk, List.mem_append, List.mem_map, List.mem_filter]
 constructor
 ·rintro (⟨d, hd, rfl⟩ | ⟨h1, h2⟩)
  ·exact .inl ⟨d, (List.mem_filter.1 hd).1, (List.mem_filter.1 hd).2, rfl⟩
  ·exact .inr ⟨h1, by simpa [newB] using h2⟩
 ·rintro (⟨d, hd, h, rfl⟩ | ⟨h1, h2⟩)
  ·exact .inl ⟨d, List.mem_filter.2 ⟨hd, h⟩, rfl⟩
  ·exact .inr ⟨h1, by simpa [newB] using h2⟩
theorem zgD {D : List Chg} (x : Stq) : Rise cmpC (zco (zal x.at') D (zaT x)) := zbS _ _ List.Pairwise.nil
structure Told (D D' : List Chg) (x : Stq) (c : Chg) (k : Nat) : Prop where
 key : zad c = kk k
 lt : k < 24
 kat : k = 4 * (x.at' % 6) + c.n.id
 id4 : c.n.id < 4
 pfx : c.n.p = zal x.at'
 now : hasB D' k = !c.gone
 med : medB D' k = c.att.med
 was : c.gone = true -> hasB D k = true
 new : c.gone = false -> hasB D k = true -> medB D k ≠ c.att.med
theorem zfY {D : List Chg} (x : Stq) (r : Rise cmpC D) (f : Frm D) {c : Chg} (hc : c ∈ zco (zal x.at') D (zaT x)) : Told D (zbf D x) x c (4 * (x.at' % 6) + c.n.id) := by
 have ha : x.at' % 6 < 6 := Nat.mod_lt _ (by omega)
 have kD := zaZ r
 have kD' := zaZ (zdK x r)
 have key : ∀ {c : Chg}, c.n.p = zal x.at' -> c.n.id < 4 -> zad c = kk (4 * (x.at' % 6) + c.n.id) := fun {c} h1 h2 => by
  have e1 : (4 * (x.at' % 6) + c.n.id) / 4 = x.at' % 6 := by omega
  have e2 : (4 * (x.at' % 6) + c.n.id) % 4 = c.n.id := by omega
  rw [kk, e1, e2, <- zcn, zad, h1]
 rcases (zeC x r c).1 hc with ⟨d, hd, hg, rfl⟩ | ⟨h1, h2⟩
 ·simp only [zbI, inP, Bool.and_eq_true, decide_eq_true_eq, Bool.not_eq_true', List.any_eq_false] at hg
  obtain ⟨a, i, m, ha2, hi, rfl⟩ := f d hd
  have hp : zal a = zal x.at' := hg.1
  have k0 := key (c := za5 ⟨false, ⟨zal a, i, 0⟩, attM m⟩) hp hi
  have no : hasB (zbf D x) (4 * (x.at' % 6) + i) = false := by
   rw [Bool.eq_false_iff]
   intro h
   obtain ⟨e, he, ek⟩ := zbl.1 h
   rcases (zb4 x r e).1 he with h3 | ⟨_, h3⟩
   ·exact hg.2 e h3 (ek.trans k0.symm)
   ·exact h3 ((congrArg Ky.p (ek.trans k0.symm)).trans hp)
  exact ⟨k0, by show 4 * (x.at' % 6) + i < 24; omega, rfl, hi, hp, no, zhC no, fun _ => zbl.2 ⟨_, hd, k0⟩, fun e => (by cases e)⟩
 ·obtain ⟨i, m, hi, e⟩ := zkk x c h1
  have hp : c.n.p = zal x.at' := by rw [e]
  have hi2 : c.n.id < 4 := by rw [e]; exact hi
  have hg : c.gone = false := by rw [e]
  have k0 := key hp hi2
  have hin : c ∈ zbf D x := (zb4 x r c).2 (.inl h1)
  refine ⟨k0, by omega, rfl, hi2, hp, ?_, ze9 kD' hin k0, fun e2 => (by rw [hg] at e2; cases e2), fun _ hb he => ?_⟩
  ·rw [hg]; exact zbl.2 ⟨c, hin, k0⟩
  ·obtain ⟨d, hd, ek⟩ := zbl.1 hb
   rw [ze9 kD hd ek] at he
   obtain ⟨a', i', m', ha', hi', rfl⟩ := f d hd
   have ke := ek.trans k0.symm
   refine h2 ?_
   have e1 : zal a' = c.n.p := congrArg Ky.p ke
   have e2 : i' = c.n.id := congrArg Ky.id ke
   have : (⟨false, ⟨zal a', i', 0⟩, attM m'⟩ : Chg) = c := by
    rw [e] at e1 e2 he ⊢
    simp only at e1 e2
    have e3 : m' = m := he
    rw [e1, e2, e3]
   rw [<- this]; exact hd
theorem zj5 {D : List Chg} (x : Stq) (r : Rise cmpC D) {k : Nat} (h : ∀ c ∈ zco (zal x.at') D (zaT x), zad c ≠ kk k) : hasB (zbf D x) k = hasB D k ∧ medB (zbf D x) k = medB D k := by
 have kD := zaZ r
 have kD' := zaZ (zdK x r)
 have mem : ∀ c, zad c = kk k -> (c ∈ zbf D x ↔ c ∈ D) := fun c ek => by
  rw [zb4 x r]
  constructor
  ·rintro (h1 | ⟨h1, _⟩)
   ·refine Decidable.byContradiction fun h2 => ?_
    exact h c ((zeC x r c).2 (.inr ⟨h1, h2⟩)) ek
   ·exact h1
  ·intro h1
   by_cases hp : c.n.p = zal x.at'
   ·by_cases hl : ∃ d ∈ zaT x, zad d = zad c
    ·obtain ⟨d, hd, ed⟩ := hl
     by_cases hdd : d ∈ D
     ·rw [zfR kD h1 hdd ed.symm]; exact .inl hd
     ·exact absurd (ed.trans ek) (h d ((zeC x r d).2 (.inr ⟨hd, hdd⟩)))
    ·exfalso
     refine h (za5 c) ((zeC x r _).2 (.inl ⟨c, h1, ?_, rfl⟩)) ek
     simp only [zbI, inP, Bool.and_eq_true, decide_eq_true_eq, Bool.not_eq_true', List.any_eq_false]
     exact ⟨hp, fun d hd e => hl ⟨d, hd, e⟩⟩
   ·exact .inr ⟨h1, hp⟩
 have e1 : hasB (zbf D x) k = hasB D k := by
  rw [Bool.eq_iff_iff, zbl, zbl]
  exact ⟨fun ⟨c, a, b⟩ => ⟨c, (mem c b).1 a, b⟩, fun ⟨c, a, b⟩ => ⟨c, (mem c b).2 a, b⟩⟩
 refine ⟨e1, ?_⟩
 cases hb : hasB D k with
 | false => rw [zhC hb, zhC (e1.trans hb)]
 | true =>
  obtain ⟨c, hc, ek⟩ := zbl.1 hb
  rw [ze9 kD hc ek, ze9 kD' ((mem c ek).2 hc) ek]
def hasJ (D D' O : List Chg) (j k : Nat) : Bool := if (O.take j).any (hitK k) = true then hasB D' k else hasB D k
def medJ (D D' O : List Chg) (j k : Nat) : Nat := if (O.take j).any (hitK k) = true then medB D' k else medB D k
theorem zgB (D D' O : List Chg) (k : Nat) : hasJ D D' O 0 k = hasB D k ∧ medJ D D' O 0 k = medB D k := by simp [hasJ, medJ]
theorem zik {O : List Chg} {j : Nat} (hj : j < O.length) (k : Nat) : (O.take (j + 1)).any (hitK k) = ((O.take j).any (hitK k) || hitK k O[j]) := by
 rw [List.take_add_one, List.getElem?_eq_getElem hj, List.any_append]; simp
theorem zj9 {D D' O : List Chg} {j k0 : Nat} (hj : j < O.length) (e : zad O[j] = kk k0) (h0 : k0 < 24) : (hasJ D D' O (j + 1) k0 = hasB D' k0 ∧ medJ D D' O (j + 1) k0 = medB D' k0) ∧ ∀ k, k < 24 -> k ≠ k0 -> hasJ D D' O (j + 1) k = hasJ D D' O j k ∧ medJ D D' O (j + 1) k = medJ D D' O j k := by
 refine ⟨?_, fun k hk hne => ?_⟩
 ·have : (O.take (j + 1)).any (hitK k0) = true := by rw [zik hj]; simp [hitK, e]
  simp [hasJ, medJ, this]
 ·have h1 : hitK k O[j] = false := by
   rw [hitK, e]
   exact decide_eq_false fun e2 => hne (zmZ k hk k0 h0 e2.symm)
  have : (O.take (j + 1)).any (hitK k) = (O.take j).any (hitK k) := by rw [zik hj, h1, Bool.or_false]
  simp [hasJ, medJ, this]
theorem zla {D D' O : List Chg} {j k0 : Nat} (kO : zas O) (hj : j < O.length) (e : zad O[j] = kk k0) : hasJ D D' O j k0 = hasB D k0 ∧ medJ D D' O j k0 = medB D k0 := by
 have : (O.take j).any (hitK k0) = false := by
  rw [List.any_eq_false]
  intro d hd h
  simp only [hitK, decide_eq_true_eq] at h
  obtain ⟨i, hi, rfl⟩ := List.mem_iff_getElem.1 hd
  simp only [List.getElem_take] at h
  have hi2 : i < j := by simp at hi; omega
  unfold zas List.Nodup at kO
  rw [List.pairwise_map, List.pairwise_iff_getElem] at kO
  exact kO i j (by omega) hj hi2 (h.trans e.symm)
 simp [hasJ, medJ, this]
theorem zlt {D : List Chg} (x : Stq) (r : Rise cmpC D) (k : Nat) : hasJ D (zbf D x) (zco (zal x.at') D (zaT x)) (zco (zal x.at') D (zaT x)).length k = hasB (zbf D x) k ∧ medJ D (zbf D x) (zco (zal x.at') D (zaT x)) (zco (zal x.at') D (zaT x)).length k = medB (zbf D x) k := by
 cases h : (zco (zal x.at') D (zaT x)).any (hitK k) with
 | true => simp [hasJ, medJ, h]
 | false =>
  have st := zj5 x r (k := k) fun c hc e => by
   rw [List.any_eq_false] at h
   exact h c hc (decide_eq_true e)
  simp [hasJ, medJ, h, st.1, st.2]
end Go.Am

namespace Go.Am
open Go.Proofs

set_option maxRecDepth 100000
theorem zkL {c d : Chg} (h : cmpC c d < 0) (e : c.n.p = d.n.p) : c.n.id < d.n.id := by
 have h1 : zi2 (zad c) (zad d) < 0 := h
 have e0 : zfl c.n.p d.n.p = 0 := by rw [e]; exact ordr_pf.self _
 have h2 : orI (zfl c.n.p d.n.p) (cmpI c.n.id d.n.id) < 0 := h1
 rw [e0] at h2
 simp [orI, cmpI] at h2
 split at h2 <;> (try split at h2) <;> omega
theorem zob {D : List Chg} (x : Stq) (r : Rise cmpC D) (f : Frm D) {O : List Chg} (hO : O = zco (zal x.at') D (zaT x)) {j : Nat} (hj : j + 1 < O.length) : (O[j]'(by omega)).n.id < O[j + 1].n.id := by
 have rO : Rise cmpC O := by rw [hO]; exact zgD x
 have h1 := zfY x r f (c := O[j]'(by omega)) (by rw [<- hO]; exact List.getElem_mem _)
 have h2 := zfY x r f (c := O[j + 1]) (by rw [<- hO]; exact List.getElem_mem _)
 have := List.pairwise_iff_getElem.1 rO j (j + 1) (by omega) hj (by omega)
 exact zkL this (h1.pfx.trans h2.pfx.symm)
def zgT (l : List Stq) (i : Nat) (D : List Chg) (la : Nat -> Nat) : Prop :=
 ∀ a, a < 6 -> la a ≤ i ∧ (la a = 0 -> ∀ c ∈ D, c.n.p ≠ zal a) ∧ (0 < la a -> ∃ x, l[la a - 1]? = some x ∧ x.at' % 6 = a ∧ ∀ c : Chg, c.n.p = zal a -> (c ∈ D ↔ c ∈ zaT x))
theorem zlv (l : List Stq) : zgT l 0 [] fun _ => 0 := fun a ha => ⟨Nat.le_refl _, fun _ => by simp, fun h => absurd h (Nat.lt_irrefl 0)⟩
theorem zkA {l : List Stq} {i : Nat} {D : List Chg} {la : Nat -> Nat} (hi : i < l.length) (r : Rise cmpC D) (h : zgT l i D la) : zgT l (i + 1) (zbf D l[i]) fun a => if a = l[i].at' % 6 then i + 1 else la a := fun a ha => by
 obtain ⟨h1, h2, h3⟩ := h a ha
 have hx6 : l[i].at' % 6 < 6 := Nat.mod_lt _ (by omega)
 have pm : zal l[i].at' = zal (l[i].at' % 6) := zcn _
 by_cases e : a = l[i].at' % 6
 ·simp only [e, if_true]
  refine ⟨Nat.le_refl _, fun h => by omega, fun _ => ⟨l[i], by simp, rfl, fun c hc => ?_⟩⟩
  rw [zb4 _ r]
  exact ⟨fun h => h.elim (fun h => h) fun h => absurd (hc.trans pm.symm) h.2, .inl⟩
 ·simp only [e, if_false]
  have ne : zal a ≠ zal l[i].at' := fun e2 => e (zkK a ha _ hx6 (e2.trans pm))
  have mem : ∀ c : Chg, c.n.p = zal a -> (c ∈ zbf D l[i] ↔ c ∈ D) := fun c hc => by
   rw [zb4 _ r]
   constructor
   ·rintro (h | ⟨h, _⟩)
    ·obtain ⟨i', m, _, e'⟩ := zkk _ c h
     rw [e'] at hc
     exact absurd hc.symm ne
    ·exact h
   ·intro h
    exact .inr ⟨h, fun e2 => ne (hc.symm.trans e2)⟩
  refine ⟨by omega, fun h0 c hc e2 => h2 h0 c ((mem c e2).1 hc) e2, fun h0 => ?_⟩
  obtain ⟨x, x1, x2, x3⟩ := h3 h0
  exact ⟨x, x1, x2, fun c hc => (mem c hc).trans (x3 c hc)⟩
theorem zjC {D L : List Chg} {a id : Nat} (ha : a < 6) (hi : id < 4) (hp : ∀ c ∈ L, c.n.p = zal a) (hm : ∀ c : Chg, c.n.p = zal a -> (c ∈ D ↔ c ∈ L)) : hasB D (4 * a + id) = L.any fun c => decide (c.n.id = id) := by
 have e1 : (4 * a + id) / 4 = a := by omega
 have e2 : (4 * a + id) % 4 = id := by omega
 have ek : kk (4 * a + id) = ⟨zal a, id⟩ := by rw [kk, e1, e2]
 rw [Bool.eq_iff_iff, zbl, ek]
 simp only [List.any_eq_true, decide_eq_true_eq]
 constructor
 ·rintro ⟨c, hc, e⟩
  have hpc : c.n.p = zal a := congrArg Ky.p e
  exact ⟨c, (hm c hpc).1 hc, congrArg Ky.id e⟩
 ·rintro ⟨c, hc, e⟩
  exact ⟨c, (hm c (hp c hc)).2 hc, by rw [zad, hp c hc, e]⟩
theorem zke {D L : List Chg} {a : Nat} (k1 : zas D) (hp : ∀ c ∈ L, c.n.p = zal a) (hm : ∀ c : Chg, c.n.p = zal a -> (c ∈ D ↔ c ∈ L)) {c : Chg} (hc : c ∈ L) (hi : c.n.id < 4) : hasB D (4 * a + c.n.id) = true ∧ medB D (4 * a + c.n.id) = c.att.med := by
 have e1 : (4 * a + c.n.id) / 4 = a := by omega
 have e2 : (4 * a + c.n.id) % 4 = c.n.id := by omega
 have ek : zad c = kk (4 * a + c.n.id) := by rw [kk, e1, e2, zad, hp c hc]
 have hD := (hm c (hp c hc)).2 hc
 exact ⟨zbl.2 ⟨c, hD, ek⟩, ze9 k1 hD ek⟩
def cntB (D : List Chg) (n : Nat) : Nat := ((List.range n).filter (hasB D)).length
theorem zjp (D : List Chg) (n : Nat) : cntB D (n + 1) = cntB D n + if hasB D n = true then 1 else 0 := by
 rw [cntB, List.range_succ, List.filter_append, List.length_append]
 by_cases h : hasB D n = true
 ·simp [h, cntB]
 ·simp [h, cntB]
theorem znS (D : List Chg) (n : Nat) : cntB D n ≤ n := by
 have := List.length_filter_le (hasB D) (List.range n)
 simpa [cntB] using this
theorem zlY {D : List Chg} (r : Rise cmpC D) (f : Frm D) : cntB D 24 = D.length := by
 have p : (((List.range 24).filter (hasB D)).map kk).Perm (D.map zad) := by
  refine (List.perm_ext_iff_of_nodup ?_ (zaZ r)).2 fun x => ?_
  ·unfold List.Nodup
   rw [List.pairwise_map]
   refine ((List.Pairwise.sublist List.filter_sublist (List.pairwise_lt_range (n := 24)))).imp_of_mem fun {a b} ha hb hab e => ?_
   have h1 := List.mem_range.1 (List.mem_filter.1 ha).1
   have h2 := List.mem_range.1 (List.mem_filter.1 hb).1
   have := zmZ a h1 b h2 e
   omega
  ·simp only [List.mem_map, List.mem_filter, List.mem_range]
   constructor
   ·rintro ⟨k, ⟨_, h⟩, rfl⟩
    obtain ⟨c, hc, e⟩ := zbl.1 h
    exact ⟨c, hc, e⟩
   ·rintro ⟨c, hc, rfl⟩
    obtain ⟨a, i, m, ha, hi, rfl⟩ := f c hc
    have e1 : (4 * a + i) / 4 = a := by omega
    have e2 : (4 * a + i) % 4 = i := by omega
    have ek : kk (4 * a + i) = ⟨zal a, i⟩ := by rw [kk, e1, e2]
    exact ⟨4 * a + i, ⟨by omega, zbl.2 ⟨_, hc, ek.symm⟩⟩, ek⟩
 have := p.length_eq
 simpa [cntB] using this
end Go.Am

namespace Go.Am
open Go.Proofs

set_option maxRecDepth 100000
def bRow (D : List Chg) : List V := rowF 24 fun k => .bool (hasB D k)
def mRow (D : List Chg) : List V := rowF 24 fun k => .int .u32 (medB D k : Nat)
def lRow (la : Nat -> Nat) : List V := rowF 6 fun a => .int .i64 (la a : Nat)
theorem zjP {P : Program} {c : C} {Q : Exit -> Tm -> H -> Prop} {t : Tm} {h : H} (J : Tm -> H -> Prop) (w : ∀ R : Exit -> Tm -> H -> Prop, (∀ t' h', J t' h' -> R .normal t' h') -> Cwp P c R t h) (k : ∀ t' h', J t' h' -> Q .normal t' h') : Cwp P c Q t h := w Q k
theorem zrI {h : H} {v : V} {l : List Stq} (hs : Sls h.get 3 v (l.map sqC)) (hk : ∀ x ∈ l, x.at' < 256 ∧ x.ids < 256 ∧ x.med < 256) : Pure Tryz.prog 3 [v] h (.bool true) := by
 refine zah Tryz.func3 S.a0c S.a0e rfl (Nat.le_of_ble_eq_true rfl) fun wf => ?_; simp only [S.a0]
 have hb := hs.bound
 rw [List.length_map] at hb
 simp
 refine zjn fun h1 g1 w1 x1 => ?_
 obtain ⟨p, hp⟩ : ∃ p, p = h.next + 1 := ⟨_, rfl⟩
 obtain ⟨m, hm⟩ : ∃ m, m = h.next := ⟨_, rfl⟩
 rw [<- hp, <- hm] at x1
 rw [<- hp]
 have lt1 := x1.lt w1
 have g1n := g1.1
 obtain ⟨n, hnn⟩ : ∃ n, n = min l.length 40 := ⟨_, rfl⟩
 have mk1 : ∀ n, zaH n 1 1 [V.bool false] (.int .i64 24) (.int .i64 24) = some (.sl n 24 0 24 (some 24), .push (.row (rowF 24 fun _ => .bool false))) := fun n => by simp [zaH]; rfl
 have mk2 : ∀ n, zaH n 1 4 [V.int .u32 0] (.int .i64 24) (.int .i64 24) = some (.sl n 24 0 24 (some 24), .push (.row (rowF 24 fun _ => .int .u32 0))) := fun n => by simp [zaH]; rfl
 have mk3 : ∀ n, zaH n 1 8 [V.int .i64 0] (.int .i64 6) (.int .i64 6) = some (.sl n 6 0 6 (some 6), .push (.row (rowF 6 fun _ => .int .i64 0))) := fun n => by simp [zaH]; rfl
 simp [zjo, mk1, mk2, mk3]
 obtain ⟨jh, hjh⟩ : ∃ j, j = h1.next := ⟨_, rfl⟩
 rw [<- hjh]
 refine za8 (id := 0) (fun t h' => (t 0 = v ∧ t 3 = .ptr p 1 0 ∧ t 4 = .sl jh 24 0 24 (some 24) ∧ t 5 = .sl (jh + 1) 24 0 24 (some 24) ∧ t 6 = .sl (jh + 2) 6 0 6 (some 6)) ∧ h'.WF ∧ jh + 3 ≤ h'.next ∧ (∀ k, k < h.next -> h'.get k = h.get k) ∧ OutAt h' (fun _ => True) p m (zb1 (l.take n)) ∧ h'.get jh = some (.row (bRow (zb1 (l.take n)))) ∧ h'.get (jh + 1) = some (.row (mRow (zb1 (l.take n)))) ∧ ∃ la, h'.get (jh + 2) = some (.row (lRow la)) ∧ zgT l n (zb1 (l.take n)) la ∧ Frm (zb1 (l.take n))) (fun Rn hRn => ?_) ?_
 ·refine zaz (fun i t h' => (t 0 = v ∧ t 3 = .ptr p 1 0 ∧ t 4 = .sl jh 24 0 24 (some 24) ∧ t 5 = .sl (jh + 1) 24 0 24 (some 24) ∧ t 6 = .sl (jh + 2) 6 0 6 (some 6) ∧ t 7 = .int .i64 (i : Nat)) ∧ h'.WF ∧ jh + 3 ≤ h'.next ∧ (∀ k, k < h.next -> h'.get k = h.get k) ∧ OutAt h' (fun _ => True) p m (zb1 (l.take i)) ∧ h'.get jh = some (.row (bRow (zb1 (l.take i)))) ∧ h'.get (jh + 1) = some (.row (mRow (zb1 (l.take i)))) ∧ ∃ la, h'.get (jh + 2) = some (.row (lRow la)) ∧ zgT l i (zb1 (l.take i)) la ∧ Frm (zb1 (l.take i))) n
   ⟨by simp, ?_, by simp; omega, ?_, ?_, ?_, ?_, fun _ => 0, ?_, zlv l, fun c hc => by cases hc⟩ ?_
  ·repeat' (first | exact w1 | refine H.WF.push ?_ _)
  ·intro k hk
   rw [H.get_push, if_neg (by simp; omega), H.get_push, if_neg (by simp; omega), H.get_push, if_neg (by omega)]
   exact g1.2 k hk
  ·refine x1.ge w1 ?_
   repeat' (first | exact Ge.refl _ | refine Ge.push ?_ _)
  ·simp [hjh, bRow, zb1, hasB]
   intro h9
   omega
  ·simp [hjh, mRow, zb1, medB]
  ·simp [hjh, lRow]
  rintro i t h' hi ⟨⟨t0, t3, t4, t5, t6, t7⟩, wb, nb, kb, x, yh, ym, la, yl, lo, fr⟩ K hK
  have gh' : Ge h h' := ⟨by omega, kb⟩
  have hl' := (hs.ge wf gh').len
  rw [List.length_map] at hl'
  by_cases hlt : i < n
  ·have hlt1 : i < l.length := by omega
   have hlt2 : (i : Int) < 40 := by omega
   obtain ⟨pp, q, o, cs, f1, f2, f3, f4, f5, f6⟩ := hs.atG wf (k := i) (by simpa using hlt1)
   rw [List.getElem_map] at f5
   simp only [List.getElem_map] at f6
   have lo' := fun r => zkA hlt1 r lo
   obtain ⟨s, hsx⟩ : ∃ s, s = l[i] := ⟨_, rfl⟩
   have hks := hk l[i] (List.getElem_mem hlt1)
   have hD' := ziY hlt1
   rw [<- hsx] at f5 f6 hks lo' hD'
   have f60 := f6 0 (by omega)
   simp [sqC] at f60
   have f3' := f3 h' gh'
   have ppl : pp < h'.next := by omega
   obtain ⟨D, hD⟩ : ∃ D, D = zb1 (l.take i) := ⟨_, rfl⟩
   have D4 := ziz (l.take i)
   rw [<- hD] at x D4 hD' yh ym lo' fr
   obtain ⟨rD, gD, zD, lD⟩ := D4
   have ltk : (l.take i).length ≤ 40 := by rw [List.length_take]; omega
   obtain ⟨a6, ha6⟩ : ∃ k, k = s.at' % 6 := ⟨_, rfl⟩
   have a66 : a6 < 6 := by omega
   have a65 : a6 ≤ 5 := by omega
   have r6 : intV .rem .u8 (s.at' : Int) 6 = some (.int .u8 (a6 : Nat)) := by rw [ha6]; simp [intV]; rw [Int.tmod_eq_emod_of_nonneg (by omega)]
   have w6 : IntKind.i64.wrap (a6 : Int) = (a6 : Int) := zaf (by omega) (by omega)
   have w1' : IntKind.i64.wrap ((i : Int) + 1) = ((i + 1 : Nat) : Int) := zaJ hlt1 (by omega)
   have ixl := ixF (j := jh + 2) a66 .i64
   obtain ⟨la2, hla2⟩ : ∃ f : Nat -> Nat, f = fun a => if a = a6 then i + 1 else la a := ⟨_, rfl⟩
   have rs : (lRow la).take a6 ++ V.int .i64 ((i : Int) + 1) :: (lRow la).drop (a6 + 1) = lRow la2 := zfK _ a66 (by rw [hla2]; simp) (fun j _ hne => by rw [hla2]; simp [hne])
   have lL : (lRow la).length = 6 := zbz _ _
   have lo2 := lo' rD
   rw [<- ha6, <- hla2] at lo2
   clear lo lo'
   have cl : zab h'.get (jh + 2) 6 = some (lRow la) := zcX yl
   simp [t0, t6, t7, hl', hlt1, hlt2, f1, f3', f60, r6, w6, w1', ixl, yl, lL, a65, rs]
   obtain ⟨h2, hh2⟩ : ∃ h2, h2 = h'.set (jh + 2) (.row (lRow la2)) := ⟨_, rfl⟩
   rw [<- hh2]
   have n2 : h2.next = h'.next := by rw [hh2]; simp
   have w2 : h2.WF := by rw [hh2]; exact wb.set (by omega) _
   have k2 : ∀ k, k ≠ jh + 2 -> h2.get k = h'.get k := fun k hne => by rw [hh2]; simp [hne]
   have yl2 : h2.get (jh + 2) = some (.row (lRow la2)) := by rw [hh2]; simp
   have lt' := x.lt wb
   have jp : jh + 2 ≠ p ∧ jh + 2 ≠ m := by omega
   have x2 : OutAt h2 (fun _ => True) p m D := x.keep (by omega) (k2 _ (by omega)) (k2 _ (by omega)) fun j sz cs _ hj e => by
    rw [k2 j (fun e2 => by subst e2; rw [yl] at e; cases e)]; exact e
   have yh2 := (k2 jh (by omega)).trans yh
   have ym2 := (k2 (jh + 1) (by omega)).trans ym
   have kk2 : ∀ k, k < h.next -> h2.get k = h.get k := fun k hk => (k2 k (by omega)).trans (kb k hk)
   have gh2 : Ge h h2 := ⟨by omega, kk2⟩
   have f32 := f3 h2 gh2
   refine zbP [pp] [0, 0, 0, 0, 0, 0, 1, 0, 0, 0, 2, 0, 0, 0, 0, 0, 0, 0] rfl (by rfl) ?_
   simp [t0, t3, t7, f1, f32, f60, I.foot, zaQ]
   refine zby (zdx hks.1) (by decide) (fun _ => fun k hk => rfl) ?_
   simp [t0, t7, f1, f32, f4, f5, I.foot, zaQ]
   refine ⟨by decide, fun w g => ∃ es, Ge h2 g ∧ g.WF ∧ LfP g (fun j => h2.next ≤ j) w (zaT s) es, (by
    obtain ⟨v9, e9, g9, a9, b9, f9⟩ := zjm w2 (zev s)
    exact ⟨v9, g9, e9, a9, b9, f9⟩), zgI hks fun w es g a b c => ⟨es, a, b, c⟩, ?_⟩
   rintro wl h3 ⟨el, g3, w3, ll⟩
   refine ⟨fun e => (by cases e), ?_⟩
   obtain ⟨A1, A2⟩ := zqn w3 (x2.ge w2 g3) gD zD (by omega) ll
   simp
   refine ⟨by decide, _, A1, A2, ?_⟩
   rintro _ h4 ⟨nk, wa, ea, rfl, bt, w4, hnk, hnk2, x4, lw⟩
   refine ⟨fun e => (by cases e), ?_⟩
   clear A1 A2
   have n3 := g3.1
   have n4 := bt.next
   have o4 := lw.one
   have k4 : ∀ k, k < h2.next -> k ≠ p -> k ≠ m -> h4.get k = h2.get k := fun k hk a b => by rw [bt.keep k (by omega) a b, g3.2 k hk]
   have yh4 := (k4 jh (by omega) (by omega) (by omega)).trans yh2
   have ym4 := (k4 (jh + 1) (by omega) (by omega) (by omega)).trans ym2
   have yl4 := (k4 (jh + 2) (by omega) (by omega) (by omega)).trans yl2
   have kk4 : ∀ k, k < h.next -> h4.get k = h.get k := fun k hk => by rw [k4 k (by omega) (by omega) (by omega)]; exact kk2 k hk
   have fr2 := zl4 s rD fr
   obtain ⟨O, hO⟩ : ∃ O, O = zco (zal s.at') D (zaT s) := ⟨_, rfl⟩
   have tO := fun c hc => zfY s rD fr (c := c) hc
   have uO := fun j hj => zob s rD fr hO (j := j) hj
   have eO := fun k => zlt s rD k
   have kO : zas O := by rw [hO]; exact zaZ (zgD s)
   have lO : O.length ≤ 1000 := by
    rw [hO]
    have := zls (zal s.at') D (zaT s)
    have := zcJ s
    omega
   obtain ⟨D2, hD2⟩ : ∃ D2, D2 = zbf D s := ⟨_, rfl⟩
   rw [<- hO] at lw tO eO
   rw [<- hD2] at x4 tO eO hD' lo2 fr2
   have x4' : OutAt h4 (fun j => True) p m D2 := x4.mono fun _ _ _ => trivial
   have hlw := lw.len h4.get
   simp
   refine za8 (id := 2) (fun t g => (t 0 = v ∧ t 3 = .ptr p 1 0 ∧ t 4 = .sl jh 24 0 24 (some 24) ∧ t 5 = .sl (jh + 1) 24 0 24 (some 24) ∧ t 6 = .sl (jh + 2) 6 0 6 (some 6) ∧ t 7 = .int .i64 (i : Nat)) ∧ g.WF ∧ h4.next ≤ g.next ∧ (∀ k, k < h.next -> g.get k = h.get k) ∧ OutAt g (fun _ => True) p m D2 ∧ g.get jh = some (.row (bRow D2)) ∧ g.get (jh + 1) = some (.row (mRow D2)) ∧ g.get (jh + 2) = some (.row (lRow la2))) (fun Rn2 hRn2 => ?_) ?_
   ·refine zaz (fun j t g => (t 0 = v ∧ t 3 = .ptr p 1 0 ∧ t 4 = .sl jh 24 0 24 (some 24) ∧ t 5 = .sl (jh + 1) 24 0 24 (some 24) ∧ t 6 = .sl (jh + 2) 6 0 6 (some 6) ∧ t 7 = .int .i64 (i : Nat) ∧ t 8 = .int .i64 (a6 : Nat) ∧ t 9 = wa ∧ t 11 = .int .i64 (j : Nat)) ∧ g.WF ∧ h4.next ≤ g.next ∧ (∀ k, k < h.next -> g.get k = h.get k) ∧ OutAt g (fun _ => True) p m D2 ∧ g.get jh = some (.row (rowF 24 fun k => .bool (hasJ D D2 O j k))) ∧ g.get (jh + 1) = some (.row (rowF 24 fun k => .int .u32 (medJ D D2 O j k : Nat))) ∧ g.get (jh + 2) = some (.row (lRow la2)) ∧ LfP g (fun j => nk ≤ j) wa O ea) O.length
     ⟨by simp [t0, t3, t4, t5, t6, t7], w4, Nat.le_refl _, kk4, x4', by rw [yh4]; simp only [bRow, zgB], by rw [ym4]; simp only [mRow, zgB], yl4, lw⟩ ?_
    clear t0 t3 t4 t5 t6 t7
    rintro j t g hj ⟨⟨t0, t3, t4, t5, t6, t7, t8, t9, t11⟩, wg, ng, kg, xg, zh, zm, zl, lg⟩ K2 hK2
    have hlg := lg.len g.get
    by_cases hjl : j < O.length
    ·obtain ⟨pp', q', o', cs', vp, vc, vx, vl, vk, e1, e2, e3, e4, e5, A, _, e6⟩ := (lg.ls.at (by omega)).atG wg hjl
     have y1 := e3 g (Ge.refl _)
     have pv : 0 < j -> ∃ pq qq oq cq, (∀ kd, zaA 23 wa (.int kd ((j - 1 : Nat) : Int)) = some (.ptr pq qq oq)) ∧ pq < g.next ∧ (∀ b, Ge g b -> zab b.get pq qq = some cq) ∧ ∃ iq : Nat, cq[oq + 5]? = some (.int .u32 (iq : Nat)) ∧ iq < O[j].n.id := fun h0 => by
      obtain ⟨pq, qq, oq, cq, wp, wc, wx, wl, wk, i1, i2, i3, i4, i5, _, _, i6⟩ := (lg.ls.at (by omega)).atG wg (k := j - 1) (by omega)
      refine ⟨pq, qq, oq, cq, i1, i2, i3, _, (i6 5 (by omega)).trans rfl, ?_⟩
      have := uO (j - 1) (by omega)
      have e : j - 1 + 1 = j := by omega
      simp only [e] at this
      exact this
     have nowJ := fun k0 e => zla (D := D) (D' := D2) (k0 := k0) kO hjl e
     have snJ := fun k0 e h0 => zj9 (D := D) (D' := D2) (k0 := k0) hjl e h0
     obtain ⟨c, hc⟩ : ∃ c, c = O[j] := ⟨_, rfl⟩
     have T := tO O[j] (List.getElem_mem hjl)
     rw [<- hc, <- ha6] at T
     rw [<- hc] at e5 e6 A pv nowJ snJ
     obtain ⟨k0, hk0⟩ : ∃ k, k = 4 * a6 + c.n.id := ⟨_, rfl⟩
     rw [<- hk0] at T
     obtain ⟨T1, T2, T3, T4, T5, T6, T7, T8, T9⟩ := T
     obtain ⟨N1, N2⟩ := nowJ k0 T1
     obtain ⟨⟨S1, S2⟩, S3⟩ := snJ k0 T1 T2
     obtain ⟨b1, b2, b3, b4, b5⟩ := A.one
     obtain ⟨g2, hg2⟩ : ∃ g2, g2 = g.push (.row (chC c vp vc vx vl vk)) := ⟨_, rfl⟩
     have gg2 : Ge g g2 := by rw [hg2]; exact (Ge.refl _).push _
     have wg2 : g2.WF := by rw [hg2]; exact wg.push _
     have ng2 : g2.next = g.next + 1 := by rw [hg2]; simp
     have c2 : zab g2.get g.next 23 = some (chC c vp vc vx vl vk) := by rw [hg2]; simp [chC]
     have c24 : zab g2.get g.next 23 = some (chC c vp vc vx vl vk) -> (List.take 4 (List.drop 1 (chC c vp vc vx vl vk))) = pfxC c.n.p := fun _ => rfl
     simp only [chC] at hg2 e5 c2
     have kw : IntKind.i64.wrap (4 * (a6 : Int) + (c.n.id : Int)) = (k0 : Int) := by rw [hk0]; rw [show 4 * (a6 : Int) + (c.n.id : Int) = ((4 * a6 + c.n.id : Nat) : Int) by omega]; exact zaf (by omega) (by omega)
     have kw4 : IntKind.i64.wrap (4 * (a6 : Int)) = 4 * (a6 : Int) := zaf (by omega) (by omega)
     have kwi : IntKind.i64.wrap (c.n.id : Int) = (c.n.id : Int) := zaf (by omega) (by omega)
     simp [t9, t11, hlg, hjl, e1, y1, e4, e5, b1, b2, b3, b4, b5]
     rw [zaL _ _ _ rfl, <- hg2]
     simp [t8, c2, kw, kw4, kwi]
     have f3g := f3 g2 ⟨by have := gh'.1; omega, fun k hk => by rw [gg2.2 k (by have := gh'.1; omega)]; exact kg k hk⟩
     refine zjP (fun t' h' => (t' 0 = v ∧ t' 3 = .ptr p 1 0 ∧ t' 4 = .sl jh 24 0 24 (some 24) ∧ t' 5 = .sl (jh + 1) 24 0 24 (some 24) ∧ t' 6 = .sl (jh + 2) 6 0 6 (some 6) ∧ t' 7 = .int .i64 (i : Nat) ∧ t' 8 = .int .i64 (a6 : Nat) ∧ t' 9 = wa ∧ t' 11 = .int .i64 (j : Nat) ∧ t' 12 = .ptr g.next 23 0 ∧ t' 13 = .int .i64 (k0 : Nat) ∧ t' 118 = .bool false) ∧ h' = g2) (fun R hR => ?_) ?_
     ·refine zbP [g.next] [0, 0, 2, 0, 0, 0, 0, 0, 1, 0, 0, 0, 0, 0, 0, 0, 0, 0, 0, 0, 0, 0, 0, 0, 0, 0, 0, 0, 0, 0, 0, 0, 0] rfl (by rfl) ?_
      simp [t0, t7, f1, f3g, f60, c2, I.foot, zaQ]
      refine zby (zdx hks.1) (by decide) (fun _ => fun k hk => rfl) ?_
      have en := zkj c.n.p (zal s.at')
      rw [decide_eq_true T5] at en
      simp only [pfxC] at en
      have id3 : ¬ (c.n.id : Int) > 3 := by omega
      have id3' : ¬ 3 < c.n.id := by omega
      simp [pfxC, en]
      by_cases hj0 : 0 < j
      ·obtain ⟨pq, qq, oq, cq, i1, i2, i3, iq, i4, i5⟩ := pv hj0
       have y3 := i3 g2 gg2
       have i1' := i1 .i64
       have w9 : IntKind.i64.wrap ((j : Int) - 1) = ((j - 1 : Nat) : Int) := by rw [show (j : Int) - 1 = ((j - 1 : Nat) : Int) by omega]; exact zaf (by omega) (by omega)
       have jp0 : (j : Int) > 0 := by omega
       have le5 : ¬ c.n.id ≤ iq := by omega
       have i4' : cq[oq + 1 + 4]? = some (.int .u32 (iq : Nat)) := i4
       repeat' (first | (refine zgK ?_; simp [t9, t11, c2, id3, hj0, w9, i1', y3, i4, le5, I.foot, zaQ]))
       exact hR _ _ ⟨by simp [t0, t3, t4, t5, t6, t7, t8, t9, t11], rfl⟩
      ·have jz : j = 0 := by omega
       repeat' (first | (refine zgK ?_; simp [t11, c2, id3, jz, I.foot, zaQ]))
       exact hR _ _ ⟨by simp [t0, t3, t4, t5, t6, t7, t8, t9, t11, jz], rfl⟩
     clear t0 t3 t4 t5 t6 t7 t8 t9 t11
     rintro t' h' ⟨⟨t0, t3, t4, t5, t6, t7, t8, t9, t11, t12, t13, t118⟩, rfl⟩
     obtain ⟨g2', hg2'⟩ : ∃ x, x = h' := ⟨_, rfl⟩
     have zh2 := (gg2.2 jh (by omega)).trans zh
     have zm2 := (gg2.2 (jh + 1) (by omega)).trans zm
     have zl2 := (gg2.2 (jh + 2) (by omega)).trans zl
     have ch2 := zcX zh2
     have cm2 := zcX zm2
     have ix1 := ixF (j := jh) T2 .i64
     have ix2 := ixF (j := jh + 1) T2 .i64
     have va1 := zc0 (fun k => V.bool (hasJ D D2 O j k)) T2
     have va2 := zc0 (fun k => V.int .u32 (medJ D D2 O j k : Nat)) T2
     rw [N1] at va1
     rw [N2] at va2
     simp [t118]
     refine zjP (fun t'' h'' => (t'' 0 = v ∧ t'' 3 = .ptr p 1 0 ∧ t'' 4 = .sl jh 24 0 24 (some 24) ∧ t'' 5 = .sl (jh + 1) 24 0 24 (some 24) ∧ t'' 6 = .sl (jh + 2) 6 0 6 (some 6) ∧ t'' 7 = .int .i64 (i : Nat) ∧ t'' 8 = .int .i64 (a6 : Nat) ∧ t'' 9 = wa ∧ t'' 11 = .int .i64 (j : Nat) ∧ t'' 12 = .ptr g.next 23 0 ∧ t'' 13 = .int .i64 (k0 : Nat) ∧ t'' 148 = .bool false) ∧ h'' = h') (fun R hR => ?_) ?_
     ·refine zbM ?_
      cases hgn : c.gone with
      | true =>
       rw [T8 hgn] at va1
       simp [t4, t12, t13, c2, hgn, ch2, ix1, va1]
       exact hR _ _ ⟨by simp [t0, t3, t4, t5, t6, t7, t8, t9, t11, t12, t13], rfl⟩
      | false =>
       cases hb : hasB D k0 with
       | false =>
        rw [hb] at va1
        simp [t4, t12, t13, c2, hgn, ch2, ix1, va1]
        exact hR _ _ ⟨by simp [t0, t3, t4, t5, t6, t7, t8, t9, t11, t12, t13], rfl⟩
       | true =>
        rw [hb] at va1
        have nm := T9 hgn hb
        have nm' : (((medB D k0 : Nat) : Int) == ((c.att.med : Nat) : Int)) = false := by
         rw [beq_eq_false_iff_ne]; omega
        simp [t4, t5, t12, t13, c2, hgn, ch2, ix1, va1, cm2, ix2, va2, nm']
        exact hR _ _ ⟨by simp [t0, t3, t4, t5, t6, t7, t8, t9, t11, t12, t13], rfl⟩
     clear t0 t3 t4 t5 t6 t7 t8 t9 t11 t12 t13 t118
     rintro t' h'' ⟨⟨t0, t3, t4, t5, t6, t7, t8, t9, t11, t12, t13, t148⟩, rfl⟩
     have k23 : k0 ≤ 23 := by omega
     have rs1 : (rowF 24 fun k => V.bool (hasJ D D2 O j k)).take k0 ++ V.bool (!c.gone) :: (rowF 24 fun k => V.bool (hasJ D D2 O j k)).drop (k0 + 1) = rowF 24 fun k => V.bool (hasJ D D2 O (j + 1) k) := zfK _ T2 (by rw [S1, T6]) fun q hq hne => by rw [(S3 q hq hne).1]
     have rs2 : (rowF 24 fun k => V.int .u32 (medJ D D2 O j k : Nat)).take k0 ++ V.int .u32 (c.att.med : Nat) :: (rowF 24 fun k => V.int .u32 (medJ D D2 O j k : Nat)).drop (k0 + 1) = rowF 24 fun k => V.int .u32 (medJ D D2 O (j + 1) k : Nat) := zfK _ T2 (by rw [S2, T7]) fun q hq hne => by rw [(S3 q hq hne).2]
     have u1 : ¬ g.next = jh := by omega
     have u2 : ¬ g.next = jh + 1 := by omega
     have wj : IntKind.i64.wrap ((j : Int) + 1) = ((j + 1 : Nat) : Int) := zaJ hjl (by omega)
     simp [t148, t4, t5, t12, t13, c2, ix1, ix2, zh2, zm2, zbz, k23, rs1, rs2, u1, t11, wj]
     obtain ⟨g3', hg3⟩ : ∃ x, x = (h''.set jh (.row (rowF 24 fun k => V.bool (hasJ D D2 O (j + 1) k)))).set (jh + 1) (.row (rowF 24 fun k => V.int .u32 (medJ D D2 O (j + 1) k : Nat))) := ⟨_, rfl⟩
     rw [<- hg3]
     have ng3 : g3'.next = h''.next := by rw [hg3]; simp
     have wg3 : g3'.WF := by rw [hg3]; exact (wg2.set (by omega) _).set (by simp; omega) _
     have kg3 : ∀ k, k ≠ jh -> k ≠ jh + 1 -> g3'.get k = h''.get k := fun k h1 h2 => by rw [hg3]; simp [h1, h2]
     refine hK2 _ _ hjl ⟨by simp [t0, t3, t4, t5, t6, t7, t8, t9], wg3, by omega, fun k hk => ?_, ?_, by rw [hg3]; simp, by rw [hg3]; simp, ?_, ?_⟩
     ·rw [kg3 k (by omega) (by omega), gg2.2 k (by omega)]; exact kg k hk
     ·have xl := xg.lt wg
      refine (xg.ge wg gg2).keep (by omega) (kg3 _ (by omega) (by omega)) (kg3 _ (by omega) (by omega)) fun k sz cs _ _ e => ?_
      rw [kg3 k (fun e2 => by subst e2; rw [zh2] at e; cases e) (fun e2 => by subst e2; rw [zm2] at e; cases e)]; exact e
     ·rw [kg3 _ (by omega) (by omega)]; exact zl2
     ·exact (lg.ge gg2).keep (by omega) fun k hk _ => kg3 k (by omega) (by omega)
    ·have ej : j = O.length := by omega
     rw [ej] at zh zm
     simp only [eO] at zh zm
     simp [t9, t11, hlg, hjl]
     exact hRn2 _ _ ⟨by simp [t0, t3, t4, t5, t6, t7], wg, ng, kg, xg, zh, zm, zl⟩
   clear t0 t3 t4 t5 t6 t7
   rintro t g ⟨⟨t0, t3, t4, t5, t6, t7⟩, wg, ng, kg, xg, zh, zm, zl⟩
   simp [t7, w1']
   refine hK _ _ hlt ⟨by simp [t0, t3, t4, t5, t6], wg, by omega, kg, by rw [hD']; exact xg, by rw [hD']; exact zh, by rw [hD']; exact zm, la2, zl, by rw [hD']; exact lo2, by rw [hD']; exact fr2⟩
  ·have e : i = n := by omega
   rw [e] at x yh ym lo fr
   by_cases hl1 : i < l.length
   ·have hl2 : ¬ (i : Int) < 40 := by omega
    simp [t0, t7, hl', hl1, hl2]
    exact hRn _ _ ⟨by simp [t0, t3, t4, t5, t6], wb, nb, kb, x, yh, ym, la, yl, lo, fr⟩
   ·simp [t0, t7, hl', hl1]
    exact hRn _ _ ⟨by simp [t0, t3, t4, t5, t6], wb, nb, kb, x, yh, ym, la, yl, lo, fr⟩
 clear lt1 x1 w1
 rintro t h2 ⟨⟨t0, t3, t4, t5, t6⟩, w2, n2, k2, x2, yh, ym, la, yl, lo, fr⟩
 obtain ⟨D, hD⟩ : ∃ D, D = zb1 (l.take n) := ⟨_, rfl⟩
 have D4 := ziz (l.take n)
 rw [<- hD] at x2 D4 yh ym lo fr
 obtain ⟨rD, gD, zD, lD⟩ := D4
 have kD := zaZ rD
 have ltk : (l.take n).length ≤ 40 := by rw [List.length_take]; omega
 have lD80 : D.length ≤ 160 := by omega
 have gh2 : Ge h h2 := ⟨by omega, k2⟩
 have lt2 := x2.lt w2
 simp
 refine za8 (id := 4) (fun t g => (t 3 = .ptr p 1 0 ∧ t 14 = .int .i64 (cntB D 24 : Nat)) ∧ Ge h2 g ∧ g.WF) (fun Rn hRn => ?_) ?_
 ·refine zaz (fun a t g => (t 0 = v ∧ t 3 = .ptr p 1 0 ∧ t 4 = .sl jh 24 0 24 (some 24) ∧ t 5 = .sl (jh + 1) 24 0 24 (some 24) ∧ t 6 = .sl (jh + 2) 6 0 6 (some 6) ∧ t 14 = .int .i64 (cntB D (4 * a) : Nat) ∧ t 15 = .int .i64 (a : Nat)) ∧ Ge h2 g ∧ g.WF) 6
   ⟨by simp [t0, t3, t4, t5, t6, cntB], Ge.refl _, w2⟩ ?_
  clear t0 t3 t4 t5 t6
  rintro a t g ha ⟨⟨t0, t3, t4, t5, t6, t14, t15⟩, gg, wg⟩ K hK
  by_cases ha6 : a < 6
  ·have ha2 : (a : Int) < 6 := by omega
   obtain ⟨lo1, lo2, lo3⟩ := lo a ha6
   have zl := (gg.2 _ (by omega)).trans yl
   have cl := zcX zl
   have ixl := ixF (j := jh + 2) ha6 .i64
   have vl := zc0 (fun a => V.int .i64 (la a : Nat)) ha6
   have hl' := ((hs.ge wf gh2).ge w2 gg).len
   simp [t6, t15, ha2, ixl, vl, cl]
   refine zlc (fun t' g' => (t' 0 = v ∧ t' 3 = .ptr p 1 0 ∧ t' 4 = .sl jh 24 0 24 (some 24) ∧ t' 5 = .sl (jh + 1) 24 0 24 (some 24) ∧ t' 6 = .sl (jh + 2) 6 0 6 (some 6) ∧ t' 14 = .int .i64 (cntB D (4 * a) : Nat) ∧ t' 15 = .int .i64 (a : Nat)) ∧ Ge h2 g' ∧ g'.WF ∧ ∃ (L : List Chg) (w : V) (es : List (List V)), t' 16 = w ∧ LfP g' (fun _ => True) w L es ∧ L.length ≤ 4 ∧ (∀ c ∈ L, c.n.p = zal a) ∧ (∀ c ∈ L, c.n.id < 4) ∧ (∀ c : Chg, c.n.p = zal a -> (c ∈ D ↔ c ∈ L))) (fun e R hR => ?_) (fun e R hR => ?_) ?_
   ·have h0 : 0 < la a := by simpa using e
    obtain ⟨s, s1, s2, s3⟩ := lo3 h0
    have hlt1 : la a - 1 < l.length := (List.getElem?_eq_some_iff.1 s1).1
    have es : l[la a - 1] = s := (List.getElem?_eq_some_iff.1 s1).2
    obtain ⟨pp, q, o, cs, f1, f2, f3, f4, f5, f6⟩ := hs.atG wf (k := la a - 1) (by simpa using hlt1)
    rw [List.getElem_map] at f5
    rw [es] at f5
    have hks := hk l[la a - 1] (List.getElem_mem hlt1)
    rw [es] at hks
    have f3g := f3 g (gh2.trans gg)
    have wl : IntKind.i64.wrap ((la a : Int) - 1) = ((la a - 1 : Nat) : Int) := by rw [show (la a : Int) - 1 = ((la a - 1 : Nat) : Int) by omega]; exact zaf (by omega) (by omega)
    simp [t0, t6, t15, ixl, vl, cl, wl, f1, f3g, f4, f5]
    refine zgI hks fun w es g' gg' wg' lw => ?_
    simp
    refine hR _ _ ⟨by simp [t0, t3, t4, t5, t6, t14, t15], gg.trans gg', wg', zaT s, w, es, by simp, lw.mono fun _ _ _ => trivial, zcJ s, fun c hc => ?_, fun c hc => ?_, s3⟩
    ·obtain ⟨i, m', _, e'⟩ := zkk s c hc
     rw [e', <- s2, <- zcn]
    ·obtain ⟨i, m', hi, e'⟩ := zkk s c hc
     rw [e']; exact hi
   ·have h0 : la a = 0 := by simpa using e
    simp
    refine hR _ _ ⟨by simp [t0, t3, t4, t5, t6, t14, t15], gg, wg, [], .nilsl, [], by simp, LfP.nil _ _, by simp, by simp, by simp, fun c hc => ⟨fun h9 => absurd hc (lo2 h0 c h9), fun h9 => by cases h9⟩⟩
   clear t0 t3 t4 t5 t6 t14 t15 zl gg wg
   rintro t g ⟨⟨t0, t3, t4, t5, t6, t14, t15⟩, gg, wg, L, w, es, t16, lw, lL, hp, hi4, hm⟩
   have zh := (gg.2 _ (by omega)).trans yh
   have zm := (gg.2 _ (by omega)).trans ym
   have ch := zcX zh
   have cm := zcX zm
   have hlw := lw.len g.get
   simp
   refine za8 (id := 6) (fun t g' => (t 0 = v ∧ t 3 = .ptr p 1 0 ∧ t 4 = .sl jh 24 0 24 (some 24) ∧ t 5 = .sl (jh + 1) 24 0 24 (some 24) ∧ t 6 = .sl (jh + 2) 6 0 6 (some 6) ∧ t 14 = .int .i64 (cntB D (4 * a + 4) : Nat) ∧ t 15 = .int .i64 (a : Nat)) ∧ g' = g) (fun Rn2 hRn2 => ?_) ?_
   ·refine zaz (fun id t g' => (t 0 = v ∧ t 3 = .ptr p 1 0 ∧ t 4 = .sl jh 24 0 24 (some 24) ∧ t 5 = .sl (jh + 1) 24 0 24 (some 24) ∧ t 6 = .sl (jh + 2) 6 0 6 (some 6) ∧ t 14 = .int .i64 (cntB D (4 * a + id) : Nat) ∧ t 15 = .int .i64 (a : Nat) ∧ t 16 = w ∧ t 17 = .int .i64 (id : Nat)) ∧ g' = g) 4
     ⟨by simp [t0, t3, t4, t5, t6, t14, t15, t16], rfl⟩ ?_
    clear t0 t3 t4 t5 t6 t14 t15 t16
    rintro id t g' hid ⟨⟨t0, t3, t4, t5, t6, t14, t15, t16, t17⟩, rfl⟩ K2 hK2
    by_cases hi : id < 4
    ·have hi2 : (id : Int) < 4 := by omega
     have k24 : 4 * a + id < 24 := by omega
     have kw : IntKind.i64.wrap (4 * (a : Int) + (id : Int)) = ((4 * a + id : Nat) : Int) := by rw [show 4 * (a : Int) + (id : Int) = ((4 * a + id : Nat) : Int) by omega]; exact zaf (by omega) (by omega)
     have kw4 : IntKind.i64.wrap (4 * (a : Int)) = 4 * (a : Int) := zaf (by omega) (by omega)
     have ix1 := ixF (j := jh) k24 .i64
     have ix2 := ixF (j := jh + 1) k24 .i64
     have va1 := zc0 (fun k => V.bool (hasB D k)) k24
     have va2 := zc0 (fun k => V.int .u32 (medB D k : Nat)) k24
     have fh := zjC (D := D) ha6 hi hp hm
     have cs1 := zjp D (4 * a + id)
     have wi : IntKind.i64.wrap ((id : Int) + 1) = ((id + 1 : Nat) : Int) := zaJ hi (by omega)
     have cle := znS D (4 * a + id)
     have wc : IntKind.i64.wrap ((cntB D (4 * a + id) : Int) + 1) = ((cntB D (4 * a + id) + 1 : Nat) : Int) := by rw [Int.natCast_add]; exact zaf (by omega) (by omega)
     obtain ⟨k0, hk0⟩ : ∃ k, k = 4 * a + id := ⟨_, rfl⟩
     rw [<- hk0] at k24 kw ix1 ix2 va1 va2 fh cs1 cle wc t14
     simp [t17, hi2]
     refine za8 (id := 8) (fun t g'' => (t 0 = v ∧ t 3 = .ptr p 1 0 ∧ t 4 = .sl jh 24 0 24 (some 24) ∧ t 5 = .sl (jh + 1) 24 0 24 (some 24) ∧ t 6 = .sl (jh + 2) 6 0 6 (some 6) ∧ t 14 = .int .i64 (cntB D k0 : Nat) ∧ t 15 = .int .i64 (a : Nat) ∧ t 16 = w ∧ t 17 = .int .i64 (id : Nat) ∧ t 18 = .bool (hasB D k0)) ∧ g'' = g') (fun Rn3 hRn3 => ?_) ?_
     ·refine zaz (fun k t g'' => (t 0 = v ∧ t 3 = .ptr p 1 0 ∧ t 4 = .sl jh 24 0 24 (some 24) ∧ t 5 = .sl (jh + 1) 24 0 24 (some 24) ∧ t 6 = .sl (jh + 2) 6 0 6 (some 6) ∧ t 14 = .int .i64 (cntB D k0 : Nat) ∧ t 15 = .int .i64 (a : Nat) ∧ t 16 = w ∧ t 17 = .int .i64 (id : Nat) ∧ t 18 = .bool ((L.take k).any fun c => decide (c.n.id = id)) ∧ t 19 = .int .i64 (k : Nat)) ∧ g'' = g') L.length
       ⟨by simp [t0, t3, t4, t5, t6, t14, t15, t16, t17], rfl⟩ ?_
      clear t0 t3 t4 t5 t6 t14 t15 t16 t17
      rintro k t g'' hkk ⟨⟨t0, t3, t4, t5, t6, t14, t15, t16, t17, t18, t19⟩, rfl⟩ K3 hK3
      by_cases hkl : k < L.length
      ·obtain ⟨pp', q', o', cs', vp, vc, vx, vl', vk, e1, e2, e3, e4, e5, A, _, e6⟩ := (lw.ls.at (by omega)).atG wg hkl
       have y1 := e3 g'' (Ge.refl _)
       obtain ⟨c, hc⟩ : ∃ c, c = L[k] := ⟨_, rfl⟩
       have mc : c ∈ L := by rw [hc]; exact List.getElem_mem hkl
       have tk : (L.take (k + 1)).any (fun c => decide (c.n.id = id)) = ((L.take k).any (fun c => decide (c.n.id = id)) || decide (c.n.id = id)) := by
        rw [List.take_add_one, List.getElem?_eq_getElem hkl, List.any_append, <- hc]; simp
       rw [<- hc] at e5 e6 A
       have z5 := e6 5 (by omega)
       have z11 := e6 11 (by omega)
       simp [chC] at z5 z11
       have kwi : IntKind.i64.wrap (c.n.id : Int) = (c.n.id : Int) := zaf (by omega) (by have := hi4 c mc; omega)
       have wk : IntKind.i64.wrap ((k : Int) + 1) = ((k + 1 : Nat) : Int) := zaJ hkl (by omega)
       obtain ⟨fm1, fm2⟩ := zke kD hp hm mc (hi4 c mc)
       simp [t16, t19, hlw, hkl, e1, y1, z5, kwi, t17]
       by_cases hci : c.n.id = id
       ·have hci2 : (c.n.id : Int) = (id : Int) := by omega
        rw [hci, <- hk0] at fm1 fm2
        rw [fm1] at va1
        rw [fm2] at va2
        simp [hci]
        refine zbM ?_
        simp [t4, t5, t15, t16, t17, t19, kw, kw4, ix1, ix2, ch, cm, va1, va2, e1, y1, z11, wk]
        refine hK3 _ _ hkl ⟨by simp [t0, t3, t4, t5, t6, t14, t15, t16, t17, tk, hci], rfl⟩
       ·have hci2 : ((c.n.id : Int) == (id : Int)) = false := by
         rw [beq_eq_false_iff_ne]; omega
        simp [hci2, t19, wk]
        refine hK3 _ _ hkl ⟨by simp [t0, t3, t4, t5, t6, t14, t15, t16, t17, t18, tk, hci], rfl⟩
      ·have ek : k = L.length := by omega
       rw [ek, List.take_length, <- fh] at t18
       simp [t16, t19, hlw, hkl]
       exact hRn3 _ _ ⟨by simp [t0, t3, t4, t5, t6, t14, t15, t16, t17, t18], rfl⟩
     clear t0 t3 t4 t5 t6 t14 t15 t16 t17
     rintro t g'' ⟨⟨t0, t3, t4, t5, t6, t14, t15, t16, t17, t18⟩, rfl⟩
     cases hb : hasB D k0 with
     | true =>
      rw [hb] at t18 cs1
      simp at cs1
      simp [t18, t14, wc, t17, wi]
      refine hK2 _ _ hi ⟨by simp [t0, t3, t4, t5, t6, t15, t16]; rw [<- Nat.add_assoc, <- hk0, cs1]; rfl, rfl⟩
     | false =>
      rw [hb] at t18 cs1 va1
      simp at cs1
      simp [t18, t4, t15, t17, kw, kw4, ix1, ch, va1, wi]
      refine hK2 _ _ hi ⟨by simp [t0, t3, t4, t5, t6, t15, t16, t14]; rw [<- Nat.add_assoc, <- hk0, cs1], rfl⟩
    ·have ei : id = 4 := by omega
     subst ei
     simp [t17]
     exact hRn2 _ _ ⟨by simp [t0, t3, t4, t5, t6, t14, t15], rfl⟩
   clear t0 t3 t4 t5 t6 t14 t15 t16
   rintro t g' ⟨⟨t0, t3, t4, t5, t6, t14, t15⟩, rfl⟩
   have wa : IntKind.i64.wrap ((a : Int) + 1) = ((a + 1 : Nat) : Int) := zaJ ha6 (by omega)
   simp [t15, wa]
   have e4 : 4 * (a + 1) = 4 * a + 4 := by omega
   refine hK _ _ ha6 ⟨by simp [t0, t3, t4, t5, t6, t14, e4], gg, wg⟩
  ·have ea : a = 6 := by omega
   subst ea
   simp [t15]
   exact hRn _ _ ⟨by simp [t3, t14], gg, wg⟩
 clear t0 t3 t4 t5 t6
 rintro t g ⟨⟨t3, t14⟩, gg, wg⟩
 have c24 := zlY rD fr
 rw [c24] at t14
 have xg := x2.ge w2 gg
 simp [t3]
 refine znR xg (by omega) fun vz ez hA gA wA lz => ?_
 rw [zkZ] at lz
 have xA := xg.ge wg gA
 have lnz := lz.len hA.get
 have ghA : Ge h hA := gh2.trans (gg.trans gA)
 simp
 refine za8 (id := 10) (fun t h' => (t 3 = .ptr p 1 0 ∧ t 14 = .int .i64 (D.length : Nat) ∧ t 20 = vz) ∧ h' = hA) (fun Rn hRn => ?_) ?_
 ·refine zaz (fun i t h' => (t 3 = .ptr p 1 0 ∧ t 14 = .int .i64 (D.length : Nat) ∧ t 20 = vz ∧ t 21 = .int .i64 ((i + 1 : Nat) : Int)) ∧ h' = hA) D.length ⟨by simp [t3, t14], rfl⟩ ?_
  clear t3 t14
  rintro i t h' hi ⟨⟨t3, t14, t20, t21⟩, rfl⟩ K hK
  by_cases hlt : i + 1 < D.length
  ·have hw : IntKind.i64.wrap (((i + 1 : Nat) : Int) + 1) = ((i + 1 + 1 : Nat) : Int) := zaJ hlt (by omega)
   have hm1 : IntKind.i64.wrap (((i + 1 : Nat) : Int) - 1) = (i : Int) := by rw [show ((i + 1 : Nat) : Int) - 1 = (i : Int) by omega]; exact zaf (by omega) (by omega)
   obtain ⟨pp, qq, oo, cs, vp, vc, vx, vl, vk, e1, e2, e3, e4, e5, A, _, e6⟩ := (lz.ls.at (by omega)).atG wA (k := i) (by omega)
   obtain ⟨pp', qq', oo', cs', wp, wc, wx, wl, wk, e1', e2', e3', e4', e5', B, _, e6'⟩ := (lz.ls.at (by omega)).atG wA hlt
   have y1 := e3 h' (Ge.refl _)
   have y2 := e3' h' (Ge.refl _)
   have ri := List.pairwise_iff_getElem.1 rD i (i + 1) (by omega) hlt (by omega)
   obtain ⟨c, hc⟩ : ∃ c, c = D[i]'(by omega) := ⟨_, rfl⟩
   obtain ⟨d, hd⟩ : ∃ d, d = D[i + 1] := ⟨_, rfl⟩
   rw [<- hc] at e5 e6 ri
   rw [<- hd] at e5' e6' ri
   have q45 : (cs.drop (oo + 1)).take 4 = pfxC c.n.p := (zjt (a := 1) (n := 4) e5 (by omega)).trans rfl
   have q45' : (cs'.drop (oo' + 1)).take 4 = pfxC d.n.p := (zjt (a := 1) (n := 4) e5' (by omega)).trans rfl
   have o1 : oo + 1 + 4 ≤ cs.length := by omega
   have o1' : oo' + 1 + 4 ≤ cs'.length := by omega
   have z5 := e6 5 (by omega)
   have z5' := e6' 5 (by omega)
   simp [chC] at z5 z5'
   obtain ⟨k1, hk1⟩ : ∃ k : Nat, k = i + 1 := ⟨_, rfl⟩
   rw [<- hk1] at t21 hw hm1 hlt e1'
   have hlt' : k1 < D.length := hlt
   simp [t20, t21, lnz, hlt']
   refine zbM ?_
   simp [t20, t21, hm1, e1, e1', y1, y2, q45, q45', o1, o1']
   refine zew zn6 ?_
   simp
   refine zbM ?_
   have r2 : orI (zfl c.n.p d.n.p) (cmpI c.n.id d.n.id) < 0 := ri
   obtain ⟨cv, hcv⟩ : ∃ cv, cv = zfl c.n.p d.n.p := ⟨_, rfl⟩
   rw [<- hcv] at r2 ⊢
   have gt : ¬ cv > 0 := by
    intro h9
    unfold orI at r2
    split at r2 <;> omega
   by_cases c0 : cv = 0
   ·have lt9 : c.n.id < d.n.id := by
     rw [c0] at r2
     simp [orI, cmpI] at r2
     split at r2 <;> (try split at r2) <;> omega
    have ge9 : ¬ d.n.id ≤ c.n.id := by omega
    simp [c0, t20, t21, hm1, e1, e1', y1, y2, z5, z5', ge9, hw]
    refine hK _ _ (by omega) ⟨by simp [t3, t14, t20, hk1], rfl⟩
   ·have gt' : ¬ 0 < cv := gt
    have c0' : (cv == 0) = false := by rw [beq_eq_false_iff_ne]; exact c0
    simp [gt', c0', t21, hw]
    refine hK _ _ (by omega) ⟨by simp [t3, t14, t20, hk1], rfl⟩
  ·have hlt' : ¬ (i : Int) + 1 < (D.length : Nat) := by omega
   simp [t20, t21, lnz, hlt']
   exact hRn _ _ ⟨by simp [t3, t14, t20], rfl⟩
 clear t3 t14
 rintro t h' ⟨⟨t3, t14, t20⟩, rfl⟩
 simp [t20, t14, lnz, t3]
 refine zkH xA _ ?_
 simp [t14]
 refine ziK h' _ ?_
 simp
 exact ghA
end Go.Am
