/-
 PC5, PL0, PC6, PC7, PC8, PP0, PP1, PP2, PP3, PP4, PP5, AJ0, AJ1, AJ2, AJ3, AW0, AW1, AW2, AW3, PC9, AP0, AP1, AP2, APD, in one text.
-/
import Derived.Test.YtpgcodeckphanaaGreatDoorJMC
import Derived.Test.YtpgcodeckphanaaGreatDoorJMA
import Derived.Test.YtpgcodeckphanaaGreatDoorJAm32
import Derived.Test.YtpgcodeckphanaaGreatDoorJShS
import Derived.Test.YtpgcodeckphanaaGreatDoorJAm40
import Derived.Test.YtpgcodeckphanaaGreatDoorJMB
import Derived.Test.YtpgcodeckphanaaGreatDoorJAm37
import Derived.Test.YtpgcodeckphanaaGreatDoorJAmL
import Derived.Test.YtpgcodeckphanaaGreatDoorJAm21
import Derived.Test.YtpgcodeckphanaaGreatDoorJAm36
import Derived.Test.YtpgcodeckphanaaGreatDoorJQwTab
import Derived.KernelRfl
namespace Go.Am
open Go.Proofs

set_option maxRecDepth 100000
theorem zpr {h : H} {q : Nat} {a b : Int} (hq : h.get q = some (.row [.int .i64 a, .int .i64 b])) : Pure Tryz.prog 80 [.sl q 2 0 2 (some 2)] h (.int .i64 (orI a b)) := by
 refine zae Tryz.func80 S.a42c S.a42e rfl (Nat.le_of_ble_eq_true rfl) fun wf => ?_; simp only [S.a42]
 have c1 : zab h.get q 2 = some [.int .i64 a, .int .i64 b] := by rw [zag hq (by rfl)]; rfl
 simp
 refine zaj (fun i t h' => (t 3 = .int .i64 0 ∧ t 6 = .sl q 2 0 2 (some 2) ∧ t 7 = .int .i64 2 ∧ t 8 = .int .i64 (i : Nat)) ∧ h = h' ∧ (0 < i -> a = 0) ∧ (1 < i -> b = 0)) 2 ⟨by simp, rfl, by omega, by omega⟩ ?_
 rintro i t h' hi ⟨⟨t3, t6, t7, t8⟩, rfl, k1, k2⟩ K hK
 have w1 : IntKind.i64.wrap 1 = 1 := by decide
 have w2 : IntKind.i64.wrap 2 = 2 := by decide
 rcases (by omega : i = 0 ∨ i = 1 ∨ i = 2) with rfl | rfl | rfl
 ·by_cases hz : a = 0
  ·simp [t3, t6, t7, t8, c1, hz, w1]
   exact hK _ _ (by omega) ⟨by simp [t3, t6, t7], rfl, fun _ => hz, by omega⟩
  ·have hb : (a != 0) = true := by simpa using hz
   simp [t3, t6, t7, t8, c1, hb, zbs hz]
 ·have z1 := k1 (by omega)
  by_cases hz : b = 0
  ·simp [t3, t6, t7, t8, c1, hz, w2]
   exact hK _ _ (by omega) ⟨by simp [t3, t6, t7], rfl, fun _ => z1, fun _ => hz⟩
  ·have hb : (b != 0) = true := by simpa using hz
   simp [t3, t6, t7, t8, c1, hb, z1, zaR]
 ·have z1 := k1 (by omega)
  have z2 := k2 (by omega)
  simp [t3, t7, t8, z1, z2, zaR]
theorem zmo {h : H} {a b : Chg} {vp vc vx vl vk wp wc wx wl wk : V} (o1 : vp.one = true) (o2 : vc.one = true) (o3 : vx.one = true) (o4 : vl.one = true) (o5 : vk.one = true) (p1 : wp.one = true) (p2 : wc.one = true) (p3 : wx.one = true) (p4 : wl.one = true) (p5 : wk.one = true) :
  Pure Tryz.prog 94 [.agg (chC a vp vc vx vl vk), .agg (chC b wp wc wx wl wk)] h (.int .i64 (cmpC a b)) := by
 refine zae Tryz.func94 S.a54c S.a54e rfl (Nat.le_of_ble_eq_true rfl) fun wf => ?_; simp only [S.a54]
 obtain ⟨h2, hh2⟩ : ∃ h2, h2 = (h.push (.row (chC a vp vc vx vl vk))).push (.row (chC b wp wc wx wl wk)) := ⟨_, rfl⟩
 have g2 : Ge h h2 := by rw [hh2]; exact ((Ge.refl _).push _).push _
 have n01 : ¬ h.next = h.next + 1 := by omega
 have c1 : zab h2.get h.next 23 = some (chC a vp vc vx vl vk) := by rw [hh2]; simp [chC]
 have c2 : zab h2.get (h.next + 1) 23 = some (chC b wp wc wx wl wk) := by rw [hh2]; simp [chC]
 simp only [chC] at hh2 c1 c2 ⊢
 simp [o1, o2, o3, o4, o5, p1, p2, p3, p4, p5]
 rw [<- hh2]
 have r2 : zax 2 [V.int .i64 0] = [.int .i64 0, .int .i64 0] := rfl
 refine zfJ _ znW (by rfl) ?_
 simp [List.lookup, c1, c2, zoa]
 refine zbf (zpr (q := h2.next) (a := cmp4 a.n.p.fam a.n.p.rd a.n.p.len b.n.p.fam b.n.p.rd b.n.p.len a.n.p.addr b.n.p.addr) (b := cmpI a.n.id b.n.id) (by simp [r2])) ?_
 simp [cmpC, zk6, zad, zcG, cmp4]
 exact g2.push _
open Go.Sort in
theorem swo_c : SWO (ltOf cmpC) := by
 refine ⟨fun x => ?_, fun x y z h1 h2 => ?_, fun x y z h1 h2 => ?_⟩
 ·simp [ltOf, ordr_c.self x]
 ·simp only [ltOf, decide_eq_true_eq] at *
  exact ordr_c.down _ _ _ h1 h2
 ·simp only [ltOf, decide_eq_false_iff_not] at *
  intro h
  have a := ordr_c.anti x y
  rcases Int.lt_trichotomy (cmpC y x) 0 with k | k | k
  ·exact h2 (ordr_c.down y x z k h)
  ·have := ordr_c.same y x z k; omega
  ·omega
open Go.Sort in
theorem zmc {h : H} {j : Nat} {ca : Option Nat} {l : List (Chg × List V)} {o : O} (hg : h.get j = some o) (ho : o = .row (l.map Prod.snd).flatten ∨ o = .grow 23 (l.map Prod.snd).flatten) (he : ∀ x ∈ l, ∃ vp vc vx vl vk, x.2 = chC x.1 vp vc vx vl vk ∧ vp.one = true ∧ vc.one = true ∧ vx.one = true ∧ vl.one = true ∧ vk.one = true) (hl : l.length ≤ 1000000) (hne : l ≠ []) {g : FuncId} (heg : zaa Tryz.prog g = true)
  (hcmp : ∀ (a b : Chg) (h' : H), Pure Tryz.prog g [.agg (chC a .any .any .any .any .any), .agg (chC b .any .any .any .any .any)] h' (.int .i64 (cmpC a b))) {Q : V -> H -> Prop}
  (q : ∀ l' : List (Chg × List V), l'.Perm l -> l'.Pairwise (fun x y => ¬ cmpC y.1 x.1 < 0) -> Q (.tup []) (h.set j (match o with | .row _ => .row (l'.map Prod.snd).flatten | _ => .grow 23 (l'.map Prod.snd).flatten))) :
  Acalls Tryz.prog 78 [.sl j (l.length * 23) 0 l.length ca, .func (.func g) [] []] h Q := by
 have h23 : ∀ {m : List (Chg × List V)}, (∀ x ∈ m, x ∈ l) -> ∀ e ∈ m.map Prod.snd, e.length = 23 := fun hm e hx => by
  obtain ⟨x, hx1, rfl⟩ := List.mem_map.1 hx
  obtain ⟨_, _, _, _, _, e, _⟩ := he x (hm x hx1)
  rw [e]; rfl
 have hfl := zau (h23 (m := l) fun x hx => hx)
 simp only [List.length_map] at hfl
 have hone : ∀ e ∈ l.map Prod.snd, e.all V.one = true := fun e hx => by
  obtain ⟨x, hx1, rfl⟩ := List.mem_map.1 hx
  obtain ⟨_, _, _, _, _, e, o1, o2, o3, o4, o5⟩ := he x hx1
  rw [e]; simp [chC, o1, o2, o3, o4, o5]
 have oc : o.cells = (l.map Prod.snd).flatten := by rcases ho with rfl | rfl <;> simp
 have orr : o.rowish = true := by rcases ho with rfl | rfl <;> rfl
 have ol : o.len = l.length * 23 := by rcases ho with rfl | rfl <;> simpa using hfl
 have S : SortIn h j (l.length * 23) 0 23 (l.map Prod.snd) o := ⟨hg, orr, ol, by rw [oc]; simp [hfl], by rw [oc]; simp only [List.drop_zero, List.length_map]; rw [<- hfl, List.take_length], h23 fun x hx => hx, hone⟩
 refine zmr Tryz.sort78 (F := 78) (g := g) (k := 23) rfl (by kernel_rfl) Tryz.isAgg48 Tryz.sizeOf48 (by decide) S (encV := Prod.snd) (shV := fun x => chC x.1 .any .any .any .any .any) (cmpB := fun x y => cmpC x.1 y.1) ⟨fun x => swo_c.irrefl _, fun x y z => swo_c.trans _ _ _, fun x y z => swo_c.ntrans _ _ _⟩ (fun x hx => ?_) heg rfl (by omega) (List.length_pos_iff.2 hne) (fun x _ y _ h' => hcmp x.1 y.1 h') (fun l' o' hp hs hput => ?_)
 ·obtain ⟨vp, vc, vx, vl, vk, e, o1, o2, o3, o4, o5⟩ := he x hx
  rw [e]
  have nr : ∀ v : V, v.ids = [] -> Weak v v := fun v hv => .inr ⟨rfl, hv⟩
  have an : ∀ v : V, v.one = true -> Weak v .any := fun v hv => .inl ⟨rfl, hv⟩
  exact .cons (nr _ rfl) (.cons (nr _ rfl) (.cons (nr _ rfl) (.cons (nr _ rfl) (.cons (nr _ rfl) (.cons (nr _ rfl) (.cons (nr _ rfl) (.cons (nr _ rfl) (.cons (an _ o1) (.cons (nr _ rfl) (.cons (nr _ rfl) (.cons (nr _ rfl) (.cons (nr _ rfl) (.cons (nr _ rfl) (.cons (nr _ rfl) (.cons (nr _ rfl) (.cons (nr _ rfl) (.cons (an _ o2) (.cons (an _ o3) (.cons (an _ o4) (.cons (nr _ rfl) (.cons (nr _ rfl) (.cons (an _ o5) .nil))))))))))))))))))))))
 ·have hfl' := zau (h23 (m := l') fun x hx => hp.mem_iff.1 hx)
  simp only [List.length_map] at hfl'
  have hle := hp.length_eq
  have hs' : l'.Pairwise (fun x y => ¬ cmpC y.1 x.1 < 0) := hs.imp fun {a b} h => by simpa [ltOf] using h
  have hQ := q l' hp hs'
  rcases ho with rfl | rfl
  ·have e : o' = .row (l'.map Prod.snd).flatten := by
    rw [zkx, if_pos (by rw [hfl', hfl, hle]; omega)] at hput
    cases hput
    unfold putCells
    rw [List.take_zero, List.nil_append, Nat.zero_add, hfl', hle, <- hfl, List.drop_length, List.append_nil]
   rw [e]; exact hQ
  ·have e : o' = .grow 23 (l'.map Prod.snd).flatten := by
    rw [zia, if_pos (by rw [hfl', hfl, hle]; omega)] at hput
    cases hput
    unfold putCells
    rw [List.take_zero, List.nil_append, Nat.zero_add, hfl', hle, <- hfl, List.drop_length, List.append_nil]
   rw [e]; exact hQ
end Go.Am

namespace Go.Am

structure Pc where
 gap : Nat
 op : Nat
 last : Nat
 S : List Chg
def zr3 (P : Pc) (l : List Chg) : Pc := ⟨P.gap, P.op, P.last, l.foldl putC P.S⟩
theorem zbj : ∀ (l S : List Chg), Rise cmpC S -> Rise cmpC (l.foldl putC S)
 | [], _, h => h
 | _ :: l, _, h => zbj l _ (zb7 h)
structure Stp where
 key : Nat
 wait : Nat
 gone : Bool
 fire : Bool
def attM (i : Nat) : Att := ⟨0, [], [], true, i, false, 0, false, 0, 0, [], [], [], false, 0, []⟩
def nlOf (k : Nat) : Nl := ⟨⟨1, 0, [UInt8.ofNat (10 + k % 4), 0, 0, 0], 8⟩, k % 8 / 4, 0⟩
def zfv (x : Stp) (i : Nat) : Chg := ⟨x.gone, nlOf x.key, if x.gone = true then att0 else attM i⟩
def ixOf (c : Chg) : Nat := ((c.n.p.addr.getD 0 0).toNat - 10) + 4 * c.n.id
theorem ziN (x : Stp) (i : Nat) : ixOf (zfv x i) = x.key % 8 := by
 have : (UInt8.ofNat (10 + x.key % 4)).toNat = 10 + x.key % 4 := by
  rw [UInt8.toNat_ofNat']; omega
 simp only [ixOf, zfv, nlOf, List.getD_cons_zero, this]
 omega
theorem znp {x y : Stp} {i j : Nat} (h : x.key % 8 = y.key % 8) : zad (zfv x i) = zad (zfv y j) := by
 have h1 : x.key % 4 = y.key % 4 := by omega
 simp only [zad, zfv, nlOf, h, h1]
def zpB (l : List Stp) (put sent : Nat -> Nat) (c : Chg) : Prop := ∃ k x, k < 8 ∧ put k ≠ sent k ∧ l[put k - 1]? = some x ∧ x.key % 8 = k ∧ c = zfv x (put k - 1)
structure PInv (g : Nat) (l : List Stp) (i : Nat) (P : Pc) (put sent : Nat -> Nat) : Prop where
 gap : P.gap = g
 le : ∀ k, k < 8 -> sent k ≤ put k
 pl : ∀ k, k < 8 -> put k ≤ i
 pk : ∀ k, k < 8 -> 0 < put k -> ∃ x, l[put k - 1]? = some x ∧ x.key % 8 = k
 rise : Rise cmpC P.S
 mem : ∀ c, c ∈ P.S ↔ zpB l put sent c
theorem PInv.zero (g : Nat) (l : List Stp) (op last : Nat) : PInv g l 0 ⟨g, op, last, []⟩ (fun _ => 0) (fun _ => 0) :=
 ⟨rfl, fun _ _ => Nat.le_refl _, fun _ _ => Nat.le_refl _, fun _ _ h => by omega, List.Pairwise.nil, fun c => ⟨fun h => (by cases h), fun ⟨_, _, _, h, _⟩ => absurd rfl h⟩⟩
def upAt (f : Nat -> Nat) (j v : Nat) : Nat -> Nat := fun k => if k = j then v else f k
theorem zcZ (f : Nat -> Nat) (j v : Nat) : upAt f j v j = v := by simp [upAt]
theorem zfl (f : Nat -> Nat) {j k : Nat} (v : Nat) (h : k ≠ j) : upAt f j v k = f k := by simp [upAt, h]
theorem PInv.put {g i : Nat} {l : List Stp} {P : Pc} {put sent : Nat -> Nat} (v : PInv g l i P put sent) {x : Stp} (hx : l[i]? = some x) :
  PInv g l (i + 1) (zr3 P [zfv x i]) (upAt put (x.key % 8) (i + 1)) sent := by
 refine ⟨v.gap, fun k hk => ?_, fun k hk => ?_, fun k hk hp => ?_, zb7 v.rise, fun c => ?_⟩
 ·have := v.le k hk
  have := v.pl k hk
  unfold upAt
  split <;> omega
 ·have := v.pl k hk
  unfold upAt
  split <;> omega
 ·by_cases e : k = x.key % 8
  ·subst e; rw [zcZ]; exact ⟨x, by simpa using hx, rfl⟩
  ·rw [zfl _ _ e] at hp ⊢; exact v.pk k hk hp
 ·show c ∈ putC P.S (zfv x i) ↔ _
  rw [zcH v.rise]
  constructor
  ·rintro (rfl | ⟨hc, hne⟩)
   ·refine ⟨x.key % 8, x, Nat.mod_lt _ (by decide), ?_, by rw [zcZ]; simpa using hx, rfl, by rw [zcZ]; simp⟩
    have := v.le (x.key % 8) (Nat.mod_lt _ (by decide))
    have := v.pl (x.key % 8) (Nat.mod_lt _ (by decide))
    rw [zcZ]; omega
   ·obtain ⟨k, y, hk, h1, h2, h3, rfl⟩ := (v.mem c).1 hc
    have hkx : k ≠ x.key % 8 := fun e => hne (znp (h3.trans e))
    exact ⟨k, y, hk, by rw [zfl _ _ hkx]; exact h1, by rw [zfl _ _ hkx]; exact h2, h3, by rw [zfl _ _ hkx]⟩
  ·rintro ⟨k, y, hk, h1, h2, h3, rfl⟩
   by_cases e : k = x.key % 8
   ·subst e
    rw [zcZ] at h2 ⊢
    simp only [Nat.add_sub_cancel, hx, Option.some.injEq] at h2
    subst h2
    exact .inl (by simp)
   ·rw [zfl _ _ e] at h1 h2 ⊢
    refine .inr ⟨(v.mem _).2 ⟨k, y, hk, h1, h2, h3, rfl⟩, fun e2 => e ?_⟩
    have a := ziN y (put k - 1)
    have b := ziN x i
    unfold ixOf at a b
    simp only [zad, Ky.mk.injEq] at e2
    rw [e2.1, e2.2] at a
    omega
theorem PInv.up {g i : Nat} {l : List Stp} {P : Pc} {put sent : Nat -> Nat} (v : PInv g l i P put sent) : PInv g l (i + 1) P put sent :=
 ⟨v.gap, v.le, fun k hk => Nat.le_succ_of_le (v.pl k hk), v.pk, v.rise, v.mem⟩
def zkZ (put : Nat -> Nat) (sent : Nat -> Nat) (m : List Chg) : Nat -> Nat := fun k => if k ∈ m.map ixOf then put k else sent k
theorem PInv.one {g i : Nat} {l : List Stp} {P : Pc} {put sent : Nat -> Nat} (v : PInv g l i P put sent) {c : Chg} (hc : c ∈ P.S) :
  ixOf c < 8 ∧ 0 < put (ixOf c) ∧ put (ixOf c) ≤ i ∧ put (ixOf c) ≠ sent (ixOf c) ∧ ∃ x, l[put (ixOf c) - 1]? = some x ∧ x.key % 8 = ixOf c ∧ c = zfv x (put (ixOf c) - 1) := by
 obtain ⟨k, x, hk, h1, h2, h3, rfl⟩ := (v.mem c).1 hc
 rw [ziN, h3]
 have := v.le k hk
 exact ⟨hk, by omega, v.pl k hk, h1, x, h2, h3, rfl⟩
theorem PInv.ix_nodup {g i : Nat} {l : List Stp} {P : Pc} {put sent : Nat -> Nat} (v : PInv g l i P put sent) : (P.S.map ixOf).Nodup := by
 unfold List.Nodup
 rw [List.pairwise_map]
 refine v.rise.imp_of_mem fun {a b} ha hb hab e => ?_
 obtain ⟨_, _, _, _, x, hx, _, ea⟩ := v.one ha
 obtain ⟨_, _, _, _, y, hy, _, eb⟩ := v.one hb
 rw [e, hy] at hx
 cases hx
 have : a = b := by rw [ea, eb, e]
 subst this
 have := ordr_c.self a
 omega
theorem PInv.ix_mem {g i : Nat} {l : List Stp} {P : Pc} {put sent : Nat -> Nat} (v : PInv g l i P put sent) {k : Nat} (hk : k < 8) : k ∈ P.S.map ixOf ↔ put k ≠ sent k := by
 constructor
 ·intro h
  obtain ⟨c, hc, rfl⟩ := List.mem_map.1 h
  exact (v.one hc).2.2.2.1
 ·intro h
  have h0 : 0 < put k := by have := v.le k hk; omega
  obtain ⟨x, hx, e⟩ := v.pk k hk h0
  refine List.mem_map.2 ⟨zfv x (put k - 1), (v.mem _).2 ⟨k, x, hk, h, hx, e, rfl⟩, ?_⟩
  rw [ziN, e]
theorem PInv.count {g i : Nat} {l : List Stp} {P : Pc} {put sent : Nat -> Nat} (v : PInv g l i P put sent) : P.S.length = ((List.range 8).filter fun k => decide (put k ≠ sent k)).length := by
 have : (P.S.map ixOf).Perm ((List.range 8).filter fun k => decide (put k ≠ sent k)) := by
  refine (List.perm_ext_iff_of_nodup v.ix_nodup (List.nodup_range.filter _)).2 fun k => ?_
  rw [List.mem_filter, decide_eq_true_eq, List.mem_range]
  constructor
  ·intro h
   obtain ⟨c, hc, rfl⟩ := List.mem_map.1 h
   have := v.one hc
   exact ⟨this.1, this.2.2.2.1⟩
  ·exact fun ⟨h1, h2⟩ => (v.ix_mem h1).2 h2
 rw [<- this.length_eq, List.length_map]
theorem PInv.gone {g i : Nat} {l : List Stp} {P : Pc} {put sent : Nat -> Nat} (v : PInv g l i P put sent) (op last : Nat) : PInv g l i ⟨P.gap, op, last, []⟩ put (zkZ put sent P.S) := by
 refine ⟨v.gap, fun k hk => ?_, v.pl, v.pk, List.Pairwise.nil, fun c => ⟨fun h => (by cases h), ?_⟩⟩
 ·have := v.le k hk
  unfold zkZ
  split <;> omega
 ·rintro ⟨k, x, hk, h1, _⟩
  unfold zkZ at h1
  split at h1
  ·exact absurd rfl h1
  ·rename_i h2
   exact absurd ((v.ix_mem hk).2 h1) h2
theorem PInv.with {g i : Nat} {l : List Stp} {P : Pc} {put sent : Nat -> Nat} (v : PInv g l i P put sent) (op last : Nat) : PInv g l i ⟨P.gap, op, last, P.S⟩ put sent := ⟨v.gap, v.le, v.pl, v.pk, v.rise, v.mem⟩
end Go.Am

namespace Go.Am
open Go.Proofs

set_option maxRecDepth 100000
theorem zpW {h : H} : Pure Tryz.prog 149 [.int .u64 0] h (.int .i64 0) := by
 refine zae Tryz.func149 S.a86c S.a86e rfl (Nat.le_of_ble_eq_true rfl) fun wf => ?_; simp only [S.a86]
 have w : IntKind.u8.wrap 0 = 0 := by decide
 have w2 : IntKind.i64.wrap 0 = 0 := by decide
 simp [w, w2]
theorem lenz {h : H} : Pure Tryz.prog 115 [.int .u64 0] h (.int .i64 0) := by
 refine zae Tryz.func115 S.a67c S.a67e rfl (Nat.le_of_ble_eq_true rfl) fun wf => ?_; simp only [S.a67]
 simp
 refine zpW _ ?_
 simp
theorem zpN {h : H} {v c : V} : Pure Tryz.prog 140 [v, .int .i64 0, .int .i64 0, c] h (.tup []) := by
 refine zae Tryz.func140 S.a85c S.a85e rfl (Nat.le_of_ble_eq_true rfl) fun wf => ?_; simp only [S.a85]
 have w : IntKind.i64.wrap 1 = 1 := by decide
 simp [w]
 refine zaj (fun i t h' => (t 2 = .int .i64 0 ∧ t 8 = .int .i64 1) ∧ h' = h) 0 ⟨by simp, rfl⟩ ?_
 rintro i t h' hi ⟨⟨t2, t8⟩, rfl⟩ K hK
 simp [t2, t8]
theorem pdqz {h : H} {v lim c : V} : Pure Tryz.prog 114 [v, .int .i64 0, .int .i64 0, lim, c] h (.tup []) := by
 refine zae Tryz.func114 S.a66c S.a66e rfl (Nat.le_of_ble_eq_true rfl) fun wf => ?_; simp only [S.a66]
 have w : IntKind.i64.wrap 0 = 0 := by decide
 simp
 refine zaj (fun i t h' => (t 0 = v ∧ t 1 = .int .i64 0 ∧ t 2 = .int .i64 0 ∧ t 4 = c) ∧ h' = h) 0 ⟨by simp, rfl⟩ ?_
 rintro i t h' hi ⟨⟨t0, t1, t2, t4⟩, rfl⟩ K hK
 simp [t0, t1, t2, t4, w]
 refine zpN _ ?_
 simp
theorem zrL {h : H} {v c : V} (hv : ∀ g, lenV 1 g v = some (.int .i64 0)) : Pure Tryz.prog 78 [v, c] h (.tup []) := by
 refine zae Tryz.func78 S.a41c S.a41e rfl (Nat.le_of_ble_eq_true rfl) fun wf => ?_; simp only [S.a41]
 have w : IntKind.u64.wrap 0 = 0 := by decide
 simp [hv, w]
 refine lenz _ ?_
 simp
 refine pdqz _ ?_
 simp

theorem zgC {S : List Chg} (hk : zav S) (hw : S.Pairwise fun x y => ¬ cmpC y x < 0) : Rise cmpC S := by
 unfold zav List.Nodup at hk
 rw [List.pairwise_map] at hk
 refine (hk.and hw).imp fun {a b} h => ?_
 have h1 := ordr_c.anti a b
 have h2 : cmpC a b ≠ 0 := fun e => h.1 (zfX e)
 have := h.2
 omega
def HeldAt (h : H) (R : Nat -> Prop) (m : Nat) (S : List Chg) : Prop := ∃ es bs tk L, h.get m = some (.mapo es bs tk) ∧ MapB es bs tk ∧ Srt L S ∧ es.length = L.length ∧ ∀ (i : Nat) (c : Chg), L[i]? = some c -> ∃ e, es[i]? = some (kyV (zad c), .agg e) ∧ ChP h R c e
structure PaceAt (h : H) (R : Nat -> Prop) (p m : Nat) (P : Pc) : Prop where
 row : h.get p = some (.row [.int .i64 (P.gap : Nat), .int .u64 (P.op : Nat), .int .u64 (P.last : Nat), .map m])
 held : HeldAt h R m P.S
theorem HeldAt.keep {h h' : H} {R : Nat -> Prop} {m : Nat} {S : List Chg} (x : HeldAt h R m S) (hn : h.next ≤ h'.next) (hm : h'.get m = h.get m) (k : ∀ j s cs, R j -> j < h.next -> h.get j = some (.grow s cs) -> h'.get j = some (.grow s cs)) : HeldAt h' R m S := by
 obtain ⟨es, bs, tk, L, a, b, c, d, e⟩ := x
 exact ⟨es, bs, tk, L, hm.trans a, b, c, d, fun i q hi => by obtain ⟨e1, h1, h2⟩ := e i q hi; exact ⟨e1, h1, h2.keep hn k⟩⟩
theorem HeldAt.mono {h : H} {R R' : Nat -> Prop} {m : Nat} {S : List Chg} (x : HeldAt h R m S) (k : ∀ j, j < h.next -> R j -> R' j) : HeldAt h R' m S := by
 obtain ⟨es, bs, tk, L, a, b, c, d, e⟩ := x
 exact ⟨es, bs, tk, L, a, b, c, d, fun i q hi => by obtain ⟨e1, h1, h2⟩ := e i q hi; exact ⟨e1, h1, h2.mono k⟩⟩
theorem HeldAt.len {h : H} {R : Nat -> Prop} {m : Nat} {S : List Chg} (x : HeldAt h R m S) (g : Nat -> Option O) (hg : g m = h.get m) : lenV 2 g (.map m) = some (.int .i64 (S.length : Nat)) := by
 obtain ⟨es, bs, tk, L, a, b, c, d, e⟩ := x
 simp [lenV, hg, a, d, c.perm.length_eq]
def chg0 : Chg := ⟨false, ⟨zrG, 0, 0⟩, att0⟩
end Go.Am

namespace Go.Am
open Go.Proofs

set_option maxRecDepth 100000
structure But (h h' : H) (p m : Nat) : Prop where
 next : h.next ≤ h'.next
 keep : ∀ k, k < h.next -> k ≠ p -> k ≠ m -> h'.get k = h.get k
theorem But.refl (h : H) (p m : Nat) : But h h p m := ⟨Nat.le_refl _, fun _ _ _ _ => rfl⟩
theorem But.trans {a b c : H} {p m : Nat} (x : But a b p m) (y : But b c p m) : But a c p m := ⟨Nat.le_trans x.next y.next, fun k hk h1 h2 => (y.keep k (Nat.lt_of_lt_of_le hk x.next) h1 h2).trans (x.keep k hk h1 h2)⟩
theorem Ge.but {h h' : H} (g : Ge h h') (p m : Nat) : But h h' p m := ⟨g.1, fun k hk _ _ => g.2 k hk⟩
theorem PaceAt.lt {h : H} {R : Nat -> Prop} {p m : Nat} {P : Pc} (x : PaceAt h R p m P) (w : h.WF) : p < h.next ∧ m < h.next ∧ p ≠ m := by
 obtain ⟨es, bs, tk, L, a, _⟩ := x.held
 exact ⟨w.lt x.row, w.lt a, fun e => by subst e; rw [x.row] at a; cases a⟩
theorem PaceAt.keep {h h' : H} {R : Nat -> Prop} {p m : Nat} {P : Pc} (x : PaceAt h R p m P) (hn : h.next ≤ h'.next) (hp : h'.get p = h.get p) (hm : h'.get m = h.get m) (k : ∀ j s cs, R j -> j < h.next -> h.get j = some (.grow s cs) -> h'.get j = some (.grow s cs)) : PaceAt h' R p m P :=
 ⟨hp.trans x.row, x.held.keep hn hm k⟩
theorem PaceAt.ge {h h' : H} {R : Nat -> Prop} {p m : Nat} {P : Pc} (x : PaceAt h R p m P) (w : h.WF) (g : Ge h h') : PaceAt h' R p m P :=
 x.keep g.1 (g.2 _ (x.lt w).1) (g.2 _ (x.lt w).2.1) fun j _ _ _ hj e => (g.2 j hj).trans e
end Go.Am

namespace Go.Am
open Go.Proofs

set_option maxRecDepth 100000
def kyT : TS := .st [(0, 4, true, .st [(0, 1, false, .int), (1, 1, false, .int), (2, 1, false, .str), (3, 1, false, .int)]), (4, 1, false, .int)]
def kyD : KD := .st kyT 5
theorem ziZ (k : Ky) : zbN kyD (kyV k) = true := rfl
theorem zrU (a b : Ky) : eqV kyT (kyV a) (kyV b) = some (decide (a = b)) := by
 have e1 := zh1 a.p b.p
 simp only [pfxC] at e1
 show eqFs _ _ _ = _
 rw [zbp (b := decide (a.p = b.p)) rfl rfl (by simpa using e1), zbp (b := decide (a.id = b.id)) rfl rfl (zgr _ _ _)]
 by_cases h1 : a.p = b.p <;> by_cases h2 : a.id = b.id <;> cases a <;> cases b <;> simp_all [eqFs]
theorem zep {ts : TS} {n : Nat} {k x e : V} {es : List (V × V)} {i : Nat} (h1 : zbN (.st ts n) x = true) : zcc (.st ts n) k ((x, e) :: es) i = (match eqV ts k x with
  | some true => some (some (i, e))
  | some false => zcc (.st ts n) k es (i + 1)
  | none => none) := by
 show (if zbN (.st ts n) x = true then _ else none) = _
 rw [if_pos h1]
 rfl
theorem zeR : ∀ (es : List (V × V)) (L : List Chg) (i0 : Nat), es.length = L.length -> (∀ (i : Nat) (c : Chg), L[i]? = some c -> ∃ e, es[i]? = some (kyV (zad c), e)) -> ∀ k : Ky,
  (∃ j, ∃ hj : j < L.length, ∃ e, zad L[j] = k ∧ (∀ a (ha : a < j), zad L[a] ≠ k) ∧ zcc kyD (kyV k) es i0 = some (some (i0 + j, e))) ∨ ((∀ c ∈ L, zad c ≠ k) ∧ zcc kyD (kyV k) es i0 = some none)
 | [], [], _, _, _, _ => .inr ⟨by simp, rfl⟩
 | [], _ :: _, _, h, _, _ => by simp at h
 | _ :: _, [], _, h, _, _ => by simp at h
 | x :: es, c :: L, i0, hl, he, k => by
  obtain ⟨e, e0⟩ := he 0 c rfl
  have hx : x = (kyV (zad c), e) := by simpa using e0
  subst hx
  have hq := zrU k (zad c)
  by_cases hk : k = zad c
  ·refine .inl ⟨0, by simp, e, hk.symm, fun a ha => by omega, ?_⟩
   rw [kyD, zep rfl, hq]; simp [hk]
  ·have ih := zeR es L (i0 + 1) (by simpa using hl) (fun i c' hi => by simpa using he (i + 1) c' (by simpa using hi)) k
   have hf : zcc kyD (kyV k) ((kyV (zad c), e) :: es) i0 = zcc kyD (kyV k) es (i0 + 1) := by
    rw [kyD, zep rfl, hq]; simp [hk]
   rw [hf]
   rcases ih with ⟨j, hj, e', a1, a2, a3⟩ | ⟨a1, a2⟩
   ·refine .inl ⟨j + 1, by simpa using hj, e', a1, fun a ha => ?_, by rw [a3]; congr 3; omega⟩
    cases a with
    | zero => exact fun e => hk e.symm
    | succ a => exact a2 a (by omega)
   ·exact .inr ⟨fun c' hc' => (List.mem_cons.1 hc').elim (fun e => e ▸ fun e2 => hk e2.symm) (a1 c'), a2⟩
theorem HeldAt.set {h : H} {R : Nat -> Prop} {m : Nat} {S : List Chg} (x : HeldAt h R m S) (c : Chg) {e : List V} (hc : ChP h R c e) :
  ∃ o, zcp h.get kyD (.map m) (kyV (zad c)) (.agg e) = some (.set m o) ∧ HeldAt (h.set m o) R m (putC S c) := by
 obtain ⟨es, bs, tk, L, hm, mb, srt, hl, he⟩ := x
 have keepS : ∀ {o : O} {c : Chg} {e : List V}, ChP h R c e -> ChP (h.set m o) R c e := fun f => f.keep (by simp) fun j s' cs' _ _ hj => by rw [H.get_set, if_neg (fun e => by subst e; rw [hm] at hj; cases hj)]; exact hj
 rcases zeR es L 0 hl (fun i c' hi => by obtain ⟨e', a, _⟩ := he i c' hi; exact ⟨_, a⟩) (zad c) with ⟨j, hj, e', a1, a2, a3⟩ | ⟨a1, a2⟩
 ·refine ⟨.mapo (es.set j (kyV (zad c), .agg e)) bs tk, ?_, es.set j (kyV (zad c), .agg e), bs, tk, L.set j c, by simp, mb.set, ?_, by simpa using hl, fun i c' hi => ?_⟩
  ·unfold zcp
   rw [if_pos (ziZ _)]
   simp only [hm, a3, Nat.zero_add]
  ·have hu : upC L c = L.set j c := by
    rcases zj5 L c with ⟨j', hj', b1, b2, b3⟩ | ⟨b1, _⟩
    ·have : j' = j := by
      rcases Nat.lt_trichotomy j j' with h1 | h1 | h1
      ·exact absurd a1 (b3 j h1)
      ·exact h1.symm
      ·exact absurd b1 (a2 j' h1)
     rw [b2, this]
    ·exact absurd a1 (b1 _ (List.getElem_mem hj))
   rw [<- hu]; exact srt.put c
  ·by_cases hij : i = j
   ·subst hij
    rw [List.getElem?_set_self hj, Option.some.injEq] at hi
    subst hi
    exact ⟨e, by rw [List.getElem?_set_self (by omega)], keepS hc⟩
   ·rw [List.getElem?_set_ne (by omega)] at hi
    obtain ⟨e1, b1, b2⟩ := he i c' hi
    exact ⟨e1, by rw [List.getElem?_set_ne (by omega)]; exact b1, keepS b2⟩
 ·refine ⟨.mapo (es ++ [(kyV (zad c), .agg e)]) (bs ++ [tk]) (tk + 1), ?_, es ++ [(kyV (zad c), .agg e)], bs ++ [tk], tk + 1, L ++ [c], by simp, mb.snoc, ?_, by simp [hl], fun i c' hi => ?_⟩
  ·unfold zcp
   rw [if_pos (ziZ _)]
   simp only [hm, a2]
  ·have hu : upC L c = L ++ [c] := by
    rcases zj5 L c with ⟨j', hj', b1, _, _⟩ | ⟨_, b2⟩
    ·exact absurd b1 (a1 _ (List.getElem_mem hj'))
    ·exact b2
   rw [<- hu]; exact srt.put c
  ·by_cases hij : i < L.length
   ·rw [List.getElem?_append_left hij] at hi
    obtain ⟨e1, b1, b2⟩ := he i c' hi
    exact ⟨e1, by rw [List.getElem?_append_left (by omega)]; exact b1, keepS b2⟩
   ·rw [List.getElem?_append_right (by omega)] at hi
    have h0 : i - L.length = 0 := by
     rcases Nat.eq_zero_or_pos (i - L.length) with h | h
     ·exact h
     ·rw [List.getElem?_eq_none (by simp; omega)] at hi; cases hi
    rw [h0] at hi
    simp at hi
    subst hi
    exact ⟨e, by rw [List.getElem?_append_right (by omega), hl, h0]; rfl, keepS hc⟩
theorem zdG {h : H} (w : h.WF) {sz : Nat} (es : List (List V)) : ∃ v h', Ge h h' ∧ h'.WF ∧ Gl h' h.next sz v es := by
 by_cases he : es = []
 ·subst he; exact ⟨.nilsl, h, Ge.refl _, w, Gl.nil _ _ _⟩
 ·exact ⟨.sl h.next es.flatten.length 0 es.length none, h.push (.grow sz es.flatten), (Ge.refl _).push _, w.push _, .inr ⟨he, h.next, Nat.le_refl _, by simp, rfl, by simp⟩⟩
theorem zg8 : ∀ (l : List Sg) {g : H}, g.WF -> ∃ (es : List (List V)) (g' : H), Ge g g' ∧ g'.WF ∧ es.length = l.length ∧ ∀ (i : Nat) (s : Sg), l[i]? = some s -> ∃ w, es[i]? = some [.int .i64 s.kind, w] ∧ Fc g' g.next 1 w (s.ases.map cP)
 | [], g, wg => ⟨[], g, Ge.refl _, wg, rfl, by simp⟩
 | s :: l, g, wg => by
  obtain ⟨w, g1, a1, b1, c1⟩ := zdG wg (sz := 1) (s.ases.map cP)
  obtain ⟨es, g2, a2, b2, c2, d2⟩ := zg8 l b1
  refine ⟨[.int .i64 s.kind, w] :: es, g2, a1.trans a2, b2, by simp [c2], fun i t hi => ?_⟩
  cases i with
  | zero => simp at hi; subst hi; exact ⟨w, rfl, (c1.keep a2.1 fun i hi => a2.2 i (c1.lo i hi).2).fr⟩
  | succ i => obtain ⟨u, e, f⟩ := d2 i t (by simpa using hi); exact ⟨u, by simpa using e, f.le a1.1⟩
theorem ziz {g : H} (wg : g.WF) {a : Att} (z : AttSz a) : ∃ wp wc wx wl wk g', Ge g g' ∧ g'.WF ∧ AttFr g' g.next a wp wc wx wl wk := by
 obtain ⟨es, g1, a1, b1, c1, d1⟩ := zg8 a.path wg
 obtain ⟨wp, g2, a2, b2, c2⟩ := zdG b1 (sz := 2) es
 obtain ⟨wc, g3, a3, b3, c3⟩ := zdG b2 (sz := 1) (a.comms.map cP)
 obtain ⟨wx, g4, a4, b4, c4⟩ := zdG b3 (sz := 1) (a.exts.map cX)
 obtain ⟨wl, g5, a5, b5, c5⟩ := zdG b4 (sz := 3) (a.larges.map cL)
 obtain ⟨wk, g6, a6, b6, c6⟩ := zdG b5 (sz := 1) (a.clus.map cP)
 have e1 := a1.1
 have e2 := a2.1
 have e3 := a3.1
 have e4 := a4.1
 have e5 := a5.1
 have t5 := a5.trans a6
 have t4 := a4.trans t5
 have t3 := a3.trans t4
 have t2 := a2.trans t3
 refine ⟨wp, wc, wx, wl, wk, g6, a1.trans t2, b6, ⟨⟨es, (c2.fr.ge t3).le (by omega), c1, fun i s hi => ?_⟩, (c3.fr.ge t4).le (by omega), (c4.fr.ge t5).le (by omega), (c5.fr.ge a6).le (by omega), c6.fr.le (by omega), z⟩⟩
 obtain ⟨w, e, f⟩ := d1 i s hi
 exact ⟨w, e, f.ge t2⟩

theorem zb5 : ∀ (l S : List Chg), (l.foldl putC S).length ≤ S.length + l.length
 | [], S => by simp
 | c :: l, S => by
  have h1 := zb5 l (putC S c)
  have h2 := zlW S c
  simp only [List.foldl_cons, List.length_cons]; omega
end Go.Am

namespace Go.Am
open Go.Proofs

set_option maxRecDepth 100000
def AtR (p : Chg -> List V -> Prop) (L : List Chg) (es : List (List V)) : Prop := es.length = L.length ∧ ∀ (i : Nat) (c : Chg), L[i]? = some c -> ∃ e, es[i]? = some e ∧ p c e
theorem AtR.nil (p : Chg -> List V -> Prop) : AtR p [] [] := ⟨rfl, fun i c h => by simp at h⟩
theorem AtR.mono {p p' : Chg -> List V -> Prop} {L : List Chg} {es : List (List V)} (a : AtR p L es) (k : ∀ c e, p c e -> p' c e) : AtR p' L es :=
 ⟨a.1, fun i c h => by obtain ⟨e, h1, h2⟩ := a.2 i c h; exact ⟨e, h1, k c e h2⟩⟩
theorem AtR.single {p : Chg -> List V -> Prop} {c : Chg} {e : List V} (h : p c e) : AtR p [c] [e] := ⟨rfl, fun i c' hi => by
 cases i with
 | zero => simp at hi; subst hi; exact ⟨e, rfl, h⟩
 | succ i => simp at hi⟩
theorem AtR.append {p : Chg -> List V -> Prop} {L M : List Chg} {es fs : List (List V)} (a : AtR p L es) (b : AtR p M fs) : AtR p (L ++ M) (es ++ fs) := by
 refine ⟨by simp [a.1, b.1], fun i c hi => ?_⟩
 by_cases h : i < L.length
 ·rw [List.getElem?_append_left h] at hi
  obtain ⟨e, h1, h2⟩ := a.2 i c hi
  exact ⟨e, by rw [List.getElem?_append_left (by have := a.1; omega)]; exact h1, h2⟩
 ·rw [List.getElem?_append_right (by omega)] at hi
  obtain ⟨e, h1, h2⟩ := b.2 _ c hi
  exact ⟨e, by rw [List.getElem?_append_right (by have := a.1; omega), a.1]; exact h1, h2⟩
theorem AtR.take {p : Chg -> List V -> Prop} {L : List Chg} {es : List (List V)} (a : AtR p L es) (k : Nat) : AtR p (L.take k) (es.take k) := by
 refine ⟨by simp [a.1], fun i c hi => ?_⟩
 rw [List.getElem?_take] at hi
 split at hi
 ·rename_i h
  obtain ⟨e, h1, h2⟩ := a.2 i c hi
  exact ⟨e, by rw [List.getElem?_take, if_pos h]; exact h1, h2⟩
 ·cases hi
theorem AtR.drop {p : Chg -> List V -> Prop} {L : List Chg} {es : List (List V)} (a : AtR p L es) (k : Nat) : AtR p (L.drop k) (es.drop k) := by
 refine ⟨by simp [a.1], fun i c hi => ?_⟩
 rw [List.getElem?_drop] at hi
 obtain ⟨e, h1, h2⟩ := a.2 _ c hi
 exact ⟨e, by rw [List.getElem?_drop]; exact h1, h2⟩
theorem AtR.mem {p : Chg -> List V -> Prop} {L : List Chg} {es : List (List V)} (a : AtR p L es) : ∀ e ∈ es, ∃ c ∈ L, p c e := fun e he => by
 obtain ⟨i, hi, rfl⟩ := List.mem_iff_getElem.1 he
 obtain ⟨e', h1, h2⟩ := a.2 i (L[i]'(by rw [<- a.1]; exact hi)) (List.getElem?_eq_getElem _)
 rw [List.getElem?_eq_getElem hi, Option.some.injEq] at h1
 exact ⟨_, List.getElem_mem (by rw [<- a.1]; exact hi), by rw [h1]; exact h2⟩
structure LfP (h : H) (R : Nat -> Prop) (v : V) (L : List Chg) (es : List (List V)) : Prop where
 fc : FcP h R 23 v es
 at' : AtR (ChP h R) L es
theorem LfP.ls {h : H} {R : Nat -> Prop} {v : V} {L : List Chg} {es : List (List V)} (s : LfP h R v L es) : LsP h R v L es := ⟨s.fc.rw, s.at'.1, s.at'.2⟩
theorem LfP.mono {h : H} {R R' : Nat -> Prop} {v : V} {L : List Chg} {es : List (List V)} (s : LfP h R v L es) (k : ∀ j, j < h.next -> R j -> R' j) : LfP h R' v L es :=
 ⟨s.fc.mono k, s.at'.mono fun _ _ f => f.mono k⟩
theorem LfP.keep {h h' : H} {R : Nat -> Prop} {v : V} {L : List Chg} {es : List (List V)} (s : LfP h R v L es) (hn : h.next ≤ h'.next) (k : ∀ j, R j -> j < h.next -> h'.get j = h.get j) : LfP h' R v L es :=
 ⟨s.fc.keep hn fun j _ _ hj hl e => (k j hj hl).trans e, s.at'.mono fun _ _ f => f.keep hn fun j _ _ hj hl e => (k j hj hl).trans e⟩
theorem LfP.keepG {h h' : H} {R : Nat -> Prop} {v : V} {L : List Chg} {es : List (List V)} (s : LfP h R v L es) (hn : h.next ≤ h'.next) (k : ∀ j sz cs, R j -> j < h.next -> h.get j = some (.grow sz cs) -> h'.get j = some (.grow sz cs)) : LfP h' R v L es :=
 ⟨s.fc.keep hn k, s.at'.mono fun _ _ f => f.keep hn k⟩
theorem LfP.ge {h h' : H} {R : Nat -> Prop} {v : V} {L : List Chg} {es : List (List V)} (s : LfP h R v L es) (g : Ge h h') : LfP h' R v L es := s.keep g.1 fun j _ hj => g.2 j hj
theorem LfP.nil (h : H) (R : Nat -> Prop) : LfP h R .nilsl [] [] := ⟨.inl ⟨rfl, .inl rfl⟩, AtR.nil _⟩
theorem LfP.one {h : H} {R : Nat -> Prop} {v : V} {L : List Chg} {es : List (List V)} (s : LfP h R v L es) : v.one = true := s.fc.one
theorem FcP.cap {h : H} {R : Nat -> Prop} {sz : Nat} {v : V} {es : List (List V)} (f : FcP h R sz v es) : zcb v := by
 rcases f with ⟨_, rfl | ⟨k, rfl⟩⟩ | ⟨_, j, _, _, rfl, _⟩ <;> simp [zcb]
theorem FcP.keep3 {h h' : H} {R : Nat -> Prop} {sz : Nat} {v : V} {es : List (List V)} (f : FcP h R sz v es) (hs : sz ≤ 3) (hn : h.next ≤ h'.next) (k : ∀ j s cs, s ≤ 3 -> R j -> j < h.next -> h.get j = some (.grow s cs) -> h'.get j = some (.grow s cs)) : FcP h' R sz v es := by
 rcases f with e | ⟨hne, j, a, b, c, d⟩
 ·exact .inl e
 ·exact .inr ⟨hne, j, a, Nat.lt_of_lt_of_le b hn, c, k j _ _ hs a b d⟩
theorem AttP.keep3 {h h' : H} {R : Nat -> Prop} {a : Att} {vp vc vx vl vk : V} (f : AttP h R a vp vc vx vl vk) (hn : h.next ≤ h'.next) (k : ∀ j s cs, s ≤ 3 -> R j -> j < h.next -> h.get j = some (.grow s cs) -> h'.get j = some (.grow s cs)) : AttP h' R a vp vc vx vl vk := by
 obtain ⟨es, f1, f2, f3⟩ := f.path
 exact ⟨⟨es, f1.keep3 (by decide) hn k, f2, fun i s hi => by obtain ⟨w, e, g⟩ := f3 i s hi; exact ⟨w, e, g.keep3 (by decide) hn k⟩⟩, f.comms.keep3 (by decide) hn k, f.exts.keep3 (by decide) hn k, f.larges.keep3 (by decide) hn k, f.clus.keep3 (by decide) hn k, f.sz⟩
theorem ChP.keep3 {h h' : H} {R : Nat -> Prop} {c : Chg} {e : List V} (f : ChP h R c e) (hn : h.next ≤ h'.next) (k : ∀ j s cs, s ≤ 3 -> R j -> j < h.next -> h.get j = some (.grow s cs) -> h'.get j = some (.grow s cs)) : ChP h' R c e := by
 obtain ⟨vp, vc, vx, vl, vk, a, b⟩ := f; exact ⟨vp, vc, vx, vl, vk, a, b.keep3 hn k⟩
theorem zhg {A B : List Chg} {c : Chg} (h : ∀ x ∈ A, ¬ cmpC c x < 0 ∧ cmpC c x ≠ 0) : putC (A ++ B) c = A ++ putC B c := by
 induction A with
 | nil => rfl
 | cons d A ih =>
  have := h d (by simp)
  rw [List.cons_append, putC, if_neg this.1, if_neg this.2, ih fun x hx => h x (by simp [hx])]
  rfl
theorem zla {B : List Chg} {c : Chg} (h : ∀ x ∈ B, cmpC c x < 0) : putC B c = c :: B := by
 cases B with
 | nil => rfl
 | cons d B => rw [putC, if_pos (h d (by simp))]
def hitB (c : Chg) : Option Chg -> Bool
 | some d => decide (cmpC c d = 0)
 | none => false
theorem zk7 {S : List Chg} (r : Rise cmpC S) (c : Chg) {k : Nat} (hk : k = spot cmpC c S S.length) :
  putC S c = if 0 < k ∧ hitB c S[k - 1]? = true then S.take (k - 1) ++ c :: S.drop k else S.take k ++ c :: S.drop k := by
 have hkl := zhK (c := cmpC) c S S.length
 rw [<- hk] at hkl
 have hB : ∀ x ∈ S.drop k, cmpC c x < 0 := fun x hx => by
  obtain ⟨i, hi, rfl⟩ := List.mem_iff_getElem.1 hx
  rw [List.length_drop] at hi
  rw [List.getElem_drop]
  exact zfL c S S.length (Nat.le_refl _) (k + i) (by omega) (by omega) (by omega)
 by_cases h0 : 0 < k
 ·obtain ⟨j, rfl⟩ : ∃ j, k = j + 1 := ⟨k - 1, by omega⟩
  obtain ⟨hj, hc⟩ := ze7 c S S.length (Nat.le_refl _) j hk.symm
  rw [Nat.add_sub_cancel, List.getElem?_eq_getElem hj]
  have hlt : ∀ i (hi : i < j), cmpC S[i] S[j] < 0 := fun i hi => List.pairwise_iff_getElem.1 r i j (by omega) hj hi
  by_cases he : cmpC c S[j] = 0
  ·rw [if_pos ⟨h0, by simpa [hitB] using he⟩]
   have e1 : S = S.take j ++ (S[j] :: S.drop (j + 1)) := by rw [<- List.drop_eq_getElem_cons hj, List.take_append_drop]
   have hA : ∀ x ∈ S.take j, ¬ cmpC c x < 0 ∧ cmpC c x ≠ 0 := fun x hx => by
    obtain ⟨i, hi, rfl⟩ := List.mem_iff_getElem.1 hx
    rw [List.length_take] at hi
    rw [List.getElem_take]
    have h1 := hlt i (by omega)
    have h2 : cmpC c S[i] = cmpC S[j] S[i] := by unfold cmpC; rw [zfX he]
    have := ordr_c.anti S[i] S[j]
    omega
   conv => lhs; rw [e1]
   rw [zhg hA, putC, if_neg (by omega), if_pos he]
  ·rw [if_neg (by simp [hitB, he])]
   have hA : ∀ x ∈ S.take (j + 1), ¬ cmpC c x < 0 ∧ cmpC c x ≠ 0 := fun x hx => by
    obtain ⟨i, hi, rfl⟩ := List.mem_iff_getElem.1 hx
    rw [List.length_take] at hi
    rw [List.getElem_take]
    have a1 := ordr_c.anti c S[j]
    have h1 : cmpC S[j] c < 0 := by omega
    have h2 : cmpC S[i] c < 0 := by
     rcases Nat.lt_or_ge i j with g | g
     ·exact ordr_c.down _ _ _ (hlt i g) h1
     ·have : i = j := by omega
      subst this; exact h1
    have := ordr_c.anti c S[i]
    omega
   conv => lhs; rw [<- List.take_append_drop (j + 1) S]
   rw [zhg hA, zla hB]
 ·have k0 : k = 0 := by omega
  subst k0
  rw [if_neg (by simp)]
  simp only [List.take_zero, List.drop_zero, List.nil_append] at hB ⊢
  exact zla hB
theorem zgu {h : H} {a b : Chg} {vp vc vx vl vk wp wc wx wl wk : V} (ha : a.n.p.addr.length < 9223372036854775808) (o1 : vp.one = true) (o2 : vc.one = true) (o3 : vx.one = true) (o4 : vl.one = true) (o5 : vk.one = true) (p1 : wp.one = true) (p2 : wc.one = true) (p3 : wx.one = true) (p4 : wl.one = true) (p5 : wk.one = true) :
  Pure Tryz.prog 109 [.agg (chC a vp vc vx vl vk), .agg (chC b wp wc wx wl wk)] h (.int .i64 (cmpC a b)) := by
 refine zae Tryz.func109 S.a64c S.a64e rfl (Nat.le_of_ble_eq_true rfl) fun wf => ?_; simp only [S.a64]
 obtain ⟨h2, hh2⟩ : ∃ h2, h2 = (h.push (.row (chC a vp vc vx vl vk))).push (.row (chC b wp wc wx wl wk)) := ⟨_, rfl⟩
 have g2 : Ge h h2 := by rw [hh2]; exact ((Ge.refl _).push _).push _
 have c1 : zab h2.get h.next 23 = some (chC a vp vc vx vl vk) := by rw [hh2]; simp [chC]
 have c2 : zab h2.get (h.next + 1) 23 = some (chC b wp wc wx wl wk) := by rw [hh2]; simp [chC]
 have rc := zoq (h := h2) (a := a.n.p) (b := b.n.p) ha
 simp only [chC] at hh2 c1 c2 ⊢
 simp only [pfxC] at rc
 simp [o1, o2, o3, o4, o5, p1, p2, p3, p4, p5]
 rw [<- hh2]
 refine rc _ ?_
 obtain ⟨x, hx⟩ : ∃ x, x = zcG a.n.p b.n.p := ⟨_, rfl⟩
 have hcc : cmpC a b = orI x (cmpI a.n.id b.n.id) := by rw [hx]; rfl
 rw [<- hx]
 by_cases h0 : x = 0
 ·subst h0
  rw [zaR] at hcc
  by_cases h1 : a.n.id < b.n.id
  ·have e : cmpI (a.n.id : Int) (b.n.id : Int) = -1 := by unfold cmpI; rw [if_pos (by omega)]
   simp [c1, c2, h1, hcc, e, g2]
  ·by_cases h3 : b.n.id < a.n.id
   ·have e : cmpI (a.n.id : Int) (b.n.id : Int) = 1 := by unfold cmpI; rw [if_neg (by omega), if_pos (by omega)]
    simp [c1, c2, h1, h3, hcc, e, g2]
   ·have e : cmpI (a.n.id : Int) (b.n.id : Int) = 0 := by unfold cmpI; rw [if_neg (by omega), if_neg (by omega)]
    simp [c1, c2, h1, h3, hcc, e, g2]
 ·have hb : (x != 0) = true := by simpa using h0
  rw [zbs h0] at hcc
  simp [hb, hcc, g2]
theorem zm3 {h : H} {a b : Chg} {vp vc vx vl vk wp wc wx wl wk : V} (A : AttAt h.get a.att vp vc vx vl vk) (B : AttAt h.get b.att wp wc wx wl wk) :
  Pure Tryz.prog 68 [.agg (chC a vp vc vx vl vk), .agg (chC b wp wc wx wl wk)] h (.bool (decide (a = b))) := by
 refine zae Tryz.func68 S.a40c S.a40e rfl (Nat.le_of_ble_eq_true rfl) fun wf => ?_; simp only [S.a40]
 obtain ⟨o1, o2, o3, o4, o5⟩ := A.one
 obtain ⟨p1, p2, p3, p4, p5⟩ := B.one
 obtain ⟨h2, hh2⟩ : ∃ h2, h2 = (h.push (.row (chC a vp vc vx vl vk))).push (.row (chC b wp wc wx wl wk)) := ⟨_, rfl⟩
 have g2 : Ge h h2 := by rw [hh2]; exact ((Ge.refl _).push _).push _
 have c1 : zab h2.get h.next 23 = some (chC a vp vc vx vl vk) := by rw [hh2]; simp [chC]
 have c2 : zab h2.get (h.next + 1) 23 = some (chC b wp wc wx wl wk) := by rw [hh2]; simp [chC]
 have rs := zj6 (A.ge wf g2) (B.ge wf g2)
 have en := zn4 a.n b.n
 have ex : (a = b) ↔ (a.gone = b.gone ∧ a.n = b.n ∧ a.att = b.att) := by cases a; cases b; simp
 simp only [chC] at hh2 c1 c2 ⊢
 simp only [attC] at rs
 simp only [nlC] at en
 simp [o1, o2, o3, o4, o5, p1, p2, p3, p4, p5]
 rw [<- hh2]
 by_cases h1 : a.gone = b.gone
 ·cases h3 : decide (a.n = b.n) with
  | true =>
   rw [h3] at en
   have h3' := of_decide_eq_true h3
   simp [c1, c2, eqB, h1, en]
   refine rs _ ?_
   simp only [ex, h1, h3', true_and]
   simp [g2]
  | false =>
   rw [h3] at en
   have h3' := of_decide_eq_false h3
   simp [c1, c2, eqB, h1, h3', en, ex, g2]
 ·simp [eqB, h1, ex, g2]
end Go.Am

namespace Go.Am
open Go.Proofs

set_option maxRecDepth 100000
theorem zb0 {body : (Exit -> Tm -> H -> Prop) -> Tm -> H -> Prop} {Q : Exit -> Tm -> H -> Prop} {t : Tm} {h : H} {id : Nat} (J : Tm -> H -> Prop) (ha : ∀ R : Exit -> Tm -> H -> Prop, (∀ t' h', J t' h' -> R .normal t' h') -> zgf body (zcV id R) t h) (k : ∀ t' h', J t' h' -> Q .normal t' h') : zgf body (zcV id Q) t h := ha Q k
theorem zmm {P : Program} {K : Tm -> H -> Prop} {ops : List SI} {t : Tm} {h : H} (J : Tm -> H -> Prop) (ha : ∀ K' : Tm -> H -> Prop, (∀ t' h', J t' h' -> K' t' h') -> Swp P K' ops t h) (k : ∀ t' h', J t' h' -> K t' h') : Swp P K ops t h := ha K k
theorem LfP.len {h : H} {R : Nat -> Prop} {v : V} {L : List Chg} {es : List (List V)} (s : LfP h R v L es) (g : Nat -> Option O) : lenV 1 g v = some (.int .i64 (L.length : Nat)) := by
 rw [<- s.at'.1]
 rcases s.fc with ⟨rfl, rfl | ⟨k, rfl⟩⟩ | ⟨_, j, _, _, rfl, _⟩ <;> simp [lenV]
theorem LfP.ones {h : H} {R : Nat -> Prop} {v : V} {L : List Chg} {es : List (List V)} (s : LfP h R v L es) : ∀ e ∈ es, e.all V.one = true := fun e he => by
 obtain ⟨c, _, f⟩ := s.at'.mem e he
 exact f.at.ones
theorem zfa {h : H} {R : Nat -> Prop} {v : V} {L : List Chg} {es : List (List V)} {c : Chg} {vp vc vx vl vk : V} (l : LfP h R v L es) (hR : ∀ j, h.next ≤ j -> R j) (rs : Rise cmpC L) (A : AttAt h.get c.att vp vc vx vl vk) (z : AttSz c.att) (hc : c.n.p.addr.length < 9223372036854775808) (hl : L.length ≤ 1000000) {Q : V -> H -> Prop}
  (q : ∀ v' es' h', Ge h h' -> h'.WF -> LfP h' R v' (putC L c) es' -> Q v' h') : Acalls Tryz.prog 67 [v, .agg (chC c vp vc vx vl vk)] h Q := by
 refine zal Tryz.func67 S.a39c S.a39e (Nat.le_of_ble_eq_true rfl) fun wf => ?_; simp only [S.a39]
 obtain ⟨o1, o2, o3, o4, o5⟩ := A.one
 obtain ⟨h1, hh1⟩ : ∃ h1, h1 = h.push (.row (chC c vp vc vx vl vk)) := ⟨_, rfl⟩
 have g1 : Ge h h1 := by rw [hh1]; exact (Ge.refl _).push _
 have w1 : h1.WF := by rw [hh1]; exact wf.push _
 have c1 : zab h1.get h.next 23 = some (chC c vp vc vx vl vk) := by rw [hh1]; simp [chC]
 have n1 : h1.next = h.next + 1 := by rw [hh1]; simp
 have x1 : h1.get h.next = some (.row (chC c vp vc vx vl vk)) := by rw [hh1]; simp
 have l1 := l.ge g1
 have hcap := l.fc.cap
 have eL := l.at'.1
 have s1 : CsAt h1.get v L es := l1.ls.at (by omega)
 have A1 := A.ge wf g1
 have ord := fun (b : Chg) (wp wc wx wl wk : V) (p1 : wp.one = true) (p2 : wc.one = true) (p3 : wx.one = true) (p4 : wl.one = true) (p5 : wk.one = true) => zgu (h := h1) (a := c) (b := b) hc o1 o2 o3 o4 o5 p1 p2 p3 p4 p5
 have hlen := l1.len h1.get
 simp only [chC] at hh1 c1 x1
 simp [chC, o1, o2, o3, o4, o5]
 rw [<- hh1]
 simp [hlen]
 refine zb0 (id := 0) (fun t h' => (t 0 = v ∧ t 3 = .ptr h.next 23 0 ∧ t 5 = .int .i64 ((spot cmpC c L L.length : Nat) : Int)) ∧ h' = h1) (fun R hR => ?_) ?_
 ·refine zaj (fun i t h' => (t 0 = v ∧ t 3 = .ptr h.next 23 0 ∧ t 5 = .int .i64 ((L.length - i : Nat) : Int)) ∧ h' = h1 ∧ i ≤ L.length ∧ spot cmpC c L L.length = spot cmpC c L (L.length - i)) L.length ⟨by simp, rfl, by omega, rfl⟩ ?_
  rintro i t h' hi ⟨⟨t0, t3, t5⟩, rfl, hil, hsp⟩ K hK
  obtain ⟨k, hk⟩ : ∃ k, k = L.length - i := ⟨_, rfl⟩
  rw [<- hk] at t5 hsp
  simp
  refine zaL ?_
  by_cases h0 : 0 < k
  ·have h0' : (0 : Int) < (k : Int) := by omega
   have hkl : k - 1 < L.length := by omega
   have w1' : IntKind.i64.wrap ((k : Int) - 1) = ((k - 1 : Nat) : Int) := by rw [zah (by omega) (by omega)]; omega
   obtain ⟨p, qq, o, cs, wp, wc, wx, wl, wk, e1, e2, e3, e4, e5, B, _, _⟩ := s1.atG w1 hkl
   have e3' := e3 h' (Ge.refl _)
   obtain ⟨p1, p2, p3, p4, p5⟩ := B.one
   have od := ord L[k - 1] wp wc wx wl wk p1 p2 p3 p4 p5
   simp only [chC] at e5 od
   simp [t0, t3, t5, h0, w1', e1, e3', e4, e5, c1]
   refine zbf od ?_
   have sp : spot cmpC c L k = if cmpC c L[k - 1] < 0 then spot cmpC c L (k - 1) else k := by
    obtain ⟨m, rfl⟩ : ∃ m, k = m + 1 := ⟨k - 1, by omega⟩
    rw [spot, show L[m]? = some L[m] from List.getElem?_eq_getElem (by omega)]
    simp
   by_cases hlt : cmpC c L[k - 1] < 0
   ·simp [hlt, t5, w1']
    refine hK _ _ (by omega) ⟨by simp [t0, t3]; omega, rfl, by omega, ?_⟩
    rw [hsp, sp, if_pos hlt]; congr 1; omega
   ·simp [hlt]
    refine hR _ _ ⟨by simp [t0, t3, t5, hsp, sp, hlt], rfl⟩
  ·have k0 : k = 0 := by omega
   subst k0
   simp [t5]
   refine hR _ _ ⟨by simp [t0, t3, t5, hsp, spot], rfl⟩
 rintro t h' ⟨⟨t0, t3, t5⟩, rfl⟩
 obtain ⟨k, hk⟩ : ∃ k, k = spot cmpC c L L.length := ⟨_, rfl⟩
 have hkl := zhK (c := cmpC) c L L.length
 have hput := zk7 rs c hk
 rw [<- hk] at t5 hkl
 have ow := fun Q q => zgM (Q := Q) A1 z q
 simp only [attC] at ow
 simp [t3, c1]
 refine ow _ fun yp yc yx yl yk h2 g2 w2 F => ?_
 obtain ⟨f1, f2, f3, f4, f5⟩ := F.one
 have n2 := g2.1
 have x2 := (g2.2 h.next (by omega)).trans x1
 obtain ⟨h3, hh3⟩ : ∃ h3, h3 = h2.set h.next (.row (chC c yp yc yx yl yk)) := ⟨_, rfl⟩
 have c3 : zab h3.get h.next 23 = some (chC c yp yc yx yl yk) := (zag (n := 23) (show h3.get h.next = some (.row (chC c yp yc yx yl yk)) by rw [hh3]; simp) rfl).trans rfl
 have n3 : h3.next = h2.next := by rw [hh3]; simp
 have w3 : h3.WF := by rw [hh3]; exact w2.set (by omega) _
 have k3 : ∀ j, j ≠ h.next -> h3.get j = h2.get j := fun j hj => by rw [hh3, H.get_set, if_neg hj]
 have g3 : Ge h h3 := by rw [hh3]; exact (g1.trans g2).set (Nat.le_refl _) _
 have l3 := l.ge g3
 have s3 : CsAt h3.get v L es := l3.ls.at (by omega)
 have F3 : AttP h3 R c.att yp yc yx yl yk := (F.p.keep (by omega) fun j s cs hj _ e => (k3 j (by omega)).trans e).mono fun j _ hj => hR j (by omega)
 have ord3 := fun (b : Chg) (wp wc wx wl wk : V) (p1 : wp.one = true) (p2 : wc.one = true) (p3 : wx.one = true) (p4 : wl.one = true) (p5 : wk.one = true) => zgu (h := h3) (a := c) (b := b) hc f1 f2 f3 f4 f5 p1 p2 p3 p4 p5
 simp only [chC] at hh3 c3
 simp [x2, f1, f2, f3, f4, f5, t3]
 rw [<- hh3]
 refine zaL ?_
 obtain ⟨hit, hhit⟩ : ∃ b : Bool, b = (decide (0 < k) && hitB c L[k - 1]?) := ⟨_, rfl⟩
 have hit_iff : (0 < k ∧ hitB c L[k - 1]? = true) ↔ hit = true := by rw [hhit]; simp
 refine zmm (fun t' g => (t' 0 = v ∧ t' 3 = .ptr h.next 23 0 ∧ t' 5 = .int .i64 (k : Nat) ∧ t' 6 = .nilsl ∧ t' 38 = .bool hit) ∧ g = h3) (fun K' hK' => ?_) ?_
 ·by_cases h0 : 0 < k
  ·have hkl1 : k - 1 < L.length := by omega
   have w1' : IntKind.i64.wrap ((k : Int) - 1) = ((k - 1 : Nat) : Int) := by rw [zah (by omega) (by omega)]; omega
   obtain ⟨p, qq, o, cs, wp, wc, wx, wl, wk, e1, e2, e3, e4, e5, B, _, _⟩ := s3.atG w3 hkl1
   have e3' := e3 h3 (Ge.refl _)
   obtain ⟨p1, p2, p3, p4, p5⟩ := B.one
   have od := ord3 L[k - 1] wp wc wx wl wk p1 p2 p3 p4 p5
   have hg : L[k - 1]? = some L[k - 1] := List.getElem?_eq_getElem hkl1
   rw [hg] at hhit
   simp only [h0, decide_true, Bool.true_and, hitB] at hhit
   simp only [chC] at e5 od
   simp [t0, t3, t5, h0, w1', e1, e3', e4, e5, c3]
   refine zbf od ?_
   simp
   refine hK' _ _ ⟨by simp [t0, t3, t5, hhit, bq], rfl⟩
  ·have k0 : k = 0 := by omega
   subst k0
   simp at hhit
   simp [t5]
   exact hK' _ _ ⟨by simp [t0, t3, t5, hhit], rfl⟩
 rintro t2 g ⟨⟨u0, u3, u5, u6, u38⟩, hgg⟩
 subst hgg
 simp [u38]
 -- what is taken from the front
 obtain ⟨a, ha⟩ : ∃ a, a = if hit = true then k - 1 else k := ⟨_, rfl⟩
 have hput2 : putC L c = L.take a ++ c :: L.drop k := by
  rw [hput, ha]
  cases hb : hit with
  | true => rw [if_pos (hit_iff.2 hb), if_pos rfl]
  | false => rw [if_neg (fun e => by rw [hit_iff, hb] at e; cases e), if_neg (by simp)]
 have hal : a ≤ L.length := by rw [ha]; split <;> omega
 have lens : ∀ m : List (List V), (∀ e ∈ m, e ∈ es) -> ∀ e ∈ m, e.length = 23 := fun m hm e he => l.ls.lens e (hm e he)
 have onesM : ∀ m : List (List V), (∀ e ∈ m, e ∈ es) -> ∀ e ∈ m, e.all V.one = true := fun m hm e he => l.ones e (hm e he)
 obtain ⟨va, ea, sa, _⟩ := s3.sls.take hcap (k := a) (by omega) .i64
 obtain ⟨v1, d1, y1, gl1, ge1, z1⟩ := zmR (bytes := 240) sa (onesM _ fun e he => List.mem_of_mem_take he) (by decide) (by simp; omega)
 obtain ⟨h4, hh4⟩ : ∃ h4, h4 = g.app d1 := ⟨_, rfl⟩
 rw [<- hh4] at gl1 ge1 z1
 have w4 := z1 w3
 have hop : ∀ d : Int, d = (a : Int) -> True := fun _ _ => trivial
 refine ziM (fun t' g' => (t' 0 = v ∧ t' 3 = .ptr h.next 23 0 ∧ t' 5 = .int .i64 (k : Nat) ∧ t' 6 = v1) ∧ g' = h4) (fun e R' hR' => ?_) (fun e R' hR' => ?_) ?_
 ·rw [e, if_pos rfl] at ha
  have h0 : 0 < k := by have := hit_iff.2 e; exact this.1
  have w1' : IntKind.i64.wrap ((k : Int) - 1) = (a : Int) := by rw [zah (by omega) (by omega)]; omega
  simp [u0, u5, u6, w1', ea, y1, <- hh4]
  exact hR' _ _ ⟨by simp [u0, u3, u5], rfl⟩
 ·rw [e, if_neg (by simp)] at ha
  rw [ha] at ea
  simp [u0, u5, u6, ea, y1, <- hh4]
  exact hR' _ _ ⟨by simp [u0, u3, u5], rfl⟩
 rintro t3' h5' ⟨⟨m0, m3, m5, m6⟩, rfl⟩
 have n4 := ge1.1
 have c4 : zab h5'.get h.next 23 = some (chC c yp yc yx yl yk) := by rw [ge1.cells (by omega)]; simpa [chC] using c3
 obtain ⟨v2, d2, y2, gl2, m2, k2, z2, _⟩ := zcm (bytes := 240) (chC c yp yc yx yl yk) gl1 ge1.1 (lens _ fun e he => List.mem_of_mem_take he) rfl (by simp [chC, f1, f2, f3, f4, f5]) (by decide) (by simp; omega) (by simp; omega)
 obtain ⟨h6, hh6⟩ : ∃ h6, h6 = (h5'.push (.row (chC c yp yc yx yl yk))).app d2 := ⟨_, rfl⟩
 rw [<- hh6] at gl2 m2 k2 z2
 simp only [chC] at y2 hh6 c4
 simp [m3, m6, c4, f1, f2, f3, f4, f5, y2, <- hh6]
 have ge6 : Ge g h6 := ⟨by omega, fun i hi => by
  rw [k2 i (fun hm => by have := (gl1.lo i hm).1; omega) (by omega), ge1.2 i hi]⟩
 have w6 := z2 w4
 obtain ⟨vb, eb, sb, _⟩ := (s3.sls.ge w3 ge6).drop hcap (k := k) (by omega) .i64
 obtain ⟨v3, d3, y3, gl3, m3', k3', z3, _⟩ := gl2.appends (bytes := 240) (by have := ge6.1; omega) (fun e he => by
  rcases List.mem_append.1 he with he | he
  ·exact lens _ (fun e he => List.mem_of_mem_take he) e he
  ·rw [List.mem_singleton] at he; subst he; rfl) sb (onesM _ fun e he => List.mem_of_mem_drop he) (by decide) (by simp; omega) (by simp; omega)
 simp [m0, m5, eb, y3]
 obtain ⟨h7, hh7⟩ : ∃ h7, h7 = h6.app d3 := ⟨_, rfl⟩
 rw [<- hh7] at gl3 m3' k3' z3 ⊢
 have ge7 : Ge g h7 := ⟨by have := ge6.1; omega, fun i hi => by
  rw [k3' i (fun hm => by have := (gl2.lo i hm).1; omega) (by have := ge6.1; omega), ge6.2 i hi]⟩
 have hch : ChP h7 R c (chC c yp yc yx yl yk) := ⟨yp, yc, yx, yl, yk, rfl, F3.ge ge7⟩
 refine q _ (es.take a ++ [chC c yp yc yx yl yk] ++ es.drop k) h7 (g3.trans ge7) (z3 w6) ⟨gl3.fr.p.mono fun j _ hj => hR j (by omega), ?_⟩
 rw [hput2, show L.take a ++ c :: L.drop k = L.take a ++ [c] ++ L.drop k by simp]
 have at7 : AtR (ChP h7 R) L es := (l3.ge ge7).at'
 exact ((at7.take a).append (AtR.single hch)).append (at7.drop k)
end Go.Am

namespace Go.Am
open Go.Proofs

set_option maxRecDepth 100000
theorem CsAt.take {g : Nat -> Option O} {v : V} {L : List Chg} {es : List (List V)} (s : CsAt g v L es) (c : zcb v) {k : Nat} (hk : k ≤ L.length) (kd : IntKind) :
  ∃ v', zaB 23 none (some (.int kd (k : Int))) none v = some v' ∧ CsAt g v' (L.take k) (es.take k) := by
 obtain ⟨v', e, s', _⟩ := s.sls.take c (k := k) (by rw [s.len]; exact hk) kd
 refine ⟨v', e, s', by simp [s.len], fun i c hi => ?_⟩
 rw [List.getElem?_take] at hi ⊢
 split at hi
 ·rename_i h
  rw [if_pos h]; exact s.at' i c hi
 ·cases hi
theorem zg6 {h : H} {v : V} {L : List Chg} {es : List (List V)} (s : CsAt h.get v L es) (z : ∀ c ∈ L, AttSz c.att) (hl : L.length ≤ 1000000) {Q : V -> H -> Prop}
  (q : ∀ w fs h', Ge h h' -> h'.WF -> LfP h' (fun j => h.next ≤ j) w L fs -> Q w h') : Acalls Tryz.prog 24 [v] h Q := by
 refine zal Tryz.func24 S.a12c S.a12e (Nat.le_of_ble_eq_true rfl) fun wf => ?_; simp only [S.a12]
 have hlen := s.sls.len
 rw [s.len] at hlen
 simp
 refine zaj (fun i t h' => ∃ w fs, (t 0 = v ∧ t 3 = w ∧ t 4 = .int .i64 (i : Nat)) ∧ Ge h h' ∧ h'.WF ∧ Gl h' h.next 23 w fs ∧ AtR (ChP h' fun j => h.next ≤ j) (L.take i) fs) L.length ⟨.nilsl, [], by simp, Ge.refl _, wf, Gl.nil _ _ _, AtR.nil _⟩ ?_
 rintro i t h' hi ⟨w, fs, ⟨t0, t3, t4⟩, gb, wb, gl, ar⟩ K hK
 have sb := s.ge wf gb
 replace hlen := sb.sls.len
 rw [sb.len] at hlen
 have nb := gb.1
 by_cases hlt : i < L.length
 ·have hw := zak hlt (by omega : L.length < 9223372036854775808)
  obtain ⟨p, qq, o, cs, vp, vc, vx, vl, vk, e1, e2, e3, e4, e5, B, _, _⟩ := sb.atG wb hlt
  have e3' := e3 h' (Ge.refl _)
  obtain ⟨c, hc⟩ : ∃ c, c = L[i] := ⟨_, rfl⟩
  rw [<- hc] at e5 B
  have zc : AttSz c.att := by rw [hc]; exact z _ (List.getElem_mem hlt)
  obtain ⟨o1, o2, o3, o4, o5⟩ := B.one
  obtain ⟨h1, hh1⟩ : ∃ h1, h1 = h'.push (.row (chC c vp vc vx vl vk)) := ⟨_, rfl⟩
  have g1 : Ge h' h1 := by rw [hh1]; exact (Ge.refl _).push _
  have w1 : h1.WF := by rw [hh1]; exact wb.push _
  have n1 : h1.next = h'.next + 1 := by rw [hh1]; simp
  have x1 : h1.get h'.next = some (.row (chC c vp vc vx vl vk)) := by rw [hh1]; simp
  have c1 : zab h1.get h'.next 23 = some (chC c vp vc vx vl vk) := (zag (n := 23) x1 rfl).trans rfl
  have ow := fun Q q => zgM (Q := Q) (B.ge wb g1) zc q
  simp only [attC] at ow
  simp only [chC] at e5 hh1 x1 c1
  simp [t0, t4, hlen, hlt, e1, e3', e4, e5, o1, o2, o3, o4, o5]
  rw [zaA _ _ _ rfl, <- hh1]
  refine ow _ fun yp yc yx yl yk h2 g2 w2 F => ?_
  obtain ⟨f1, f2, f3, f4, f5⟩ := F.one
  have n2 := g2.1
  have x2 := (g2.2 h'.next (by omega)).trans x1
  obtain ⟨h3, hh3⟩ : ∃ h3, h3 = h2.set h'.next (.row (chC c yp yc yx yl yk)) := ⟨_, rfl⟩
  have c3 : zab h3.get h'.next 23 = some (chC c yp yc yx yl yk) := (zag (n := 23) (show h3.get h'.next = some (.row (chC c yp yc yx yl yk)) by rw [hh3]; simp) rfl).trans rfl
  have n3 : h3.next = h2.next := by rw [hh3]; simp
  have w3 : h3.WF := by rw [hh3]; exact w2.set (by omega) _
  have k3 : ∀ j, j ≠ h'.next -> h3.get j = h2.get j := fun j hj => by rw [hh3, H.get_set, if_neg hj]
  have g3 : Ge h' h3 := by rw [hh3]; exact (g1.trans g2).set (Nat.le_refl _) _
  have F3 : AttP h3 (fun j => h.next ≤ j) c.att yp yc yx yl yk := (F.p.keep (by omega) fun j s cs hj _ e => (k3 j (by omega)).trans e).mono fun j _ hj => by omega
  have gl3 : Gl h3 h.next 23 w fs := gl.keep g3.1 fun j hj => g3.2 j (gl.lo j hj).2
  have fl : fs.length = i := by rw [ar.1, List.length_take]; omega
  have f23 : ∀ e ∈ fs, e.length = 23 := fun e he => by obtain ⟨_, _, f⟩ := ar.mem e he; exact f.at.len
  obtain ⟨v', d, ea, gl5, n5, k5, w5, _⟩ := zcm (bytes := 240) (chC c yp yc yx yl yk) gl3 (by omega) f23 rfl (by simp [chC, f1, f2, f3, f4, f5]) (by decide) (by omega) (by omega)
  obtain ⟨h5, hh5⟩ : ∃ h5, h5 = (h3.push (.row (chC c yp yc yx yl yk))).app d := ⟨_, rfl⟩
  rw [<- hh5] at gl5 n5 k5 w5
  rw [n3] at ea
  simp only [chC] at hh3 c3 ea hh5
  simp [x2, f1, f2, f3, f4, f5]
  rw [<- hh3]
  simp [t3, t4, ea, <- hh5, hw]
  have kp : ∀ x, x ∉ w.ids -> x < h3.next -> h5.get x = h3.get x := k5
  have g5 : Ge h h5 := ⟨by omega, fun x hx => by
   rw [kp x (fun hv => by have := (gl.lo x hv).1; omega) (by omega), g3.2 x (by omega)]; exact gb.2 x hx⟩
  have kch : ∀ {c : Chg} {e : List V}, ChP h3 (fun j => h.next ≤ j) c e -> ChP h5 (fun j => h.next ≤ j) c e := fun f => f.keep3 n5 fun j sz cs h3s _ hj e => by
   by_cases hv : j ∈ w.ids
   ·rcases gl3 with ⟨_, rfl⟩ | ⟨hne, j2, a1, a2, rfl, a3⟩
    ·simp [V.ids] at hv
    ·simp [V.ids] at hv
     subst hv
     rw [a3] at e
     cases e
     omega
   ·rw [kp j hv hj]; exact e
  refine hK _ _ hlt ?_
  refine ⟨v', fs ++ [chC c yp yc yx yl yk], by simp [t0], g5, w5 w3, gl5, ?_⟩
  rw [List.take_add_one, List.getElem?_eq_getElem hlt, <- hc]
  exact (ar.mono fun c e f => kch (f.ge g3)).append (AtR.single (kch ⟨yp, yc, yx, yl, yk, rfl, F3⟩))
 ·have hi2 : i = L.length := by omega
  subst hi2
  rw [List.take_length] at ar
  simp [t0, t3, t4, hlen]
  exact q w fs h' gb wb ⟨gl.fr.p.mono fun j _ hj => hj.1, ar⟩
theorem zbD {h : H} {v w : V} {L M : List Chg} {es fs : List (List V)} (s : CsAt h.get v L es) (r : CsAt h.get w M fs) : Pure Tryz.prog 26 [v, w] h (.bool (decide (L = M))) := by
 refine zae Tryz.func26 S.a14c S.a14e rfl (Nat.le_of_ble_eq_true rfl) fun wf => ?_; simp only [S.a14]
 have l1 := s.sls.len
 have l2 := r.sls.len
 have b1 := s.sls.bound
 rw [s.len] at l1 b1
 rw [r.len] at l2
 by_cases hl : L.length = M.length
 ·have bl : (((L.length : Nat) : Int) != ((M.length : Nat) : Int)) = false := by rw [hl]; simp
  simp [l1, l2, bl]
  refine zaj (fun i t h' => (t 0 = v ∧ t 1 = w ∧ t 5 = .int .i64 (i : Nat)) ∧ h' = h ∧ L.take i = M.take i) L.length ⟨by simp, rfl, by simp⟩ ?_
  rintro i t h' hi ⟨⟨t0, t1, t5⟩, rfl, htk⟩ K hK
  by_cases hlt : i < L.length
  ·have hw := zak hlt b1
   obtain ⟨p, qq, o, cs, vp, vc, vx, vl, vk, e1, e2, e3, e4, e5, A, _, _⟩ := s.atG wf hlt
   obtain ⟨p', qq', o', cs', wp, wc, wx, wl, wk, e1', e2', e3', e4', e5', B, _, _⟩ := r.atG wf (k := i) (by omega)
   have rs := zm3 A B
   have y1 := e3 h' (Ge.refl _)
   have y2 := e3' h' (Ge.refl _)
   have tk1 : L.take (i + 1) = L.take i ++ [L[i]] := by rw [List.take_add_one, List.getElem?_eq_getElem hlt]; rfl
   have tk2 : M.take (i + 1) = M.take i ++ [M[i]'(by omega)] := by rw [List.take_add_one, List.getElem?_eq_getElem (by omega)]; rfl
   simp [t0, t5, l1, hlt]
   refine zaL ?_
   simp [t0, t1, t5, e1, e1', y1, y2, e4, e4', e5, e5']
   refine zbf rs ?_
   cases hx : decide (L[i] = M[i]'(by omega)) with
   | true =>
    have hx' := of_decide_eq_true hx
    simp [t5, hw]
    refine hK _ _ hlt ⟨by simp [t0, t1], rfl, by rw [tk1, tk2, htk, hx']⟩
   | false =>
    have hx' := of_decide_eq_false hx
    have : L ≠ M := fun e => by subst e; exact hx' rfl
    simp [this]
  ·have hi2 : i = L.length := by omega
   have : L = M := by rw [hi2, List.take_length, hl, List.take_length] at htk; exact htk
   have hlt2 : ¬ i < M.length := by omega
   simp [t0, t5, l1, hlt2, this]
 ·have bl : (((L.length : Nat) : Int) != ((M.length : Nat) : Int)) = true := by simp; omega
  have : L ≠ M := fun e => hl (by rw [e])
  simp [l1, l2, bl, this]
end Go.Am

namespace Go.Am
open Go.Proofs

set_option maxRecDepth 100000
theorem ziT : ∀ (L : List Chg) {g : H}, g.WF -> (∀ c ∈ L, AttSz c.att) -> ∃ (es : List (List V)) (g' : H), Ge g g' ∧ g'.WF ∧ AtR (ChP g' fun j => g.next ≤ j) L es
 | [], g, w, _ => ⟨[], g, Ge.refl _, w, AtR.nil _⟩
 | c :: L, g, w, z => by
  obtain ⟨yp, yc, yx, yl, yk, g1, a1, b1, f1⟩ := ziz w (z c (by simp))
  obtain ⟨es, g2, a2, b2, f2⟩ := ziT L b1 fun x hx => z x (by simp [hx])
  refine ⟨chC c yp yc yx yl yk :: es, g2, a1.trans a2, b2, ?_⟩
  have h1 : ChP g2 (fun j => g.next ≤ j) c (chC c yp yc yx yl yk) := ⟨yp, yc, yx, yl, yk, rfl, (f1.p.ge a2).mono fun j _ hj => hj.1⟩
  exact (AtR.single h1).append (f2.mono fun c e f => f.mono fun j _ hj => by have := a1.1; omega)
theorem zhM {g : H} (w : g.WF) {L : List Chg} (z : ∀ c ∈ L, AttSz c.att) : ∃ v es g', Ge g g' ∧ g'.WF ∧ LfP g' (fun j => g.next ≤ j) v L es := by
 obtain ⟨es, g1, a1, b1, f1⟩ := ziT L w z
 obtain ⟨v, g2, a2, b2, f2⟩ := zdG b1 (sz := 23) es
 refine ⟨v, es, g2, a1.trans a2, b2, f2.fr.p.mono fun j _ hj => by have := a1.1; omega, f1.mono fun c e f => f.ge a2⟩
theorem LfP.szs {h : H} {R : Nat -> Prop} {v : V} {L : List Chg} {es : List (List V)} (l : LfP h R v L es) : ∀ c ∈ L, AttSz c.att := fun c hc => by
 obtain ⟨i, hi, rfl⟩ := List.mem_iff_getElem.1 hc
 obtain ⟨e, _, f⟩ := l.at'.2 i _ (List.getElem?_eq_getElem hi)
 exact f.sz
end Go.Am

namespace Go.Am
open Go.Proofs

set_option maxRecDepth 100000
end Go.Am

namespace Go.Am
open Go.Proofs

set_option maxRecDepth 100000
structure Sp (R : Nat -> Prop) (h h' : H) : Prop where
 next : h'.next = h.next
 wf : h'.WF
 get : ∀ j, h'.get j = h.get j ∨ (R j ∧ ∃ cs cs', h.get j = some (.grow 1 cs) ∧ h'.get j = some (.grow 1 cs') ∧ cs'.length = cs.length)
theorem Sp.refl {R : Nat -> Prop} {h : H} (w : h.WF) : Sp R h h := ⟨rfl, w, fun _ => .inl rfl⟩
theorem Sp.out {R : Nat -> Prop} {h h' : H} (s : Sp R h h') {j : Nat} (hj : ¬ R j) : h'.get j = h.get j := by
 rcases s.get j with e | ⟨r, _⟩
 ·exact e
 ·exact absurd r hj
theorem Sp.row {R : Nat -> Prop} {h h' : H} (s : Sp R h h') {j : Nat} {o : O} (e : h.get j = some o) (ho : ∀ cs, o ≠ .grow 1 cs) : h'.get j = some o := by
 rcases s.get j with e2 | ⟨_, cs, _, e2, _⟩
 ·exact e2.trans e
 ·rw [e] at e2; cases e2; exact absurd rfl (ho cs)
theorem Sp.grow {R : Nat -> Prop} {h h' : H} (s : Sp R h h') {j : Nat} {cs : List V} (e : h.get j = some (.grow 1 cs)) : ∃ cs', h'.get j = some (.grow 1 cs') ∧ cs'.length = cs.length := by
 rcases s.get j with e2 | ⟨_, cs0, cs', e2, e3, e4⟩
 ·exact ⟨cs, e2.trans e, rfl⟩
 ·rw [e] at e2; cases e2; exact ⟨cs', e3, e4⟩
theorem Sp.set {R : Nat -> Prop} {h h' : H} (s : Sp R h h') {j : Nat} {cs cs2 : List V} (r : R j) (e : h'.get j = some (.grow 1 cs)) (hl : cs2.length = cs.length) : Sp R h (h'.set j (.grow 1 cs2)) := by
 refine ⟨by simpa using s.next, s.wf.set (s.wf.lt e) _, fun k => ?_⟩
 rw [H.get_set]
 by_cases hk : k = j
 ·subst hk
  rw [if_pos rfl]
  right
  refine ⟨r, ?_⟩
  rcases s.get k with e2 | ⟨_, c0, c1, e2, e3, e4⟩
  ·exact ⟨cs, cs2, e2.symm.trans e, rfl, hl⟩
  ·rw [e] at e3; cases e3
   exact ⟨c0, cs2, e2, rfl, hl.trans e4⟩
 ·rw [if_neg hk]; exact s.get k
theorem Sp.mono {R R' : Nat -> Prop} {h h' : H} (s : Sp R h h') (k : ∀ j, R j -> R' j) : Sp R' h h' := ⟨s.next, s.wf, fun j => (s.get j).imp id fun ⟨r, x⟩ => ⟨k j r, x⟩⟩
theorem RwP.at {h : H} {R : Nat -> Prop} {v : V} {es : List (List V)} (f : RwP h R 23 v es) (hs : ∀ e ∈ es, e.length = 23) {k : Nat} (hk : k < es.length) :
  ∃ j n o, (∀ kd, zaH 23 v (.int kd (k : Int)) = some (.ptr j n (k * 23))) ∧ h.get j = some o ∧ (∀ cs, o ≠ .grow 1 cs) ∧ o.len = n ∧ k * 23 + 23 ≤ n ∧ ∀ i, i < 23 -> o.cells[k * 23 + i]? = es[k][i]? := by
 have hl := zau hs
 rcases f with ⟨rfl, _⟩ | ⟨hne, j, ca, o, _, b, rfl, d, e⟩
 ·simp at hk
 ·have hm : k * 23 + 23 ≤ es.length * 23 := by omega
  have oc : o.cells = es.flatten := by rcases e with rfl | rfl <;> rfl
  refine ⟨j, es.flatten.length, o, fun kd => ?_, d, by rcases e with rfl | rfl <;> simp, by rcases e with rfl | rfl <;> simp, by omega, fun i hi => ?_⟩
  ·simp only [zbU, Int.toNat_natCast]
   rw [if_pos ⟨by omega, by omega⟩]; simp
  ·have := zeh hs hk
   rw [oc, <- this, List.getElem?_take, if_pos hi, List.getElem?_drop]
theorem LfP.sp {h h' : H} {R R' : Nat -> Prop} {v : V} {L : List Chg} {es : List (List V)} (l : LfP h R v L es) (s : Sp R' h h') (k : ∀ j, R j -> ¬ R' j) : LfP h' R v L es :=
 l.keep (by rw [s.next]; exact Nat.le_refl _) fun j hj _ => s.out (k j hj)
theorem LsP.sp {h h' : H} {R R' : Nat -> Prop} {v : V} {L : List Chg} {es : List (List V)} (l : LsP h R v L es) (s : Sp R' h h') (k : ∀ j, R j -> ¬ R' j) : LsP h' R v L es :=
 l.keep (by rw [s.next]; exact Nat.le_refl _) fun j hj _ => s.out (k j hj)
end Go.Am

namespace Go.Am
open Go.Proofs

set_option maxRecDepth 100000
structure OutAt (h : H) (R : Nat -> Prop) (p m : Nat) (D : List Chg) : Prop where
 row : h.get p = some (.row [.map m])
 held : HeldAt h R m D
theorem OutAt.lt {h : H} {R : Nat -> Prop} {p m : Nat} {D : List Chg} (x : OutAt h R p m D) (w : h.WF) : p < h.next ∧ m < h.next ∧ p ≠ m := by
 obtain ⟨es, bs, tk, L, a, _⟩ := x.held
 exact ⟨w.lt x.row, w.lt a, fun e => by subst e; rw [x.row] at a; cases a⟩
theorem OutAt.keep {h h' : H} {R : Nat -> Prop} {p m : Nat} {D : List Chg} (x : OutAt h R p m D) (hn : h.next ≤ h'.next) (hp : h'.get p = h.get p) (hm : h'.get m = h.get m) (k : ∀ j s cs, R j -> j < h.next -> h.get j = some (.grow s cs) -> h'.get j = some (.grow s cs)) : OutAt h' R p m D :=
 ⟨hp.trans x.row, x.held.keep hn hm k⟩
theorem OutAt.ge {h h' : H} {R : Nat -> Prop} {p m : Nat} {D : List Chg} (x : OutAt h R p m D) (w : h.WF) (g : Ge h h') : OutAt h' R p m D :=
 x.keep g.1 (g.2 _ (x.lt w).1) (g.2 _ (x.lt w).2.1) fun j _ _ _ hj e => (g.2 j hj).trans e
theorem OutAt.mono {h : H} {R R' : Nat -> Prop} {p m : Nat} {D : List Chg} (x : OutAt h R p m D) (k : ∀ j, j < h.next -> R j -> R' j) : OutAt h R' p m D := ⟨x.row, x.held.mono k⟩
theorem OutAt.cell {h : H} {R : Nat -> Prop} {p m : Nat} {D : List Chg} (x : OutAt h R p m D) : zab h.get p 1 = some [.map m] := (zag (n := 1) x.row rfl).trans rfl
theorem OutAt.len {h : H} {R : Nat -> Prop} {p m : Nat} {D : List Chg} (x : OutAt h R p m D) : lenV 2 h.get (.map m) = some (.int .i64 (D.length : Nat)) := x.held.len h.get rfl
theorem HeldAt.szs {h : H} {R : Nat -> Prop} {m : Nat} {D : List Chg} (x : HeldAt h R m D) : ∀ c ∈ D, AttSz c.att := fun c hc => by
 obtain ⟨es, bs, tk, L, _, _, a3, _, a5⟩ := x
 obtain ⟨i, hi, rfl⟩ := List.mem_iff_getElem.1 (a3.perm.mem_iff.2 hc)
 obtain ⟨e, _, f⟩ := a5 i _ (List.getElem?_eq_getElem hi)
 exact f.sz
theorem HeldAt.rise {h : H} {R : Nat -> Prop} {m : Nat} {D : List Chg} (x : HeldAt h R m D) : Rise cmpC D := by
 obtain ⟨es, bs, tk, L, _, _, a3, _, a5⟩ := x
 exact a3.rise
theorem zg7 (j n : Nat) : eqV TS.ptr (.ptr j n 0) .nilptr = some false := rfl
theorem zpj (m : Nat) : eqV TS.map (.map m) .nilmap = some false := rfl
theorem zeT {h : H} {R : Nat -> Prop} {p m : Nat} {D : List Chg} (x : OutAt h R p m D) : Pure Tryz.prog 43 [.ptr p 1 0] h (.bool false) := by
 refine zae Tryz.func43 S.a17c S.a17e rfl (Nat.le_of_ble_eq_true rfl) fun wf => ?_; simp only [S.a17]
 simp [zg7, zpj, x.cell]
theorem zhZ {h : H} {Q : V -> H -> Prop} (q : ∀ h', Ge h h' -> h'.WF -> OutAt h' (fun _ => True) (h.next + 1) h.next [] -> Q (.ptr (h.next + 1) 1 0) h') : Acalls Tryz.prog 11 [] h Q := by
 refine zal Tryz.func11 S.a1c S.a1e (Nat.le_of_ble_eq_true rfl) fun wf => ?_; simp only [S.a1]
 have mo : (V.map h.next).one = true := rfl
 simp
 have mo2 : (V.map h.next).cells = [V.map h.next] := rfl
 refine q _ (((Ge.refl _).push _).push _) ((wf.push _).push _) ⟨by simp [mo2], [], [], 0, [], by simp [show ¬ h.next = h.next + 1 by omega], MapB.nil _, ⟨List.Perm.refl _, List.Pairwise.nil⟩, rfl, by simp⟩
theorem zhD {h : H} {R : Nat -> Prop} {p m : Nat} {D : List Chg} (x : OutAt h R p m D) : Pure Tryz.prog 17 [.ptr p 1 0] h (.int .i64 (D.length : Nat)) := by
 refine zae Tryz.func17 S.a5c S.a5e rfl (Nat.le_of_ble_eq_true rfl) fun wf => ?_; simp only [S.a5]
 simp
 refine zeT x _ ?_
 simp [x.cell, x.len]
theorem zfm {h : H} {R : Nat -> Prop} {p m : Nat} {D : List Chg} (x : OutAt h R p m D) {Q : V -> H -> Prop} (q : ∀ h', But h h' p m -> h'.WF -> OutAt h' R p m [] -> Q (.int .i64 (D.length : Nat)) h') : Acalls Tryz.prog 20 [.ptr p 1 0] h Q := by
 refine zal Tryz.func20 S.a8c S.a8e (Nat.le_of_ble_eq_true rfl) fun wf => ?_; simp only [S.a8]
 obtain ⟨hp, hm, hpm⟩ := x.lt wf
 obtain ⟨es, bs, tk, L, a1, a2, a3, a4, a5⟩ := x.held
 simp
 refine zhD x _ ?_
 by_cases h0 : D = []
 ·subst h0
  simp
  exact q h (But.refl _ _ _) wf x
 ·have h1 : 0 < D.length := List.length_pos_iff.2 h0
  simp [h1, x.cell, a1, zbL]
  refine q _ ⟨by simp, fun k _ k1 k2 => by rw [H.get_set, if_neg k2]⟩ (wf.set hm _) ⟨by rw [H.get_set, if_neg hpm]; exact x.row, [], [], tk, [], by simp, MapB.nil _, ⟨List.Perm.refl _, List.Pairwise.nil⟩, rfl, by simp⟩
theorem ziI {h : H} {R : Nat -> Prop} {v : V} {L : List Chg} {es : List (List V)} (l : LfP h R v L es) (hk : zav L) (hl : L.length ≤ 1000000) {Q : V -> H -> Prop}
  (q : ∀ D es' h', Srt L D -> h'.next = h.next -> h'.WF -> (∀ j, ¬ R j -> h'.get j = h.get j) -> (∀ j s cs, s ≠ 23 -> h.get j = some (.grow s cs) -> h'.get j = some (.grow s cs)) -> LfP h' R v D es' -> Q v h') : Acalls Tryz.prog 49 [v] h Q := by
 refine zal Tryz.func49 S.a23c S.a23e (Nat.le_of_ble_eq_true rfl) fun wf => ?_; simp only [S.a23]
 simp
 by_cases h0 : L = []
 ·subst h0
  refine zrL (fun g => l.len g) _ ?_
  simp
  exact q [] es h ⟨List.Perm.refl _, List.Pairwise.nil⟩ rfl wf (fun _ _ => rfl) (fun _ _ _ _ e => e) l
 ·have hle := l.at'.1
  have hes : es ≠ [] := fun e => by rw [e] at hle; exact h0 (List.eq_nil_of_length_eq_zero hle.symm)
  have lfc := l.fc
  rcases lfc with ⟨e, _⟩ | ⟨hne, j, r, b, rfl, d⟩
  ·exact absurd e hes
  ·obtain ⟨z, hz⟩ : ∃ z, z = L.zip es := ⟨_, rfl⟩
   have zl : z.length = L.length := by rw [hz, List.length_zip, hle]; simp
   have z1 : z.map Prod.fst = L := by rw [hz]; exact List.map_fst_zip (by omega)
   have z2 : z.map Prod.snd = es := by rw [hz]; exact List.map_snd_zip (by omega)
   have zat : ∀ y ∈ z, ChP h R y.1 y.2 := fun y hy => by
    obtain ⟨k, hk, rfl⟩ := List.mem_iff_getElem.1 hy
    have b1 : (z.map Prod.fst)[k]? = some z[k].1 := by rw [List.getElem?_map, List.getElem?_eq_getElem hk]; rfl
    have b2 : (z.map Prod.snd)[k]? = some z[k].2 := by rw [List.getElem?_map, List.getElem?_eq_getElem hk]; rfl
    rw [z1] at b1
    rw [z2] at b2
    obtain ⟨e, e1, e2⟩ := l.at'.2 k _ b1
    rw [b2, Option.some.injEq] at e1
    rw [e1]; exact e2
   have fl : es.flatten.length = L.length * 23 := by rw [zau l.ls.lens, hle]
   have heL : ∀ y ∈ z, ∃ vp vc vx vl vk, y.2 = chC y.1 vp vc vx vl vk ∧ vp.one = true ∧ vc.one = true ∧ vx.one = true ∧ vl.one = true ∧ vk.one = true := fun y hy => by
    obtain ⟨vp, vc, vx, vl, vk, e, A⟩ := zat y hy
    obtain ⟨o1, o2, o3, o4, o5⟩ := A.one
    exact ⟨vp, vc, vx, vl, vk, e, o1, o2, o3, o4, o5⟩
   have hneL : z ≠ [] := fun e => by rw [e] at zl; simp at zl; exact h0 (List.eq_nil_of_length_eq_zero zl.symm)
   have hcm : ∀ (a b : Chg) (h' : H), Pure Tryz.prog 94 [.agg (chC a .any .any .any .any .any), .agg (chC b .any .any .any .any .any)] h' (.int .i64 (cmpC a b)) := fun a b h' => zmo rfl rfl rfl rfl rfl rfl rfl rfl rfl rfl
   have zl6 : z.length ≤ 1000000 := by omega
   have hcall : ∀ Q : V -> H -> Prop, (∀ l' : List (Chg × List V), l'.Perm z -> l'.Pairwise (fun x y => ¬ cmpC y.1 x.1 < 0) -> Q (.tup []) (h.set j (.grow 23 (l'.map Prod.snd).flatten))) -> Acalls Tryz.prog 78 [.sl j (z.length * 23) 0 z.length none, .func (.func 94) [] []] h Q := fun Q hQ =>
    zmc d (.inr (by rw [z2])) heL zl6 hneL (by kernel_rfl) hcm hQ
   rw [zl] at hcall
   rw [fl, hle]
   refine hcall _ fun l' hp hs => ?_
   simp
   have k1 : zav (l'.map Prod.fst) := by
    unfold zav at hk ⊢
    rw [<- z1] at hk
    exact ((hp.map Prod.fst).map zad).nodup_iff.2 hk
   have srt : Srt L (l'.map Prod.fst) := ⟨by rw [<- z1]; exact (hp.map Prod.fst).symm, zgC k1 (by rw [List.pairwise_map]; exact hs)⟩
   have ll' : l'.length = L.length := by rw [hp.length_eq, zl]
   have h23 : ∀ e ∈ l'.map Prod.snd, e.length = 23 := fun e he => by
    obtain ⟨y, hy, rfl⟩ := List.mem_map.1 he
    exact (zat y (hp.mem_iff.1 hy)).at.len
   have hfl' := zau h23
   rw [List.length_map, ll'] at hfl'
   have kk : ∀ i, i ≠ j -> (h.set j (.grow 23 (l'.map Prod.snd).flatten)).get i = h.get i := fun i hi => by rw [H.get_set, if_neg hi]
   have ks : ∀ i s cs, s ≠ 23 -> h.get i = some (.grow s cs) -> (h.set j (.grow 23 (l'.map Prod.snd).flatten)).get i = some (.grow s cs) := fun i s cs hs e => by
    rw [kk i (fun e2 => by subst e2; rw [d] at e; cases e; exact hs rfl)]; exact e
   rw [fl, hle] at q
   refine q (l'.map Prod.fst) (l'.map Prod.snd) _ srt (by simp) (wf.set b _) (fun i hi => kk i (fun e => hi (e ▸ r))) ks ⟨.inr ⟨fun e => ?_, j, r, by simpa using b, by rw [hfl', List.length_map, ll'], by simp⟩, by simp, fun i c hi => ?_⟩
   ·have h9 := congrArg List.length e
    rw [List.length_map, ll'] at h9
    exact h0 (List.eq_nil_of_length_eq_zero h9)
   ·rw [List.getElem?_map] at hi
    cases hlk : l'[i]? with
    | none => rw [hlk] at hi; cases hi
    | some y =>
     rw [hlk] at hi
     cases hi
     exact ⟨y.2, by rw [List.getElem?_map, hlk]; rfl, (zat y (hp.mem_iff.1 (List.mem_of_getElem? hlk))).keep3 (by simp) fun i s cs h3 _ _ e => ks i s cs (by omega) e⟩
end Go.Am

namespace Go.Am
open Go.Proofs

set_option maxRecDepth 100000
theorem zfI {P : Program} {f : FuncId} {args : List V} {h : H} {Q : V -> H -> Prop} (F : H -> Prop) (hF : F h) (k : ∀ h', F h' -> Acalls P f args h' Q) : Acalls P f args h Q := k h hF
theorem zc1 (g : H) (a b a' b' : O) {k k' : Nat} (hk : k = g.next) (hk' : k' = g.next + 1) : (((g.push a).push b).set k a').set k' b' = (g.push a').push b' := by
 subst hk hk'
 refine H.ext' (by simp) fun x => ?_
 simp only [H.get_set, H.get_push, H.next_push]
 by_cases h1 : x = g.next + 1
 ·simp [h1]
 ·by_cases h2 : x = g.next <;> simp [h1, h2]
def famB (fam : Int) (c : Chg) : Bool := decide (fam = 0) || decide (c.n.p.fam = fam)
def metL (L : List Chg) (dn : List Nat) : List Chg := dn.map fun i => L.getD i chg0
theorem zc2 {L : List Chg} {dn : List Nat} {i : Nat} {c : Chg} (h : L[i]? = some c) : metL L (dn ++ [i]) = metL L dn ++ [c] := by
 simp [metL, List.getD, h]
theorem zc6 {L : List Chg} {dn : List Nat} (h : dn.Perm (List.range L.length)) : (metL L dn).Perm L := zkB h rfl chg0
theorem zdU {L M : List Chg} (h : L.Sublist M) (k : zav M) : zav L := k.sublist (h.map zad)
theorem zdg {L M : List Chg} (h : L.Perm M) (k : zav M) : zav L := by
 unfold zav at k ⊢
 exact (h.map zad).nodup_iff.2 k
theorem za9 {D : List Chg} (f : Chg -> Bool) (r : Rise cmpC D) : Rise cmpC (D.filter f) := r.sublist List.filter_sublist
theorem ze5 {h : H} {R : Nat -> Prop} {p m : Nat} {D : List Chg} {fam : Int} (x : OutAt h R p m D) (hb : D.length ≤ 100000) {Q : V -> H -> Prop} (q : ∀ w es h', Ge h h' -> h'.WF -> LfP h' (fun j => h.next ≤ j) w (D.filter (famB fam)) es -> Q w h') : Acalls Tryz.prog 15 [.ptr p 1 0, .int .i64 fam] h Q := by
 refine zal Tryz.func15 S.a3c S.a3e (Nat.le_of_ble_eq_true rfl) fun wf => ?_; simp only [S.a3]
 obtain ⟨hp, hm, hpm⟩ := x.lt wf
 obtain ⟨es, bs, tk, L, a1, mb, srt, hl, hent⟩ := x.held
 have LD : L.length = D.length := srt.perm.length_eq
 simp
 refine zeT x _ ?_
 simp [x.cell]
 refine ⟨m, es, bs, tk, rfl, a1, ?_⟩
 simp
 obtain ⟨it, hit⟩ : ∃ it, it = h.next := ⟨_, rfl⟩
 obtain ⟨h1, hh1⟩ : ∃ h1, h1 = h.push (.miter m tk [] tk) := ⟨_, rfl⟩
 have g1 : Ge h h1 := by rw [hh1]; exact (Ge.refl _).push _
 have w1 : h1.WF := by rw [hh1]; exact wf.push _
 have n1 : h1.next = h.next + 1 := by rw [hh1]; simp
 rw [<- hh1, <- hit]
 refine zaj (fun k t h' => (t 0 = .ptr p 1 0 ∧ t 1 = .int .i64 fam ∧ t 14 = .ptr it 0 0) ∧ h'.WF ∧ (∀ j, j < h.next -> h'.get j = h.get j) ∧ h1.next ≤ h'.next ∧ ∃ w fs dn seen st, t 5 = w ∧ Vis bs seen dn ∧ dn.length = k ∧ h'.get it = some (.miter m tk seen st) ∧ Gl h' h1.next 23 w fs ∧ AtR (ChP h' fun j => h1.next ≤ j) ((metL L dn).filter (famB fam)) fs) bs.length
  ⟨by simp, w1, fun j hj => g1.2 j hj, Nat.le_refl _, .nilsl, [], [], [], tk, by simp, Vis.nil _, rfl, by rw [hh1, hit]; simp, Gl.nil _ _ _, AtR.nil _⟩ ?_
 rintro k t h' hk ⟨⟨t0, t1, t14⟩, wb, kb, nb, w, fs, dn, seen, st, t5, vis, hdn, hi, gl, ar⟩ K hK
 have hm' : h'.get m = some (.mapo es bs tk) := (kb m hm).trans a1
 have gh' : Ge h h' := ⟨by omega, kb⟩
 have ow := gl.one
 simp [t14]
 refine ⟨it, m, tk, seen, st, es, bs, rfl, hi, hm', fun i e b' he hb' hbs => ?_, fun hall => ?_⟩
 ·simp [t14]
  obtain ⟨h2, hh2⟩ : ∃ h2, h2 = h'.set it (.miter m tk (seen ++ [b']) tk) := ⟨_, rfl⟩
  have n2 : h2.next = h'.next := by rw [hh2]; simp
  have w2 : h2.WF := by rw [hh2]; exact wb.set (by omega) _
  have k2 : ∀ j, j ≠ it -> h2.get j = h'.get j := fun j hj => by rw [hh2, H.get_set, if_neg hj]
  have i2 : h2.get it = some (.miter m tk (seen ++ [b']) tk) := by rw [hh2]; simp
  refine ⟨it, m, tk, tk, seen, b', es, bs, i, e, rfl, by simp, by simp [show ¬ m = it by omega, hm'], he, hb', ?_⟩
  have v2 := vis.snoc hb' hbs
  have hlen : dn.length < bs.length := by have := v2.le; simp at this; omega
  have hil : i < L.length := by rw [<- hl]; exact (List.getElem?_eq_some_iff.1 he).1
  obtain ⟨c, hc⟩ : ∃ c, c = L[i] := ⟨_, rfl⟩
  have hci : L[i]? = some c := by rw [hc]; exact List.getElem?_eq_getElem hil
  obtain ⟨e', he', vp, vc, vx, vl, vk, hee, A⟩ := hent i c hci
  rw [he, Option.some.injEq] at he'
  subst hee
  obtain ⟨o1, o2, o3, o4, o5⟩ := A.one
  have zc := A.sz
  have gl2 : Gl h2 h1.next 23 w fs := gl.keep (by omega) fun j hj => k2 j (by have := gl.lo j hj; omega)
  have fl : fs.length ≤ D.length := by
   rw [ar.1]
   refine Nat.le_trans (List.length_filter_le _ _) ?_
   simp only [metL, List.length_map]
   have := vis.le
   rw [mb.len, hl] at this
   omega
  have met := zc2 (dn := dn) hci
  have ar2 : AtR (ChP h2 fun j => h1.next ≤ j) ((metL L dn).filter (famB fam)) fs := ar.mono fun c e f => f.keep (by omega) fun j s cs _ _ e => by rw [k2 j (fun e2 => by subst e2; rw [hi] at e; cases e)]; exact e
  have b2 : ∀ j, j < h.next -> h2.get j = h.get j := fun j hj => by rw [k2 j (by omega)]; exact kb j hj
  rw [<- hh2, he']
  have ap2 : ∀ G : H, (∀ j, j < h.next -> G.get j = h.get j) -> h.next ≤ G.next -> AttAt G.get c.att vp vc vx vl vk := fun G hG hn => A.at.ge wf ⟨hn, hG⟩
  simp only [chC, kyV]
  simp [zad, o1, o2, o3, o4, o5]
  rw [zc1 _ _ _ _ _ rfl rfl]
  obtain ⟨h3, hh3⟩ : ∃ h3, h3 = (h2.push (.row [.int .i64 c.n.p.fam, .int .u64 (c.n.p.rd : Nat), .str c.n.p.addr, .int .i64 c.n.p.len, .int .u32 (c.n.id : Nat)])).push (.row (chC c vp vc vx vl vk)) := ⟨_, rfl⟩
  have g3 : Ge h2 h3 := by rw [hh3]; exact ((Ge.refl _).push _).push _
  have w3 : h3.WF := by rw [hh3]; exact (w2.push _).push _
  have n3 : h3.next = h2.next + 2 := by rw [hh3]; simp
  have c6 : zab h3.get h2.next 5 = some [.int .i64 c.n.p.fam, .int .u64 (c.n.p.rd : Nat), .str c.n.p.addr, .int .i64 c.n.p.len, .int .u32 (c.n.id : Nat)] := by rw [hh3]; simp
  have c7 : zab h3.get (h2.next + 1) 23 = some (chC c vp vc vx vl vk) := by rw [hh3]; simp [chC]
  have i3 : h3.get it = some (.miter m tk (seen ++ [b']) tk) := (g3.2 it (by omega)).trans i2
  have gl3 : Gl h3 h1.next 23 w fs := gl2.keep (by omega) fun j hj => g3.2 j (gl2.lo j hj).2
  have ar3 : AtR (ChP h3 fun j => h1.next ≤ j) ((metL L dn).filter (famB fam)) fs := ar2.mono fun _ _ f => f.ge g3
  have b3 : ∀ j, j < h.next -> h3.get j = h.get j := fun j hj => by rw [g3.2 j (by omega)]; exact b2 j hj
  have A3 := ap2 h3 b3 (by omega)
  have ow3 := fun Q q => zfV (Q := Q) A3 zc q
  simp only [chC] at hh3 c7 ow3
  rw [<- hh3]
  obtain ⟨bb, hbb⟩ : ∃ bb, bb = famB fam c := ⟨_, rfl⟩
  have fin0 : bb = false -> ∀ tt : Tm, (tt 0 = .ptr p 1 0 ∧ tt 1 = .int .i64 fam ∧ tt 14 = .ptr it 0 0) -> tt 5 = w -> K tt h3 := fun e tt r5 e5 =>
   hK _ _ (by omega) ⟨r5, w3, b3, by omega, w, fs, dn ++ [i], seen ++ [b'], tk, e5, v2, by simp [hdn], i3, gl3, by rw [met, List.filter_append]; simp [<- hbb, e]; exact ar3⟩
  have fin1 : bb = true -> ∀ (wp wc wx wl wk : V) (h4 : H), Ge h3 h4 -> h4.WF -> AttFr h4 h3.next c.att wp wc wx wl wk -> ∃ v' d, zaz (h4.push (.row (chC c wp wc wx wl wk))).get (h4.next + 1) 23 240 w (.sl h4.next 23 0 1 (some 1)) = some (v', d) ∧
    ∀ tt : Tm, (tt 0 = .ptr p 1 0 ∧ tt 1 = .int .i64 fam ∧ tt 14 = .ptr it 0 0) -> tt 5 = v' -> K tt ((h4.push (.row (chC c wp wc wx wl wk))).app d) := fun e wp wc wx wl wk h4 g4 w4 F4 => by
   obtain ⟨f1, f2, f3, f4, f5⟩ := F4.one
   have gl4 : Gl h4 h1.next 23 w fs := gl3.keep g4.1 fun j hj => g4.2 j (gl3.lo j hj).2
   have f23 : ∀ e ∈ fs, e.length = 23 := fun e he => by obtain ⟨_, _, f⟩ := ar.mem e he; exact f.at.len
   have n4 := g4.1
   obtain ⟨v', d, ea, gl5, n5, k5, w5, _⟩ := zcm (bytes := 240) (chC c wp wc wx wl wk) gl4 (by omega) f23 rfl (by simp [chC, f1, f2, f3, f4, f5]) (by decide) (by omega) (by omega)
   refine ⟨v', d, ea, fun tt r5 e5 => ?_⟩
   have keep5 : ∀ j s cs, s ≠ 23 -> j < h4.next -> h4.get j = some (.grow s cs) -> ((h4.push (.row (chC c wp wc wx wl wk))).app d).get j = some (.grow s cs) := fun j s cs hs hj e => by
    by_cases hv : j ∈ w.ids
    ·rcases gl4 with ⟨_, rfl⟩ | ⟨_, j2, _, _, rfl, a3⟩
     ·simp [V.ids] at hv
     ·simp [V.ids] at hv
      subst hv
      rw [a3] at e
      cases e
      exact absurd rfl hs
    ·rw [k5 j hv hj]; exact e
   have out5 : ∀ j, j < h4.next -> (j < h1.next) -> ((h4.push (.row (chC c wp wc wx wl wk))).app d).get j = h4.get j := fun j hj hlt => k5 j (fun hv => by have := (gl4.lo j hv).1; omega) hj
   refine hK _ _ (by omega) ⟨r5, w5 w4, fun j hj => ?_, by omega, v', fs ++ [chC c wp wc wx wl wk], dn ++ [i], seen ++ [b'], tk, e5, v2, by simp [hdn], ?_, gl5, ?_⟩
   ·rw [out5 j (by omega) (by omega), g4.2 j (by omega)]; exact b3 j hj
   ·rw [out5 it (by omega) (by omega), g4.2 it (by omega)]; exact i3
   ·rw [met, List.filter_append]
    have e1 : [c].filter (famB fam) = [c] := by simp [<- hbb, e]
    rw [e1]
    refine AtR.append ?_ (AtR.single ⟨wp, wc, wx, wl, wk, rfl, ?_⟩)
    ·exact ar3.mono fun _ _ f => (f.ge g4).keep3 (by omega) fun j s cs hs _ hj e => keep5 j s cs (by omega) hj e
    ·exact (F4.p.keep3 (by omega) fun j s cs hs _ hj e => keep5 j s cs (by omega) hj e).mono fun j _ hj => by omega
  by_cases hf0 : fam = 0
  ·have hb1 : bb = true := by rw [hbb, famB, hf0]; rfl
   have fb : (fam == 0) = true := by simp [hf0]
   simp [t1, t5, fb, c7]
   refine ow3 _ fun wp wc wx wl wk h4 g4 w4 F4 => ?_
   obtain ⟨f1, f2, f3, f4, f5⟩ := F4.one
   obtain ⟨v', d, ea, fin⟩ := fin1 hb1 wp wc wx wl wk h4 g4 w4 F4
   simp only [chC] at ea fin
   simp [f1, f2, f3, f4, f5, ea]
   refine fin _ ?_ ?_
   ·simp [t0, t1, t14]
   ·simp
  ·have fb : (fam == 0) = false := by simpa using hf0
   by_cases hf1 : c.n.p.fam = fam
   ·have hb1 : bb = true := by rw [hbb, famB, hf1]; simp
    have fb2 : (c.n.p.fam == fam) = true := by simp [hf1]
    simp [t1, t5, fb, c6, c7, fb2]
    refine ow3 _ fun wp wc wx wl wk h4 g4 w4 F4 => ?_
    obtain ⟨f1, f2, f3, f4, f5⟩ := F4.one
    obtain ⟨v', d, ea, fin⟩ := fin1 hb1 wp wc wx wl wk h4 g4 w4 F4
    simp only [chC] at ea fin
    simp [f1, f2, f3, f4, f5, ea]
    refine fin _ ?_ ?_
    ·simp [t0, t1, t14]
    ·simp
   ·have hb1 : bb = false := by rw [hbb, famB]; simp [hf0, hf1]
    have fb2 : (c.n.p.fam == fam) = false := by simpa using hf1
    simp [t1, fb, c6, fb2]
    refine fin0 hb1 _ ?_ ?_
    ·simp [t0, t1, t14]
    ·simp [t5]
 ·simp [t5]
  have full := vis.full mb.nd hall
  rw [mb.len, hl] at full
  have mp := zc6 full
  have kL := srt.keys
  have kF : zav ((metL L dn).filter (famB fam)) := zdU List.filter_sublist (zdg mp kL)
  have lf : LfP h' (fun j => h1.next ≤ j) w ((metL L dn).filter (famB fam)) fs := ⟨gl.fr.p.mono fun j _ hj => hj.1, ar⟩
  have ml : ((metL L dn).filter (famB fam)).length ≤ D.length := by
   refine Nat.le_trans (List.length_filter_le _ _) ?_
   rw [mp.length_eq, LD]; exact Nat.le_refl _
  refine ziI lf kF (by omega) fun D' es' h5 s5 n5 w5 o5 _ l5 => ?_
  simp
  have hD : D' = D.filter (famB fam) := by
   refine Srt.uniq s5 ⟨?_, za9 _ srt.rise⟩
   exact (mp.filter _).trans (srt.perm.filter _)
  rw [hD] at l5
  refine q _ _ h5 ⟨by omega, fun j hj => ?_⟩ w5 (l5.mono fun j _ hj => by omega)
  rw [o5 j (by omega)]; exact kb j hj
end Go.Am

namespace Go.Am
open Go.Proofs

set_option maxRecDepth 100000
theorem zkc {h : H} {c : Chg} {vp vc vx vl vk : V} (o1 : vp.one = true) (o2 : vc.one = true) (o3 : vx.one = true) (o4 : vl.one = true) (o5 : vk.one = true) : Pure Tryz.prog 45 [.agg (chC c vp vc vx vl vk)] h (kyV (zad c)) := by
 refine zae Tryz.func45 S.a19c S.a19e rfl (Nat.le_of_ble_eq_true rfl) fun wf => ?_; simp only [S.a19]
 have n01 : ¬ h.next = h.next + 1 := by omega
 simp [chC, o1, o2, o3, o4, o5, kyV, zad]
 repeat' (first | exact Ge.refl _ | refine Ge.push ?_ _ | refine Ge.set ?_ (by omega) _)
theorem ziv {k : V} : ∀ (es : List (V × V)) (i0 : Nat) {j : Nat} {e : V}, zcc kyD k es i0 = some (some (j, e)) -> i0 ≤ j ∧ ∃ x, es[j - i0]? = some (x, e)
 | [], _, _, _, h => by simp [zcc] at h
 | (x, y) :: es, i0, j, e, h => by
  by_cases hx : zbN kyD x = true
  ·rw [kyD, zep hx] at h
   split at h
   ·simp only [Option.some.injEq, Prod.mk.injEq] at h
    obtain ⟨rfl, rfl⟩ := h
    exact ⟨Nat.le_refl _, x, by simp⟩
   ·obtain ⟨a, z, b⟩ := ziv es (i0 + 1) h
    refine ⟨by omega, z, ?_⟩
    obtain ⟨d, hd⟩ : ∃ d, j - i0 = d + 1 := ⟨j - i0 - 1, by omega⟩
    rw [hd, List.getElem?_cons_succ, show d = j - (i0 + 1) by omega]; exact b
   ·cases h
  ·exfalso
   have : zcc kyD k ((x, y) :: es) i0 = none := by
    show (if zbN kyD x = true then _ else none) = none
    rw [if_neg hx]
   rw [this] at h; cases h
theorem HeldAt.find {h : H} {R : Nat -> Prop} {m : Nat} {D : List Chg} (x : HeldAt h R m D) (k : Ky) (zero : V) :
  (∃ c e, c ∈ D ∧ zad c = k ∧ ChP h R c e ∧ zcS h.get kyD zero true (.map m) (kyV k) = some (.tup [.agg e, .bool true])) ∨ ((∀ c ∈ D, zad c ≠ k) ∧ zcS h.get kyD zero true (.map m) (kyV k) = some (.tup [zero, .bool false])) := by
 obtain ⟨es, bs, tk, L, hm, mb, srt, hl, he⟩ := x
 have ent : zcL h.get (.map m) = some es := by simp [zcL, hm]
 rcases zeR es L 0 hl (fun i c' hi => by obtain ⟨e', a, _⟩ := he i c' hi; exact ⟨_, a⟩) k with ⟨j, hj, e', a1, a2, a3⟩ | ⟨a1, a2⟩
 ·refine .inl ?_
  obtain ⟨e, b1, b2⟩ := he j _ (List.getElem?_eq_getElem hj)
  have fe : e' = .agg e := by
   obtain ⟨_, z, b⟩ := ziv es 0 a3
   simp only [Nat.zero_add, Nat.sub_zero] at b
   rw [b1] at b
   simp only [Option.some.injEq, Prod.mk.injEq] at b
   exact b.2.symm
  refine ⟨L[j], e, srt.perm.mem_iff.1 (List.getElem_mem hj), a1, b2, ?_⟩
  unfold zcS
  rw [if_pos (ziZ _), ent]
  simp only [a3, fe, if_true]
 ·refine .inr ⟨fun c hc => a1 c (srt.perm.mem_iff.2 hc), ?_⟩
  unfold zcS
  rw [if_pos (ziZ _), ent]
  simp only [a2, if_true]
theorem zjS {L D : List Chg} (s : Srt L D) {j : Nat} (hj : j < L.length) : Srt (L.eraseIdx j) (D.filter fun d => !decide (zad d = zad L[j])) := by
 have kL := s.keys
 have h1 : L.eraseIdx j = L.filter fun d => !decide (zad d = zad L[j]) := by
  have hsp : L = L.take j ++ L[j] :: L.drop (j + 1) := by rw [<- List.drop_eq_getElem_cons hj, List.take_append_drop]
  have kk : (L.map zad).Nodup := kL
  rw [List.nodup_iff_pairwise_ne, List.pairwise_map, List.pairwise_iff_getElem] at kk
  have ha : ∀ x ∈ L.take j, zad x ≠ zad L[j] := fun x hx => by
   obtain ⟨i, hi, rfl⟩ := List.mem_iff_getElem.1 hx
   rw [List.length_take] at hi
   rw [List.getElem_take]
   exact kk i j (by omega) hj (by omega)
  have hb : ∀ x ∈ L.drop (j + 1), zad x ≠ zad L[j] := fun x hx => by
   obtain ⟨i, hi, rfl⟩ := List.mem_iff_getElem.1 hx
   rw [List.length_drop] at hi
   rw [List.getElem_drop]
   exact fun e => kk j (j + 1 + i) hj (by omega) (by omega) e.symm
  rw [List.eraseIdx_eq_take_drop_succ]
  obtain ⟨k, hk⟩ : ∃ k, k = zad L[j] := ⟨_, rfl⟩
  rw [<- hk] at ha hb ⊢
  conv => rhs; rw [hsp]
  rw [List.filter_append, List.filter_cons, if_neg (by simp [hk]), List.filter_eq_self.2 fun x hx => by simpa using ha x hx, List.filter_eq_self.2 fun x hx => by simpa using hb x hx]
 rw [h1]
 exact ⟨s.perm.filter _, za9 _ s.rise⟩
theorem HeldAt.del {h : H} {R : Nat -> Prop} {m : Nat} {D : List Chg} (x : HeldAt h R m D) (k : Ky) :
  ∃ o, zcn h.get kyD (.map m) (kyV k) = some (.set m o) ∧ HeldAt (h.set m o) R m (D.filter fun d => !decide (zad d = k)) := by
 obtain ⟨es, bs, tk, L, hm, mb, srt, hl, he⟩ := x
 have keepS : ∀ {o : O} {c : Chg} {e : List V}, ChP h R c e -> ChP (h.set m o) R c e := fun f => f.keep (by simp) fun j s' cs' _ _ hj => by rw [H.get_set, if_neg (fun e => by subst e; rw [hm] at hj; cases hj)]; exact hj
 rcases zeR es L 0 hl (fun i c' hi => by obtain ⟨e', a, _⟩ := he i c' hi; exact ⟨_, a⟩) k with ⟨j, hj, e', a1, a2, a3⟩ | ⟨a1, a2⟩
 ·refine ⟨.mapo (es.eraseIdx j) (bs.eraseIdx j) tk, ?_, es.eraseIdx j, bs.eraseIdx j, tk, L.eraseIdx j, by simp, mb.erase, ?_, by rw [List.length_eraseIdx, List.length_eraseIdx, hl], fun i c hi => ?_⟩
  ·unfold zcn
   rw [if_pos (ziZ _)]
   simp only [hm, a3, Nat.zero_add]
  ·rw [<- a1]; exact zjS srt hj
  ·rw [List.getElem?_eraseIdx] at hi ⊢
   split at hi
   ·rename_i h1
    rw [if_pos h1]
    obtain ⟨e, b1, b2⟩ := he i c hi
    exact ⟨e, b1, keepS b2⟩
   ·rename_i h1
    rw [if_neg h1]
    obtain ⟨e, b1, b2⟩ := he _ c hi
    exact ⟨e, b1, keepS b2⟩
 ·refine ⟨.mapo es bs tk, ?_, es, bs, tk, L, by simp, mb, ?_, hl, fun i c hi => ?_⟩
  ·unfold zcn
   rw [if_pos (ziZ _)]
   simp only [hm, a2]
  ·have : D.filter (fun d => !decide (zad d = k)) = D := List.filter_eq_self.2 fun d hd => by simpa using a1 d (srt.perm.mem_iff.2 hd)
   rw [this]; exact srt
  ·obtain ⟨e, b1, b2⟩ := he i c hi
   exact ⟨e, b1, keepS b2⟩
def okW (p : Pfx) (c : Chg) : Bool := !c.gone && decide (c.n.p = p) && mayN c.n && attB c.att
instance (L : List Chg) : Decidable (zav L) := inferInstanceAs (Decidable (L.map zad).Nodup)
def zbd (p : Pfx) (L : List Chg) : Bool := L.all (okW p) && decide (zav L)
def inP (p : Pfx) (c : Chg) : Bool := decide (c.n.p = p)
def zaX (c : Chg) : Chg := ⟨true, ⟨c.n.p, c.n.id, 0⟩, att0⟩
def za3 (p : Pfx) (L : List Chg) (c : Chg) : Bool := inP p c && !L.any fun d => decide (zad d = zad c)
def newB (D : List Chg) (c : Chg) : Bool := !decide (c ∈ D)
def zg5 (p : Pfx) (D L : List Chg) : List Chg := L.foldl putC (D.filter fun c => !inP p c)
def zjv (p : Pfx) (D L : List Chg) : List Chg := ((D.filter (za3 p L)).map zaX ++ L.filter (newB D)).foldl putC []
def zdx (p : Pfx) (D L : List Chg) : Bool := decide (4096 < (D.filter fun c => !inP p c).length + L.length)
end Go.Am

namespace Go.Am
open Go.Proofs

set_option maxRecDepth 100000
theorem zkm {body : (Exit -> Tm -> H -> Prop) -> Tm -> H -> Prop} {Q : Exit -> Tm -> H -> Prop} {t : Tm} {h : H} {id : Nat} (J : Tm -> H -> Prop) (ha : ∀ R : Exit -> Tm -> H -> Prop, (∀ t' h', J t' h' -> R .normal t' h') -> (∀ t' h', Q .ret t' h' -> R .ret t' h') -> zgf body (zcV id R) t h) (k : ∀ t' h', J t' h' -> Q .normal t' h') : zgf body (zcV id Q) t h := ha Q k fun _ _ h => h
theorem zd5 {L : List Chg} {i : Nat} (hi : i < L.length) (kt : zav (L.take i)) : zav (L.take (i + 1)) ↔ ∀ d ∈ L.take i, zad d ≠ zad L[i] := by
 have e : L.take (i + 1) = L.take i ++ [L[i]] := by rw [List.take_add_one, List.getElem?_eq_getElem hi]; rfl
 unfold zav at kt ⊢
 rw [e, List.map_append, List.nodup_append]
 constructor
 ·rintro ⟨_, _, h3⟩ d hd
  exact h3 _ (List.mem_map_of_mem hd) _ (by simp)
 ·intro h
  refine ⟨kt, by simp, fun a ha b hb => ?_⟩
  obtain ⟨d, hd, rfl⟩ := List.mem_map.1 ha
  simp only [List.map_cons, List.map_nil, List.mem_singleton] at hb
  subst hb
  exact h d hd
theorem ziO {D : List Chg} (k : zav D) {c d : Chg} (hc : c ∈ D) (hd : d ∈ D) (e : zad c = zad d) : c = d := by
 obtain ⟨i, hi, rfl⟩ := List.mem_iff_getElem.1 hc
 obtain ⟨j, hj, rfl⟩ := List.mem_iff_getElem.1 hd
 have e2 : (D.map zad)[i]'(by simpa using hi) = (D.map zad)[j]'(by simpa using hj) := by simpa using e
 have := (List.getElem_inj (h₀ := by simpa using hi) (h₁ := by simpa using hj) k).1 e2
 subst this; rfl
theorem zd1 : ∀ (l S : List Chg), Rise cmpC S -> zav l -> (∀ c ∈ l, ∀ d ∈ S, zad d ≠ zad c) -> ∀ x, x ∈ l.foldl putC S ↔ x ∈ S ∨ x ∈ l
 | [], S, _, _, _, x => by simp
 | c :: l, S, r, k, hd, x => by
  have k' : zad c ∉ l.map zad ∧ (l.map zad).Nodup := by simpa [zav] using k
  rw [List.foldl_cons, zd1 l (putC S c) (zb7 r) k'.2 (fun d hdl e he => ?_), zcH r, List.mem_cons]
  ·constructor
   ·rintro ((rfl | ⟨h, _⟩) | h)
    ·exact .inr (.inl rfl)
    ·exact .inl h
    ·exact .inr (.inr h)
   ·rintro (h | rfl | h)
    ·exact .inl (.inr ⟨h, hd c (by simp) x h⟩)
    ·exact .inl (.inl rfl)
    ·exact .inr h
  ·rcases (zcH r).1 he with rfl | ⟨h, _⟩
   ·exact fun e2 => k'.1 (by rw [e2]; exact List.mem_map_of_mem hdl)
   ·exact hd d (by simp [hdl]) e h
theorem zdW {l : List Chg} (k : zav l) (x : Chg) : x ∈ l.foldl putC [] ↔ x ∈ l := by
 rw [zd1 l [] List.Pairwise.nil k (by simp)]; simp
theorem zeV {l : List Chg} (k : zav l) : Srt l (l.foldl putC []) := by
 have r := zbj l [] List.Pairwise.nil
 exact ⟨zev k (zcw r) fun x => (zdW k x).symm, r⟩
theorem zbF : ∀ (l S : List Chg), Rise cmpC S -> zav l -> ∀ x, x ∈ l.foldl putC S ↔ x ∈ l ∨ (x ∈ S ∧ ∀ c ∈ l, zad x ≠ zad c)
 | [], S, _, _, x => by simp
 | c :: l, S, r, k, x => by
  have k' : zad c ∉ l.map zad ∧ (l.map zad).Nodup := by simpa [zav] using k
  rw [List.foldl_cons, zbF l (putC S c) (zb7 r) k'.2, zcH r, List.mem_cons]
  constructor
  ·rintro (h | ⟨rfl | ⟨h1, h2⟩, h3⟩)
   ·exact .inl (.inr h)
   ·exact .inl (.inl rfl)
   ·exact .inr ⟨h1, fun d hd => (List.mem_cons.1 hd).elim (fun e => e ▸ h2) (h3 d)⟩
  ·rintro ((rfl | h) | ⟨h1, h2⟩)
   ·exact .inr ⟨.inl rfl, fun d hd e => k'.1 (by rw [e]; exact List.mem_map_of_mem hd)⟩
   ·exact .inl h
   ·exact .inr ⟨.inr ⟨h1, h2 c (by simp)⟩, fun d hd => h2 d (by simp [hd])⟩
theorem zk2 (c : Chg) : zad (zaX c) = zad c := rfl
theorem zkS {p : Pfx} {D L M N M8 : List Chg} (rD : Rise cmpC D) (hD : ∀ d ∈ D, d.gone = false) (kL : zav L) (okL : ∀ c ∈ L, okW p c = true) (mM : M.Perm (D.filter (za3 p L))) (mN : N.Perm (L.filter (newB D))) (m8 : M8.Perm L) :
  M8.foldl putC (D.filter fun d => !(M.map zaX ++ N).any fun c => c.gone && decide (zad c = zad d)) = zg5 p D L := by
 have k8 : zav M8 := zdg m8 kL
 have gN : ∀ c ∈ N, c.gone = false := fun c hc => by
  have := okL c (List.mem_filter.1 (mN.mem_iff.1 hc)).1
  simp only [okW, Bool.and_eq_true, Bool.not_eq_true'] at this
  exact this.1.1.1
 have pL : ∀ c ∈ L, c.n.p = p := fun c hc => by
  have := okL c hc
  simp only [okW, Bool.and_eq_true, decide_eq_true_eq] at this
  exact this.1.1.2
 have r1 := zbj M8 _ (za9 (fun d => !(M.map zaX ++ N).any fun c => c.gone && decide (zad c = zad d)) rD)
 have r2 := zbj L _ (za9 (fun c => !inP p c) rD)
 refine zgo ordr_c r1 r2 fun x => ?_
 rw [zg5, zbF _ _ (za9 _ rD) k8, zbF _ _ (za9 _ rD) kL]
 have e8 : (∀ c ∈ M8, zad x ≠ zad c) ↔ ∀ c ∈ L, zad x ≠ zad c := by
  constructor <;> intro h c hc
  ·exact h c (m8.mem_iff.2 hc)
  ·exact h c (m8.mem_iff.1 hc)
 rw [m8.mem_iff, e8, List.mem_filter, List.mem_filter]
 refine or_congr Iff.rfl ?_
 constructor
 ·rintro ⟨⟨h1, h2⟩, h3⟩
  refine ⟨⟨h1, ?_⟩, h3⟩
  cases hp : inP p x with
  | false => rfl
  | true =>
   exfalso
   have gx : za3 p L x = true := by
    rw [za3, hp, Bool.true_and, Bool.not_eq_true', List.any_eq_false]
    intro d hd
    simp only [decide_eq_true_eq]
    exact fun e => h3 d hd e.symm
   have : ((M.map zaX ++ N).any fun c => c.gone && decide (zad c = zad x)) = true := List.any_eq_true.2 ⟨zaX x, by simp only [List.mem_append, List.mem_map]; exact .inl ⟨x, mM.mem_iff.2 (List.mem_filter.2 ⟨h1, gx⟩), rfl⟩, by show (true && decide (zad x = zad x)) = true; simp⟩
   rw [this] at h2; cases h2
 ·rintro ⟨⟨h1, h2⟩, h3⟩
  refine ⟨⟨h1, ?_⟩, h3⟩
  have hp : inP p x = false := by simpa using h2
  rw [Bool.not_eq_true', List.any_eq_false]
  intro c hc
  rcases List.mem_append.1 hc with hc | hc
  ·obtain ⟨d, hd, rfl⟩ := List.mem_map.1 hc
   have := (List.mem_filter.1 (mM.mem_iff.1 hd)).2
   simp only [za3, Bool.and_eq_true, inP, decide_eq_true_eq] at this
   simp only [zk2, Bool.and_eq_true, not_and]
   intro _ e
   have e2 : d.n.p = x.n.p := congrArg Ky.p (show zad d = zad x from of_decide_eq_true e)
   rw [inP, <- e2, this.1] at hp
   simp at hp
  ·simp [gN c hc]
theorem zgP {p : Pfx} {D L M N : List Chg} (rD : Rise cmpC D) (kL : zav L) (mM : M.Perm (D.filter (za3 p L))) (mN : N.Perm (L.filter (newB D))) : zav (M.map zaX ++ N) := by
 have kM : zav M := zdg mM (zdU List.filter_sublist (zcw rD))
 have kN : zav N := zdg mN (zdU List.filter_sublist kL)
 unfold zav at kM kN ⊢
 rw [List.map_append, List.map_map, show zad ∘ zaX = zad from rfl, List.nodup_append]
 refine ⟨kM, kN, fun a ha b hb e => ?_⟩
 obtain ⟨c, hc, rfl⟩ := List.mem_map.1 ha
 obtain ⟨d, hd, rfl⟩ := List.mem_map.1 hb
 have h1 := (List.mem_filter.1 (mM.mem_iff.1 hc)).2
 have h2 := (List.mem_filter.1 (mN.mem_iff.1 hd)).1
 simp only [za3, Bool.and_eq_true, Bool.not_eq_true', List.any_eq_false, decide_eq_true_eq] at h1
 exact h1.2 d h2 e.symm
theorem zlr {p : Pfx} {D L M N S' : List Chg} (rD : Rise cmpC D) (kL : zav L) (mM : M.Perm (D.filter (za3 p L))) (mN : N.Perm (L.filter (newB D))) (s : Srt (M.map zaX ++ N) S') : S' = zjv p D L := by
 have k := zgP (p := p) rD kL (List.Perm.refl _) (List.Perm.refl _)
 have s2 := zeV k
 exact Srt.uniq s ⟨((mM.map zaX).append mN).trans s2.perm, s2.rise⟩
def zrM (Q : V -> H -> Prop) (h : H) (R : Nat -> Prop) (p m : Nat) (px : Pfx) (D L : List Chg) : Prop :=
 ((mayP px && zbd px L) = false -> ∀ h', Ge h h' -> h'.WF -> Q (.tup [.nilsl, .int .i64 2]) h') ∧
 (mayP px = true -> zbd px L = true -> zdx px D L = true -> ∀ h', Ge h h' -> h'.WF -> Q (.tup [.nilsl, .int .i64 7]) h') ∧
 (mayP px = true -> zbd px L = true -> zdx px D L = false -> ∀ w es h' n1, But h h' p m -> h'.WF -> h.next ≤ n1 -> OutAt h' (fun j => R j ∨ (h.next ≤ j ∧ j < n1)) p m (zg5 px D L) -> LfP h' (fun j => n1 ≤ j) w (zjv px D L) es -> Q (.tup [w, .int .i64 0]) h')
theorem zno {h : H} {R : Nat -> Prop} {p m : Nat} {px : Pfx} {D L : List Chg} {v : V} {es : List (List V)} (x : OutAt h R p m D) (hD : ∀ d ∈ D, d.gone = false) (lk : ∀ h', But h h' p m -> CsAt h'.get v L es) (zL : ∀ c ∈ L, AttSz c.att) (hb : D.length ≤ 4096) (hl : L.length ≤ 10000) {Q : V -> H -> Prop} (q : zrM Q h R p m px D L) : Acalls Tryz.prog 12 [.ptr p 1 0, .agg (pfxC px), v] h Q := by
 obtain ⟨q1, q2, q3⟩ := q
 refine zal Tryz.func12 S.a2c S.a2e (Nat.le_of_ble_eq_true rfl) fun wf => ?_; simp only [S.a2]
 obtain ⟨hp, hm, hpm⟩ := x.lt wf
 obtain ⟨h1, hh1⟩ : ∃ h1, h1 = h.push (.row (pfxC px)) := ⟨_, rfl⟩
 have g1 : Ge h h1 := by rw [hh1]; exact (Ge.refl _).push _
 have w1 : h1.WF := by rw [hh1]; exact wf.push _
 have n1 : h1.next = h.next + 1 := by rw [hh1]; simp
 have x0 : OutAt h (fun j => R j ∧ j < h.next) p m D := x.mono fun j hj hr => ⟨hr, hj⟩
 have x1 := x0.ge wf g1
 have c4 : zab h1.get h.next 4 = some (pfxC px) := by rw [hh1]; simp [pfxC]
 have pc := zgU (h := h1) (p := px)
 simp only [pfxC] at hh1 c4 pc
 simp [pfxC]
 rw [<- hh1]
 refine zeT x1 _ ?_
 simp [c4]
 refine pc _ ?_
 cases hmp : mayP px with
 | false =>
  simp
  exact q1 (by rw [hmp]; rfl) h1 g1 w1
 | true =>
  simp
  obtain ⟨m8, hm8⟩ : ∃ k, k = h1.next := ⟨_, rfl⟩
  obtain ⟨h2, hh2⟩ : ∃ h2, h2 = h1.push (.mapo [] [] 0) := ⟨_, rfl⟩
  have g2 : Ge h1 h2 := by rw [hh2]; exact (Ge.refl _).push _
  have w2 : h2.WF := by rw [hh2]; exact w1.push _
  have n2 : h2.next = h1.next + 1 := by rw [hh2]; simp
  have gh2 : Ge h h2 := g1.trans g2
  have hd2 : HeldAt h2 (fun j => h.next ≤ j) m8 [] := ⟨[], [], 0, [], by rw [hh2, hm8]; simp, MapB.nil _, ⟨List.Perm.refl _, List.Pairwise.nil⟩, rfl, by simp⟩
  have x4 : h2.get h.next = some (.row (pfxC px)) := by rw [g2.2 _ (by omega), hh1]; simp [pfxC]
  have hlen := (lk h2 (gh2.but p m)).sls.len
  rw [(lk h2 (gh2.but p m)).len] at hlen
  rw [<- hh2, <- hm8]
  simp [hlen]
  -- what is wanted
  refine zkm (id := 1) (fun t h' => (t 0 = .ptr p 1 0 ∧ t 4 = .ptr h.next 4 0 ∧ t 8 = .map m8) ∧ Ge h h' ∧ h'.WF ∧ h2.next ≤ h'.next ∧ zbd px L = true ∧ h'.get h.next = some (.row (pfxC px)) ∧ HeldAt h' (fun j => h.next ≤ j) m8 (L.foldl putC [])) (fun Rn hR hRet => ?_) ?_
  ·refine zaj (fun i t h' => (t 0 = .ptr p 1 0 ∧ t 4 = .ptr h.next 4 0 ∧ t 8 = .map m8 ∧ t 35 = v ∧ t 36 = .int .i64 (L.length : Nat) ∧ t 37 = .int .i64 (i : Nat)) ∧ Ge h h' ∧ h'.WF ∧ h2.next ≤ h'.next ∧ h'.get h.next = some (.row (pfxC px)) ∧ (L.take i).all (okW px) = true ∧ zav (L.take i) ∧ HeldAt h' (fun j => h.next ≤ j) m8 ((L.take i).foldl putC [])) L.length
    ⟨by simp, gh2, w2, Nat.le_refl _, x4, by simp, by simp [zav], hd2⟩ ?_
   rintro i t h' hi ⟨⟨t0, t4, t8, t35, t36, t37⟩, gb, wb, nb, y4, ha, hk, hw8⟩ K hK
   have m8lt : m8 < h'.next := by omega
   by_cases hlt : i < L.length
   ·have hw := zak hlt (by omega : L.length < 9223372036854775808)
    obtain ⟨pp, qq, o, cs, vp, vc, vx, vl, vk, e1, _, e2, e3, e4, A, _, _⟩ := (lk h' (gb.but p m)).atG wb hlt
    have e2' := e2 h' (Ge.refl _)
    obtain ⟨c, hc⟩ : ∃ c, c = L[i] := ⟨_, rfl⟩
    rw [<- hc] at e4 A
    obtain ⟨o1, o2, o3, o4, o5⟩ := A.one
    obtain ⟨h3, hh3⟩ : ∃ h3, h3 = h'.push (.row (chC c vp vc vx vl vk)) := ⟨_, rfl⟩
    have g3 : Ge h' h3 := by rw [hh3]; exact (Ge.refl _).push _
    have w3 : h3.WF := by rw [hh3]; exact wb.push _
    have n3 : h3.next = h'.next + 1 := by rw [hh3]; simp
    have c3 : zab h3.get h'.next 23 = some (chC c vp vc vx vl vk) := by rw [hh3]; simp [chC]
    have of3 := zkc (h := h3) (c := c) o1 o2 o3 o4 o5
    simp only [chC] at e4 hh3 c3 of3
    simp [t8, t35, t36, t37, hlt, e1, e2', e3, e4, o1, o2, o3, o4, o5]
    rw [zaA _ _ _ rfl, <- hh3]
    refine of3 _ ?_
    have hw3 : HeldAt h3 (fun j => h.next ≤ j) m8 ((L.take i).foldl putC []) := hw8.keep g3.1 (g3.2 m8 m8lt) fun j s cs _ hj e => (g3.2 j hj).trans e
    have fnd := hw3.find (zad c) (.agg chZ)
    simp only [kyD, kyT, kyV, zad, chZ] at fnd
    rcases fnd with ⟨d, e, f1, f2, f3, f4⟩ | ⟨f1, f2⟩
    ·obtain ⟨dp, dc, dx, dl, dk, rfl, B⟩ := f3
     obtain ⟨p1, p2, p3, p4, p5⟩ := B.at.one
     have dm : d ∈ L.take i := (zdW hk d).1 f1
     have bad : zbd px L = false := by
      rw [zbd, Bool.and_eq_false_iff]
      right
      refine decide_eq_false fun kL => ?_
      have kt : zav (L.take (i + 1)) := zdU (List.take_sublist _ _) kL
      exact (zd5 hlt hk).1 kt d dm (by rw [<- hc]; exact f2)
     simp only [chC] at f4
     simp [kyV, zad, f4, p1, p2, p3, p4, p5]
     refine hRet _ _ ?_
     simp
     refine q1 (by rw [hmp, bad]; rfl) _ ?_ ?_
     ·refine Ge.trans gb (Ge.trans g3 ?_)
      repeat' (first | exact Ge.refl _ | refine Ge.push ?_ _ | refine Ge.set ?_ (by omega) _)
     ·repeat' (first | exact w3 | refine H.WF.push ?_ _ | refine H.WF.set ?_ (by simp) _)
    ·have a0 : ¬ h'.next = h3.next := by omega
     obtain ⟨h4, hh4⟩ : ∃ h4, h4 = h3.push (.row chZ) := ⟨_, rfl⟩
     have g4 : Ge h3 h4 := by rw [hh4]; exact (Ge.refl _).push _
     have w4 : h4.WF := by rw [hh4]; exact w3.push _
     have n4 : h4.next = h3.next + 1 := by rw [hh4]; simp
     have c10 : zab h4.get h'.next 23 = some (chC c vp vc vx vl vk) := by rw [g4.cells (by omega)]; simpa [chC] using c3
     have g34 := g3.trans g4
     have A4 := A.ge wb g34
     have y44 : zab h4.get h.next 4 = some (pfxC px) := (zag (n := 4) ((g34.2 h.next (by omega)).trans y4) rfl).trans rfl
     have nc := zkU (h := h4) (n := c.n)
     have ck := zkN A4
     have ep := zh1 c.n.p px
     simp only [chZ] at hh4
     simp only [chC] at c10
     simp only [nlC, pfxC] at nc y44 ep
     simp only [attC] at ck
     have retE : okW px c = false -> ∀ G, Ge h4 G -> G.WF -> Q (.tup [.nilsl, .int .i64 2]) G := fun e G gG wG => q1 (by
      have : zbd px L = false := by
       rw [zbd, Bool.and_eq_false_iff]
       left
       cases hA : L.all (okW px) with
       | false => rfl
       | true => have := List.all_eq_true.1 hA c (by rw [hc]; exact List.getElem_mem hlt); rw [e] at this; cases this
      rw [this, Bool.and_false]) G (gb.trans (g34.trans gG)) wG
     simp [kyV, zad, f2]
     rw [zaA _ _ _ rfl, <- hh4]
     simp [a0, c3]
     cases hgn : c.gone with
     | true =>
      simp
      refine hRet _ _ ?_
      simp
      exact retE (by simp [okW, hgn]) h4 (Ge.refl _) w4
     | false =>
      cases hpx : decide (c.n.p = px) with
      | false =>
       rw [hpx] at ep
       simp [c10, y44, t4, ep]
       refine hRet _ _ ?_
       simp
       exact retE (by simp [okW, of_decide_eq_false hpx]) h4 (Ge.refl _) w4
      | true =>
       rw [hpx] at ep
       have hpx' := of_decide_eq_true hpx
       simp [c10, y44, t4, ep]
       refine nc _ ?_
       cases hmn : mayN c.n with
       | false =>
        simp
        refine hRet _ _ ?_
        simp
        exact retE (by simp [okW, hmn]) h4 (Ge.refl _) w4
       | true =>
        simp [c10]
        refine ck _ ?_
        cases hat : attB c.att with
        | false =>
         simp
         refine hRet _ _ ?_
         simp
         exact retE (by simp [okW, hat]) h4 (Ge.refl _) w4
        | true =>
         simp
         have okc : okW px c = true := by simp [okW, hgn, hpx', hmn, hat]
         have zc : AttSz c.att := zkR hat
         have of4 := zkc (h := h4) (c := c) o1 o2 o3 o4 o5
         have ow4 := fun Q q => zfV (h := h4) (Q := Q) A4 zc q
         obtain ⟨yp, yc, yx, yl, yk, hy, gy, wy, fy⟩ := ziz w4 zc
         have lt10 : h'.next < h4.next := by omega
         simp only [chC] at of4 ow4
         refine zcT [h'.next] [0, 0, 1, 2, 0, 0] rfl (by rfl) ?_
         simp [t8, c10, I.foot, za4]
         refine zbE of4 (by decide) (fun _ => fun k hk => rfl) ?_
         simp [c10, I.foot, za4]
         refine ⟨by decide, fun w g => ∃ wp wc wx wl wk, w = .agg (chC c wp wc wx wl wk) ∧ Ge h4 g ∧ g.WF ∧ AttFr g h4.next c.att wp wc wx wl wk, ⟨_, hy, yp, yc, yx, yl, yk, rfl, gy, wy, fy⟩, ow4 _ fun wp wc wx wl wk g a b f => ⟨wp, wc, wx, wl, wk, rfl, a, b, f⟩, ?_⟩
         rintro _ g ⟨wp, wc, wx, wl, wk, rfl, gg, wg, F⟩
         refine ⟨fun e => (by cases e), ?_⟩
         have ng := gg.1
         have gg' : Ge h' g := g34.trans gg
         have hwg : HeldAt g (fun j => h.next ≤ j) m8 ((L.take i).foldl putC []) := hw8.keep gg'.1 (gg'.2 m8 m8lt) fun j s cs _ hj e => (gg'.2 j hj).trans e
         have hch : ChP g (fun j => h.next ≤ j) c (chC c wp wc wx wl wk) := ⟨wp, wc, wx, wl, wk, rfl, F.p.mono fun j _ hj => by have := gb.1; omega⟩
         obtain ⟨ob, hset, hld⟩ := hwg.set c hch
         simp only [kyD, kyT] at hset
         simp [hset, t37, hw]
         have gbn := gb.1
         refine hK _ _ hlt ?_
         refine ⟨by simp [t0, t4, t8, t35, t36], ((gb.trans gg').set (by omega) _), wg.set (by omega) _, by simp; omega, ?_, ?_, ?_, ?_⟩
         ·rw [H.get_set, if_neg (by omega), gg'.2 _ (by omega)]; exact y4
         ·rw [List.take_add_one, List.getElem?_eq_getElem hlt, List.all_append, ha, <- hc]; simp [okc]
         ·exact (zd5 hlt hk).2 fun d hd e2 => f1 d ((zdW hk d).2 hd) (by rw [<- hc] at e2; exact e2)
         ·rw [List.take_add_one, List.getElem?_eq_getElem hlt, <- hc, List.foldl_append]; exact hld
   ·have hi2 : i = L.length := by omega
    rw [hi2, List.take_length] at ha hk hw8
    simp [t36, t37, hi2]
    refine hR _ _ ⟨by simp [t0, t4, t8], gb, wb, nb, by rw [zbd, ha, Bool.true_and]; exact decide_eq_true hk, y4, hw8⟩
  ·rintro t h5 ⟨⟨t0, t4, t8⟩, g5, w5, n5, hwb, y4, hw8⟩
   have kL : zav L := by
    rw [zbd, Bool.and_eq_true] at hwb
    exact of_decide_eq_true hwb.2
   have x5 := x0.ge wf g5
   replace hw8 : HeldAt h5 (fun j => h.next ≤ j ∧ j < h5.next) m8 (L.foldl putC []) := hw8.mono fun j hj hr => ⟨hr, hj⟩
   obtain ⟨es0, bs0, tk0, L0, a1, mb, srt, hl0, hent⟩ := x5.held
   have LD : L0.length = D.length := srt.perm.length_eq
   obtain ⟨hp5, hm5, _⟩ := x5.lt w5
   have m8lt : m8 < h5.next := by omega
   simp [t0, x5.cell]
   refine ⟨m, es0, bs0, tk0, rfl, a1, ?_⟩
   simp
   obtain ⟨it, hit⟩ : ∃ it, it = h5.next := ⟨_, rfl⟩
   obtain ⟨h6, hh6⟩ : ∃ h6, h6 = h5.push (.miter m tk0 [] tk0) := ⟨_, rfl⟩
   have g6 : Ge h5 h6 := by rw [hh6]; exact (Ge.refl _).push _
   have w6 : h6.WF := by rw [hh6]; exact w5.push _
   have n6 : h6.next = h5.next + 1 := by rw [hh6]; simp
   rw [<- hh6, <- hit]
   -- what is told no more
   refine zb0 (id := 3) (fun t h' => (t 0 = .ptr p 1 0 ∧ t 8 = .map m8) ∧ h'.WF ∧ (∀ j, j < h5.next -> h'.get j = h5.get j) ∧ h6.next ≤ h'.next ∧ ∃ (w : V) (fs : List (List V)) (M : List Chg), t 13 = w ∧ t 14 = .int .i64 ((D.filter (inP px)).length : Nat) ∧ M.Perm (D.filter (za3 px L)) ∧ Gl h' h6.next 23 w fs ∧ AtR (ChP h' fun j => h6.next ≤ j) (M.map zaX) fs) (fun Rn hR => ?_) ?_
   ·refine zaj (fun k t h' => (t 0 = .ptr p 1 0 ∧ t 4 = .ptr h.next 4 0 ∧ t 8 = .map m8 ∧ t 82 = .ptr it 0 0) ∧ h'.WF ∧ (∀ j, j < h5.next -> h'.get j = h5.get j) ∧ h6.next ≤ h'.next ∧ ∃ w fs dn seen st, t 13 = w ∧ t 14 = .int .i64 (((metL L0 dn).filter (inP px)).length : Nat) ∧ Vis bs0 seen dn ∧ dn.length = k ∧ h'.get it = some (.miter m tk0 seen st) ∧ Gl h' h6.next 23 w fs ∧ AtR (ChP h' fun j => h6.next ≤ j) (((metL L0 dn).filter (za3 px L)).map zaX) fs) bs0.length
     ⟨by simp [t0, t4, t8], w6, fun j hj => g6.2 j hj, Nat.le_refl _, .nilsl, [], [], [], tk0, by simp, by simp [metL], Vis.nil _, rfl, by rw [hh6, hit]; simp, Gl.nil _ _ _, AtR.nil _⟩ ?_
    rintro k t h' hk ⟨⟨t0, t4, t8, t82⟩, wb, kb, nb, w, fs, dn, seen, st, t13, t14, vis, hdn, hi, gl, ar⟩ K hK
    have hm' : h'.get m = some (.mapo es0 bs0 tk0) := (kb m hm5).trans a1
    have ow := gl.one
    simp [t82]
    refine ⟨it, m, tk0, seen, st, es0, bs0, rfl, hi, hm', fun i e b' he hb' hbs => ?_, fun hall => ?_⟩
    ·simp [t82]
     obtain ⟨h7, hh7⟩ : ∃ h7, h7 = h'.set it (.miter m tk0 (seen ++ [b']) tk0) := ⟨_, rfl⟩
     have n7 : h7.next = h'.next := by rw [hh7]; simp
     have w7 : h7.WF := by rw [hh7]; exact wb.set (by omega) _
     have k7 : ∀ j, j ≠ it -> h7.get j = h'.get j := fun j hj => by rw [hh7, H.get_set, if_neg hj]
     have i7 : h7.get it = some (.miter m tk0 (seen ++ [b']) tk0) := by rw [hh7]; simp
     refine ⟨it, m, tk0, tk0, seen, b', es0, bs0, i, e, rfl, by simp, by simp [show ¬ m = it by omega, hm'], he, hb', ?_⟩
     have v7 := vis.snoc hb' hbs
     have hlen7 : dn.length < bs0.length := by have := v7.le; simp at this; omega
     have hil : i < L0.length := by rw [<- hl0]; exact (List.getElem?_eq_some_iff.1 he).1
     obtain ⟨c, hc⟩ : ∃ c, c = L0[i] := ⟨_, rfl⟩
     have hci : L0[i]? = some c := by rw [hc]; exact List.getElem?_eq_getElem hil
     obtain ⟨e', he', vp, vc, vx, vl, vk, hee, A⟩ := hent i c hci
     rw [he, Option.some.injEq] at he'
     subst hee
     obtain ⟨o1, o2, o3, o4, o5⟩ := A.one
     have met := zc2 (dn := dn) hci
     have b7 : ∀ j, j < h5.next -> h7.get j = h5.get j := fun j hj => by rw [k7 j (by omega)]; exact kb j hj
     rw [<- hh7, he']
     simp only [chC, kyV]
     simp [zad, o1, o2, o3, o4, o5]
     rw [zc1 _ _ _ _ _ rfl rfl]
     obtain ⟨h8, hh8⟩ : ∃ h8, h8 = (h7.push (.row [.int .i64 c.n.p.fam, .int .u64 (c.n.p.rd : Nat), .str c.n.p.addr, .int .i64 c.n.p.len, .int .u32 (c.n.id : Nat)])).push (.row (chC c vp vc vx vl vk)) := ⟨_, rfl⟩
     have g8 : Ge h7 h8 := by rw [hh8]; exact ((Ge.refl _).push _).push _
     have w8 : h8.WF := by rw [hh8]; exact (w7.push _).push _
     have n8 : h8.next = h7.next + 2 := by rw [hh8]; simp
     have cA : zab h8.get h7.next 5 = some [.int .i64 c.n.p.fam, .int .u64 (c.n.p.rd : Nat), .str c.n.p.addr, .int .i64 c.n.p.len, .int .u32 (c.n.id : Nat)] := by rw [hh8]; simp
     have cB : zab h8.get (h7.next + 1) 23 = some (chC c vp vc vx vl vk) := by rw [hh8]; simp [chC]
     have xB : h8.get (h7.next + 1) = some (.row (chC c vp vc vx vl vk)) := by rw [hh8]; simp
     have i8 : h8.get it = some (.miter m tk0 (seen ++ [b']) tk0) := (g8.2 it (by omega)).trans i7
     have b8 : ∀ j, j < h5.next -> h8.get j = h5.get j := fun j hj => by rw [g8.2 j (by omega)]; exact b7 j hj
     have gl8 : Gl h8 h6.next 23 w fs := (gl.keep (by omega) fun j hj => k7 j (by have := gl.lo j hj; omega)).keep (by omega) fun j hj => g8.2 j (by have := (gl.lo j hj).2; omega)
     have ar8 : AtR (ChP h8 fun j => h6.next ≤ j) (((metL L0 dn).filter (za3 px L)).map zaX) fs := ar.mono fun c e f => (f.keep (by omega) fun j s cs _ _ e => by rw [k7 j (fun e2 => by subst e2; rw [hi] at e; cases e)]; exact e).ge g8
     have y48 : zab h8.get h.next 4 = some (pfxC px) := (zag (n := 4) ((b8 h.next (by omega)).trans y4) rfl).trans rfl
     have ep := zh1 c.n.p px
     have hw88 : HeldAt h8 (fun j => h.next ≤ j ∧ j < h5.next) m8 (L.foldl putC []) := hw8.keep (by omega) (b8 m8 m8lt) fun j s cs _ hj e => (b8 j hj).trans e
     simp only [chC] at hh8 cB
     simp only [pfxC] at y48 ep
     rw [<- hh8]
     -- a round that tells nothing
     have quiet : za3 px L c = false -> ∀ G : H, Ge h8 G -> G.WF -> ∀ tt : Tm, (tt 0 = .ptr p 1 0 ∧ tt 4 = .ptr h.next 4 0 ∧ tt 8 = .map m8 ∧ tt 82 = .ptr it 0 0) -> tt 13 = w -> tt 14 = .int .i64 (((metL L0 (dn ++ [i])).filter (inP px)).length : Nat) -> K tt G := fun e G gG wG tt r5 e13 e14 => by
      have nG := gG.1
      refine hK _ _ (by omega) ⟨r5, wG, fun j hj => by rw [gG.2 j (by omega)]; exact b8 j hj, by omega, w, fs, dn ++ [i], seen ++ [b'], tk0, e13, e14, v7, by simp [hdn], (gG.2 it (by omega)).trans i8, gl8.keep gG.1 fun j hj => gG.2 j (gl8.lo j hj).2, ?_⟩
      rw [met, List.filter_append]
      have e1 : [c].filter (za3 px L) = [] := by simp [e]
      rw [e1, List.append_nil]
      exact ar8.mono fun _ _ f => f.ge gG
     cases hpx : decide (c.n.p = px) with
     | false =>
      rw [hpx] at ep
      have e1 : inP px c = false := hpx
      simp [y48, t4, ep]
      refine quiet (by rw [za3, e1]; rfl) h8 (Ge.refl _) w8 _ ?_ ?_ ?_
      ·simp [t0, t4, t8, t82]
      ·simp [t13]
      ·simp [t14, met, List.filter_append, e1]
     | true =>
      rw [hpx] at ep
      have e1 : inP px c = true := hpx
      have ml : ((metL L0 dn).filter (inP px)).length ≤ 4096 := by
       refine Nat.le_trans (List.length_filter_le _ _) ?_
       simp only [metL, List.length_map]
       have := vis.le
       rw [mb.len, hl0] at this
       omega
      obtain ⟨cn, hcn⟩ : ∃ cn, cn = ((metL L0 dn).filter (inP px)).length := ⟨_, rfl⟩
      rw [<- hcn] at t14 ml
      have wc : IntKind.i64.wrap ((cn : Int) + 1) = (cn : Int) + 1 := zah (by omega) (by omega)
      have cn2 : ((metL L0 (dn ++ [i])).filter (inP px)).length = cn + 1 := by rw [met, List.filter_append, List.length_append, <- hcn]; simp [e1]
      have fnd := hw88.find (zad c) (.agg chZ)
      simp only [kyD, kyT, kyV, zad, chZ] at fnd
      rcases fnd with ⟨d, e, f1, f2, f3, f4⟩ | ⟨f1, f2⟩
      ·have gb0 : za3 px L c = false := by
        rw [za3, Bool.and_eq_false_iff]
        right
        have : L.any (fun d => decide (zad d = zad c)) = true := List.any_eq_true.2 ⟨d, (zdW kL d).1 f1, decide_eq_true f2⟩
        rw [this]; rfl
       obtain ⟨dp, dc, dx, dl, dk, rfl, B⟩ := f3
       obtain ⟨p1, p2, p3, p4, p5⟩ := B.at.one
       simp only [chC] at f4
       simp [cA, y48, t4, ep, t14, wc, t8, f4, p1, p2, p3, p4, p5]
       rw [zaA _ _ _ rfl]
       refine quiet gb0 _ ((Ge.refl _).push _) (w8.push _) _ ?_ ?_ ?_
       ·simp [t0, t4, t8, t82]
       ·simp [t13]
       ·simp [cn2]
      ·have gb1 : za3 px L c = true := by
        rw [za3, e1, Bool.true_and, Bool.not_eq_true', List.any_eq_false]
        intro d hd
        simp only [decide_eq_true_eq]
        exact f1 d ((zdW kL d).2 hd)
       simp [cA, y48, t4, ep, t14, wc, t8, f2]
       rw [zaA _ _ _ rfl]
       have a0 : ¬ h7.next + 1 = h8.next := by omega
       have xB' := xB
       simp only [chC] at xB'
       simp [a0, xB']
       obtain ⟨h9, hh9⟩ : ∃ h9, h9 = (h8.push (.row chZ)).set (h7.next + 1) (.row (chC ⟨c.gone, ⟨c.n.p, c.n.id, 0⟩, c.att⟩ vp vc vx vl vk)) := ⟨_, rfl⟩
       have n9 : h9.next = h8.next + 1 := by rw [hh9]; simp
       have w9 : h9.WF := by rw [hh9]; exact (w8.push _).set (by simp; omega) _
       have k9 : ∀ j, j < h8.next -> j ≠ h7.next + 1 -> h9.get j = h8.get j := fun j hj hne => by rw [hh9, H.get_set, if_neg hne, H.get_push, if_neg (by omega)]
       have cC : zab h9.get (h7.next + 1) 23 = some (chC ⟨c.gone, ⟨c.n.p, c.n.id, 0⟩, c.att⟩ vp vc vx vl vk) := by rw [hh9]; simp [chC]
       have gl9 : Gl h9 h6.next 23 w fs := gl8.keep (by omega) fun j hj => k9 j (gl8.lo j hj).2 (fun e2 => by
        rcases gl8 with ⟨_, rfl⟩ | ⟨_, j2, _, _, rfl, a3⟩
        ·simp [V.ids] at hj
        ·simp [V.ids] at hj
         subst hj
         rw [e2, xB] at a3
         cases a3)
       have f23 : ∀ e ∈ fs, e.length = 23 := fun e he => by obtain ⟨_, _, f⟩ := ar8.mem e he; exact f.at.len
       have fl : fs.length ≤ 4096 := by
        rw [ar8.1, List.length_map]
        refine Nat.le_trans (List.length_filter_le _ _) ?_
        simp only [metL, List.length_map]
        have := vis.le
        rw [mb.len, hl0] at this
        omega
       obtain ⟨v', d, ea, gl10, n10, k10, w10, _⟩ := zcm (bytes := 240) (chC (zaX c) .nilsl .nilsl .nilsl .nilsl .nilsl) gl9 (by omega) f23 rfl (by simp [chC]) (by decide) (by omega) (by omega)
       have fin : ∀ tt : Tm, (tt 0 = .ptr p 1 0 ∧ tt 4 = .ptr h.next 4 0 ∧ tt 8 = .map m8 ∧ tt 82 = .ptr it 0 0) -> tt 13 = v' -> tt 14 = .int .i64 ((cn + 1 : Nat) : Nat) -> K tt ((h9.push (.row (chC (zaX c) .nilsl .nilsl .nilsl .nilsl .nilsl))).app d) := fun tt r5 e13 e14 => by
        have keepA : ∀ j s cs, s ≠ 23 -> j < h8.next -> h8.get j = some (.grow s cs) -> ((h9.push (.row (chC (zaX c) .nilsl .nilsl .nilsl .nilsl .nilsl))).app d).get j = some (.grow s cs) := fun j s cs hs hj e => by
         have e9 : h9.get j = some (.grow s cs) := by rw [k9 j hj (fun e2 => by rw [e2, xB] at e; cases e)]; exact e
         by_cases hv : j ∈ w.ids
         ·rcases gl9 with ⟨_, rfl⟩ | ⟨_, j2, _, _, rfl, a3⟩
          ·simp [V.ids] at hv
          ·simp [V.ids] at hv
           subst hv
           rw [a3] at e9
           cases e9
           exact absurd rfl hs
         ·rw [k10 j hv (by omega)]; exact e9
        have outA : ∀ j, j < h6.next -> ((h9.push (.row (chC (zaX c) .nilsl .nilsl .nilsl .nilsl .nilsl))).app d).get j = h8.get j := fun j hj => by
         rw [k10 j (fun hv => by have := (gl9.lo j hv).1; omega) (by omega), k9 j (by omega) (by omega)]
        refine hK _ _ (by omega) ⟨r5, w10 w9, fun j hj => by rw [outA j (by omega)]; exact b8 j hj, by omega, v', fs ++ [chC (zaX c) .nilsl .nilsl .nilsl .nilsl .nilsl], dn ++ [i], seen ++ [b'], tk0, e13, by rw [cn2]; exact e14, v7, by simp [hdn], by rw [outA it (by omega)]; exact i8, gl10, ?_⟩
        rw [met, List.filter_append]
        have e2 : [c].filter (za3 px L) = [c] := by simp [gb1]
        rw [e2, List.map_append]
        refine AtR.append (ar8.mono fun _ _ f => f.keep3 (by omega) fun j s cs hs _ hj e => keepA j s cs (by omega) hj e) (AtR.single ⟨.nilsl, .nilsl, .nilsl, .nilsl, .nilsl, rfl, zgD _ _⟩)
       have z0 : ((0 : Nat) : Int) = 0 := rfl
       rw [n9] at ea
       simp only [chC, zaX, att0, chZ, z0] at hh9 cC ea fin
       rw [<- hh9]
       simp [t13, ea]
       refine fin _ ?_ ?_ ?_
       ·simp [t0, t4, t8, t82]
       ·simp
       ·simp
    ·simp
     have full := vis.full mb.nd hall
     rw [mb.len, hl0] at full
     have mp := (zc6 full).trans srt.perm
     refine hR _ _ ⟨by simp [t0, t8], wb, kb, nb, w, fs, (metL L0 dn).filter (za3 px L), by simp [t13], ?_, mp.filter _, gl, ar⟩
     simp [t14, (mp.filter (inP px)).length_eq]
   ·rintro t h7 ⟨⟨t0, t8⟩, w7, k7, n7, w, fs, M, t13, t14, mM, gl, ar⟩
    have x7 : OutAt h7 (fun j => R j ∧ j < h.next) p m D := x5.keep (by omega) (k7 p hp5) (k7 m hm5) fun j s cs _ hj e => (k7 j hj).trans e
    have hw87 : HeldAt h7 (fun j => h.next ≤ j ∧ j < h5.next) m8 (L.foldl putC []) := hw8.keep (by omega) (k7 m8 m8lt) fun j s cs _ hj e => (k7 j hj).trans e
    have lm8 := hw87.len h7.get rfl
    have sL := (zeV kL).perm.length_eq
    rw [<- sL] at lm8
    have fle : (D.filter (inP px)).length ≤ D.length := List.length_filter_le _ _
    have fsum : (D.filter (inP px)).length + (D.filter fun c => !inP px c).length = D.length := by
     have := List.length_eq_countP_add_countP (p := inP px) (l := D)
     rw [List.countP_eq_length_filter, List.countP_eq_length_filter] at this
     simpa using this.symm
    obtain ⟨off, hoff⟩ : ∃ off, off = (D.filter fun c => !inP px c).length := ⟨_, rfl⟩
    obtain ⟨onn, honn⟩ : ∃ onn, onn = (D.filter (inP px)).length := ⟨_, rfl⟩
    rw [<- honn] at t14 fle fsum
    rw [<- hoff] at fsum
    have ws : IntKind.i64.wrap ((D.length : Int) - (onn : Int)) = (off : Int) := by rw [show (D.length : Int) - (onn : Int) = (off : Int) by omega]; exact zah (by omega) (by omega)
    have wa : IntKind.i64.wrap ((off : Int) + (L.length : Int)) = ((off + L.length : Nat) : Int) := by rw [<- Int.natCast_add]; exact zah (by omega) (by omega)
    have lD := x7.len
    by_cases hfull : 4096 < off + L.length
    ·have hf2 : zdx px D L = true := by rw [zdx, <- hoff]; exact decide_eq_true hfull
     have hf3 : (4096 : Int) < (off : Int) + (L.length : Int) := by omega
     have hf4 : (4096 : Int) < ((off + L.length : Nat) : Int) := by omega
     simp [t0, t8, t14, x7.cell, lD, lm8, ws, wa, hf3]
     exact q2 hmp hwb hf2 h7 ⟨by omega, fun j hj => by rw [k7 j (by omega)]; exact g5.2 j hj⟩ w7
    ·have hf2 : zdx px D L = false := by rw [zdx, <- hoff]; exact decide_eq_false hfull
     have hf3 : ¬ (4096 : Int) < (off : Int) + (L.length : Int) := by omega
     have hf4 : ¬ (4096 : Int) < ((off + L.length : Nat) : Int) := by omega
     simp [t0, t8, t14, x7.cell, lD, lm8, ws, wa, hf3]
     obtain ⟨es8, bs8, tk8, L8, a8, mb8, srt8, hl8, hent8⟩ := hw87
     have LD8 : L8.length = L.length := srt8.perm.length_eq.trans sL.symm
     have p8L : L8.Perm L := srt8.perm.trans (zeV kL).perm.symm
     have okL : ∀ c ∈ L, okW px c = true := fun c hc => by
      rw [zbd, Bool.and_eq_true] at hwb
      exact List.all_eq_true.1 hwb.1 c hc
     refine ⟨m8, es8, bs8, tk8, rfl, a8, ?_⟩
     simp
     obtain ⟨it3, hit3⟩ : ∃ it, it = h7.next := ⟨_, rfl⟩
     obtain ⟨h8, hh8⟩ : ∃ h8, h8 = h7.push (.miter m8 tk8 [] tk8) := ⟨_, rfl⟩
     have g8 : Ge h7 h8 := by rw [hh8]; exact (Ge.refl _).push _
     have w8 : h8.WF := by rw [hh8]; exact w7.push _
     have n8 : h8.next = h7.next + 1 := by rw [hh8]; simp
     rw [<- hh8, <- hit3]
     have Mlen : M.length ≤ D.length := by rw [mM.length_eq]; exact List.length_filter_le _ _
     -- what is to be told
     refine zb0 (id := 5) (fun t h' => (t 0 = .ptr p 1 0 ∧ t 8 = .map m8) ∧ h'.WF ∧ (∀ j, j < h6.next -> h'.get j = h7.get j) ∧ h8.next ≤ h'.next ∧ ∃ (w : V) (fs : List (List V)) (N : List Chg), t 13 = w ∧ N.Perm (L.filter (newB D)) ∧ Gl h' h6.next 23 w fs ∧ AtR (ChP h' fun j => h6.next ≤ j) (M.map zaX ++ N) fs) (fun Rn hR => ?_) ?_
     ·refine zaj (fun k t h' => (t 0 = .ptr p 1 0 ∧ t 8 = .map m8 ∧ t 122 = .ptr it3 0 0) ∧ h'.WF ∧ (∀ j, j < h6.next -> h'.get j = h7.get j) ∧ h8.next ≤ h'.next ∧ ∃ (w : V) (fs : List (List V)) (dn seen : List Nat) (st : Nat), t 13 = w ∧ Vis bs8 seen dn ∧ dn.length = k ∧ h'.get it3 = some (.miter m8 tk8 seen st) ∧ Gl h' h6.next 23 w fs ∧ AtR (ChP h' fun j => h6.next ≤ j) (M.map zaX ++ (metL L8 dn).filter (newB D)) fs) bs8.length
       ⟨by simp [t0, t8], w8, fun j hj => g8.2 j (by omega), Nat.le_refl _, w, fs, [], [], tk8, by simp [t13], Vis.nil _, rfl, by rw [hh8, hit3]; simp, gl.keep g8.1 fun j hj => g8.2 j (gl.lo j hj).2, by simpa [metL] using ar.mono fun _ _ f => f.ge g8⟩ ?_
      rintro k t h' hk ⟨⟨t0, t8, t122⟩, wb, kb, nb, w, fs, dn, seen, st, t13, vis, hdn, hi, gl, ar⟩ K hK
      have hm' : h'.get m8 = some (.mapo es8 bs8 tk8) := (kb m8 (by omega)).trans a8
      have ow := gl.one
      simp [t122]
      refine ⟨it3, m8, tk8, seen, st, es8, bs8, rfl, hi, hm', fun i e b' he hb' hbs => ?_, fun hall => ?_⟩
      ·simp [t122]
       obtain ⟨h9, hh9⟩ : ∃ h9, h9 = h'.set it3 (.miter m8 tk8 (seen ++ [b']) tk8) := ⟨_, rfl⟩
       have n9 : h9.next = h'.next := by rw [hh9]; simp
       have w9 : h9.WF := by rw [hh9]; exact wb.set (by omega) _
       have k9 : ∀ j, j ≠ it3 -> h9.get j = h'.get j := fun j hj => by rw [hh9, H.get_set, if_neg hj]
       have i9 : h9.get it3 = some (.miter m8 tk8 (seen ++ [b']) tk8) := by rw [hh9]; simp
       refine ⟨it3, m8, tk8, tk8, seen, b', es8, bs8, i, e, rfl, by simp, by simp [show ¬ m8 = it3 by omega, hm'], he, hb', ?_⟩
       have v9 := vis.snoc hb' hbs
       have hlen9 : dn.length < bs8.length := by have := v9.le; simp at this; omega
       have hil : i < L8.length := by rw [<- hl8]; exact (List.getElem?_eq_some_iff.1 he).1
       obtain ⟨c, hc⟩ : ∃ c, c = L8[i] := ⟨_, rfl⟩
       have hci : L8[i]? = some c := by rw [hc]; exact List.getElem?_eq_getElem hil
       have hcL : c ∈ L := p8L.mem_iff.1 (by rw [hc]; exact List.getElem_mem hil)
       obtain ⟨e', he', vp, vc, vx, vl, vk, hee, A⟩ := hent8 i c hci
       rw [he, Option.some.injEq] at he'
       subst hee
       obtain ⟨o1, o2, o3, o4, o5⟩ := A.one
       have zc := A.sz
       have met := zc2 (dn := dn) hci
       have b9 : ∀ j, j < h6.next -> h9.get j = h7.get j := fun j hj => by rw [k9 j (by omega)]; exact kb j hj
       rw [<- hh9, he']
       simp only [chC, kyV]
       simp [zad, o1, o2, o3, o4, o5]
       rw [zc1 _ _ _ _ _ rfl rfl]
       obtain ⟨hA, hhA⟩ : ∃ hA, hA = (h9.push (.row [.int .i64 c.n.p.fam, .int .u64 (c.n.p.rd : Nat), .str c.n.p.addr, .int .i64 c.n.p.len, .int .u32 (c.n.id : Nat)])).push (.row (chC c vp vc vx vl vk)) := ⟨_, rfl⟩
       have gA : Ge h9 hA := by rw [hhA]; exact ((Ge.refl _).push _).push _
       have wA : hA.WF := by rw [hhA]; exact (w9.push _).push _
       have nA : hA.next = h9.next + 2 := by rw [hhA]; simp
       have cA : zab hA.get h9.next 5 = some [.int .i64 c.n.p.fam, .int .u64 (c.n.p.rd : Nat), .str c.n.p.addr, .int .i64 c.n.p.len, .int .u32 (c.n.id : Nat)] := by rw [hhA]; simp
       have cB : zab hA.get (h9.next + 1) 23 = some (chC c vp vc vx vl vk) := by rw [hhA]; simp [chC]
       have iA : hA.get it3 = some (.miter m8 tk8 (seen ++ [b']) tk8) := (gA.2 it3 (by omega)).trans i9
       have bA : ∀ j, j < h6.next -> hA.get j = h7.get j := fun j hj => by rw [gA.2 j (by omega)]; exact b9 j hj
       have glA : Gl hA h6.next 23 w fs := (gl.keep (by omega) fun j hj => k9 j (fun e2 => by
        rcases gl with ⟨_, rfl⟩ | ⟨_, j2, _, _, rfl, a3⟩
        ·simp [V.ids] at hj
        ·simp [V.ids] at hj
         subst hj
         rw [e2, hi] at a3
         cases a3)).keep (by omega) fun j hj => gA.2 j (by have := (gl.lo j hj).2; omega)
       have arA : AtR (ChP hA fun j => h6.next ≤ j) (M.map zaX ++ (metL L8 dn).filter (newB D)) fs := ar.mono fun c e f => (f.keep (by omega) fun j s cs _ _ e => by rw [k9 j (fun e2 => by subst e2; rw [hi] at e; cases e)]; exact e).ge gA
       have g5n := g5.1
       have xA : OutAt hA (fun j => R j ∧ j < h.next) p m D := x7.keep (by omega) (bA p (by omega)) (bA m (by omega)) fun j s cs hr hj e => (bA j (by omega)).trans e
       have A7 : AttP hA (fun j => h.next ≤ j ∧ j < h5.next) c.att vp vc vx vl vk := A.keep (by omega) fun j s cs hr hj e => (bA j (by omega)).trans e
       have cP := xA.cell
       have fnd := xA.held.find (zad c) (.agg chZ)
       have okc := okL c hcL
       have gc0 : c.gone = false := by
        simp only [okW, Bool.and_eq_true, Bool.not_eq_true'] at okc
        exact okc.1.1.1
       have frm : [p, h9.next, m].all (· < hA.next) = true := by simp; omega
       -- a round that tells nothing
       have quiet : newB D c = false -> ∀ G : H, Ge hA G -> G.WF -> ∀ tt : Tm, (tt 0 = .ptr p 1 0 ∧ tt 8 = .map m8 ∧ tt 122 = .ptr it3 0 0) -> tt 13 = w -> K tt G := fun e G gG wG tt r5 e13 => by
        have nG := gG.1
        refine hK _ _ (by omega) ⟨r5, wG, fun j hj => by rw [gG.2 j (by omega)]; exact bA j hj, by omega, w, fs, dn ++ [i], seen ++ [b'], tk8, e13, v9, by simp [hdn], (gG.2 it3 (by omega)).trans iA, glA.keep gG.1 fun j hj => gG.2 j (glA.lo j hj).2, ?_⟩
        rw [met, List.filter_append]
        have e1 : [c].filter (newB D) = [] := by simp [e]
        rw [e1, List.append_nil]
        exact arA.mono fun _ _ f => f.ge gG
       have f23 : ∀ e ∈ fs, e.length = 23 := fun e he => by obtain ⟨_, _, f⟩ := arA.mem e he; exact f.at.len
       have fl : fs.length ≤ 20000 := by
        rw [arA.1, List.length_append, List.length_map]
        have h1 : ((metL L8 dn).filter (newB D)).length ≤ L8.length := by
         refine Nat.le_trans (List.length_filter_le _ _) ?_
         simp only [metL, List.length_map]
         have := vis.le
         rw [mb8.len, hl8] at this
         exact this
        omega
       -- one that is told
       have tells : newB D c = true -> ∀ (G G2 : H) (wp wc wx wl wk : V), Ge hA G -> Ge G G2 -> G2.WF -> AttFr G2 G.next c.att wp wc wx wl wk -> ∃ v' d, zaz (G2.push (.row (chC c wp wc wx wl wk))).get (G2.next + 1) 23 240 w (.sl G2.next 23 0 1 (some 1)) = some (v', d) ∧
         ∀ tt : Tm, (tt 0 = .ptr p 1 0 ∧ tt 8 = .map m8 ∧ tt 122 = .ptr it3 0 0) -> tt 13 = v' -> K tt ((G2.push (.row (chC c wp wc wx wl wk))).app d) := fun e G G2 wp wc wx wl wk gG gG2 wG2 F => by
        obtain ⟨f1, f2, f3, f4, f5⟩ := F.one
        have g2' := gG.trans gG2
        have nG := gG.1
        have nG2 := gG2.1
        have gl4 : Gl G2 h6.next 23 w fs := glA.keep g2'.1 fun j hj => g2'.2 j (glA.lo j hj).2
        obtain ⟨v', d, ea, gl5, n5, k5', w5', _⟩ := zcm (bytes := 240) (chC c wp wc wx wl wk) gl4 (by omega) f23 rfl (by simp [chC, f1, f2, f3, f4, f5]) (by decide) (by omega) (by omega)
        refine ⟨v', d, ea, fun tt r5 e5 => ?_⟩
        have keep5 : ∀ j s cs, s ≠ 23 -> j < G2.next -> G2.get j = some (.grow s cs) -> ((G2.push (.row (chC c wp wc wx wl wk))).app d).get j = some (.grow s cs) := fun j s cs hs hj e => by
         by_cases hv : j ∈ w.ids
         ·rcases gl4 with ⟨_, rfl⟩ | ⟨_, j2, _, _, rfl, a3⟩
          ·simp [V.ids] at hv
          ·simp [V.ids] at hv
           subst hv
           rw [a3] at e
           cases e
           exact absurd rfl hs
         ·rw [k5' j hv hj]; exact e
        have out5 : ∀ j, j < h6.next -> ((G2.push (.row (chC c wp wc wx wl wk))).app d).get j = G2.get j := fun j hlt => k5' j (fun hv => by have := (gl4.lo j hv).1; omega) (by omega)
        have oit : ((G2.push (.row (chC c wp wc wx wl wk))).app d).get it3 = G2.get it3 := k5' it3 (fun hv => by
         rcases gl4 with ⟨_, rfl⟩ | ⟨_, j2, _, _, rfl, a3⟩
         ·simp [V.ids] at hv
         ·simp [V.ids] at hv
          subst hv
          rw [g2'.2 _ (by omega), iA] at a3
          cases a3) (by omega)
        refine hK _ _ (by omega) ⟨r5, w5' wG2, fun j hj => ?_, by omega, v', fs ++ [chC c wp wc wx wl wk], dn ++ [i], seen ++ [b'], tk8, e5, v9, by simp [hdn], ?_, gl5, ?_⟩
        ·rw [out5 j hj, g2'.2 j (by omega)]; exact bA j hj
        ·rw [oit, g2'.2 it3 (by omega)]; exact iA
        ·rw [met, List.filter_append]
         have e1 : [c].filter (newB D) = [c] := by simp [e]
         rw [e1, <- List.append_assoc]
         refine AtR.append ?_ (AtR.single ⟨wp, wc, wx, wl, wk, rfl, ?_⟩)
         ·exact arA.mono fun _ _ f => (f.ge g2').keep3 (by omega) fun j s cs hs _ hj e => keep5 j s cs (by omega) hj e
         ·exact (F.p.keep3 (by omega) fun j s cs hs _ hj e => keep5 j s cs (by omega) hj e).mono fun j _ hj => by omega
       have refs : True := trivial
       simp only [chC] at hhA cB
       simp only [kyD, kyT, kyV, zad, chZ] at fnd
       rw [<- hhA]
       refine zcT [p, h9.next, m] [0, 0, 0, 2, 2, 2, 0, 0, 0, 1, 0, 0] rfl (by rfl) ?_
       rcases fnd with ⟨d, e, f1, f2, f3, f4⟩ | ⟨f1, f2⟩
       ·obtain ⟨dp, dc, dx, dl, dk, rfl, B⟩ := f3
        obtain ⟨p1, p2, p3, p4, p5⟩ := B.at.one
        have hdc : newB D c = !decide (d = c) := by
         rw [newB]
         congr 1
         rw [decide_eq_decide]
         constructor
         ·intro hcD
          exact ziO (zcw srt.rise) f1 hcD f2
         ·rintro rfl; exact f1
        have dg0 := hD d f1
        have dex : d = c ↔ d.n = c.n ∧ d.att = c.att := by
         constructor
         ·rintro rfl; exact ⟨rfl, rfl⟩
         ·rintro ⟨h1, h2⟩
          cases d; cases c
          simp only at dg0 gc0 h1 h2
          simp [dg0, gc0, h1, h2]
        have a0 : ¬ h9.next + 1 = hA.next := by omega
        obtain ⟨hB, hhB⟩ : ∃ hB, hB = hA.push (.row (chC d dp dc dx dl dk)) := ⟨_, rfl⟩
        have gB : Ge hA hB := by rw [hhB]; exact (Ge.refl _).push _
        have wB : hB.WF := by rw [hhB]; exact wA.push _
        have nB : hB.next = hA.next + 1 := by rw [hhB]; simp
        have A8 := A7.at.ge wA gB
        have B8 := B.at.ge wA gB
        have ow8 := fun Q q => zfV (h := hB) (Q := Q) A8 zc q
        have as8 := zlA B8 A8
        have en := zn4 d.n c.n
        have cD : zab hB.get hA.next 23 = some (chC d dp dc dx dl dk) := by rw [hhB]; simp [chC]
        have cBB : zab hB.get (h9.next + 1) 23 = some (chC c vp vc vx vl vk) := by rw [gB.cells (by omega)]; simpa [chC] using cB
        simp only [chC] at hhB ow8 f4 cD cBB
        simp only [attC] at as8
        simp only [nlC] at en
        simp [t0, cP, cA, f4, I.foot, za4, p1, p2, p3, p4, p5]
        refine ⟨fun k hk => ?_, ?_⟩
        ·simp only [List.mem_cons, List.not_mem_nil, or_false] at hk
         rw [H.get_push, if_neg (by omega)]
        rw [zaA _ _ _ rfl, <- hhB]
        have tell : newB D c = true -> True := fun _ => trivial
        cases hn : decide (d.n = c.n) with
        | false =>
         rw [hn] at en
         have new1 : newB D c = true := by rw [hdc, Bool.not_eq_true']; exact decide_eq_false fun e => of_decide_eq_false hn (dex.1 e).1
         simp [a0, cB, cBB, en, t13]
         refine ow8 _ fun wp wc wx wl wk hC gC wC FC => ?_
         obtain ⟨r1, r2, r3, r4, r5⟩ := FC.one
         obtain ⟨v', dd, ea, fin⟩ := tells new1 hB hC wp wc wx wl wk gB gC wC FC
         simp only [chC] at ea fin
         simp [r1, r2, r3, r4, r5, ea]
         refine fin _ ?_ ?_
         ·simp [t0, t8, t122]
         ·simp
        | true =>
         rw [hn] at en
         simp [a0, cB, cBB, cD, en]
         refine as8 _ ?_
         cases hat : decide (d.att = c.att) with
         | false =>
          have new1 : newB D c = true := by rw [hdc, Bool.not_eq_true']; exact decide_eq_false fun e => of_decide_eq_false hat (dex.1 e).2
          simp [cBB, t13]
          refine ow8 _ fun wp wc wx wl wk hC gC wC FC => ?_
          obtain ⟨r1, r2, r3, r4, r5⟩ := FC.one
          obtain ⟨v', dd, ea, fin⟩ := tells new1 hB hC wp wc wx wl wk gB gC wC FC
          simp only [chC] at ea fin
          simp [r1, r2, r3, r4, r5, ea]
          refine fin _ ?_ ?_
          ·simp [t0, t8, t122]
          ·simp
         | true =>
          have new0 : newB D c = false := by rw [hdc, Bool.not_eq_false']; exact decide_eq_true (dex.2 ⟨of_decide_eq_true hn, of_decide_eq_true hat⟩)
          simp
          refine quiet new0 hB gB wB _ ?_ ?_
          ·simp [t0, t8, t122]
          ·simp [t13]
       ·have new1 : newB D c = true := by
         rw [newB, Bool.not_eq_true']
         exact decide_eq_false fun hcD => f1 c hcD rfl
        have a0 : ¬ h9.next + 1 = hA.next := by omega
        obtain ⟨hB, hhB⟩ : ∃ hB, hB = hA.push (.row chZ) := ⟨_, rfl⟩
        have gB : Ge hA hB := by rw [hhB]; exact (Ge.refl _).push _
        have wB : hB.WF := by rw [hhB]; exact wA.push _
        have A8 := A7.at.ge wA gB
        have ow8 := fun Q q => zfV (h := hB) (Q := Q) A8 zc q
        simp only [chZ] at hhB
        simp only [chC] at ow8
        simp [t0, cP, cA, f2, I.foot, za4, a0, cB, t13]
        refine ⟨fun k hk => ?_, ?_⟩
        ·simp only [List.mem_cons, List.not_mem_nil, or_false] at hk
         rw [H.get_push, if_neg (by omega)]
        rw [zaA _ _ _ rfl, <- hhB]
        refine ow8 _ fun wp wc wx wl wk hC gC wC FC => ?_
        obtain ⟨p1, p2, p3, p4, p5⟩ := FC.one
        obtain ⟨v', d, ea, fin⟩ := tells new1 hB hC wp wc wx wl wk gB gC wC FC
        simp only [chC] at ea fin
        simp [p1, p2, p3, p4, p5, ea]
        refine fin _ ?_ ?_
        ·simp [t0, t8, t122]
        ·simp
      ·simp
       have full := vis.full mb8.nd hall
       rw [mb8.len, hl8] at full
       have mp := (zc6 full).trans p8L
       exact hR _ _ ⟨by simp [t0, t8], wb, kb, nb, w, fs, (metL L8 dn).filter (newB D), by simp [t13], mp.filter _, gl, ar⟩
     ·rintro t h9 ⟨⟨t0, t8⟩, w9, k9, n9, w, fs, N, t13, mN, gl, ar⟩
      have x9 : OutAt h9 (fun j => R j ∧ j < h.next) p m D := x7.keep (by omega) (k9 p (by omega)) (k9 m (by omega)) fun j s cs hr hj e => (k9 j (by have := g5.1; omega)).trans e
      have hw9 : HeldAt h9 (fun j => h.next ≤ j ∧ j < h5.next) m8 (L.foldl putC []) := ⟨es8, bs8, tk8, L8, (k9 m8 (by omega)).trans a8, mb8, srt8, hl8, fun i c hi => by
       obtain ⟨e, b1, b2⟩ := hent8 i c hi
       exact ⟨e, b1, b2.keep (by omega) fun j s cs hr hj e => (k9 j (by omega)).trans e⟩⟩
      obtain ⟨E, hE⟩ : ∃ E, E = M.map zaX ++ N := ⟨_, rfl⟩
      rw [<- hE] at ar
      have lf : LfP h9 (fun j => h6.next ≤ j) w E fs := ⟨gl.fr.p.mono fun j _ hj => hj.1, ar⟩
      have El : E.length ≤ 20000 := by
       rw [hE, List.length_append, List.length_map, mN.length_eq]
       have := List.length_filter_le (newB D) L
       omega
      have lenE := lf.len h9.get
      have ft : D.filter (fun _ => true) = D := List.filter_eq_self.2 (by simp)
      simp [t13, lenE]
      -- what is gone is taken out
      refine zb0 (id := 7) (fun t h' => (t 0 = .ptr p 1 0 ∧ t 8 = .map m8 ∧ t 13 = w) ∧ h'.WF ∧ (∀ j, j < h9.next -> j ≠ m -> h'.get j = h9.get j) ∧ h9.next ≤ h'.next ∧ OutAt h' (fun j => R j ∧ j < h.next) p m (D.filter fun d => !E.any fun c => c.gone && decide (zad c = zad d))) (fun Rn hR => ?_) ?_
      ·refine zaj (fun i t h' => (t 0 = .ptr p 1 0 ∧ t 8 = .map m8 ∧ t 13 = w ∧ t 159 = w ∧ t 160 = .int .i64 (E.length : Nat) ∧ t 161 = .int .i64 (i : Nat)) ∧ h'.WF ∧ (∀ j, j < h9.next -> j ≠ m -> h'.get j = h9.get j) ∧ h9.next ≤ h'.next ∧ OutAt h' (fun j => R j ∧ j < h.next) p m (D.filter fun d => !(E.take i).any fun c => c.gone && decide (zad c = zad d))) E.length
        ⟨by simp [t0, t8, t13], w9, fun _ _ _ => rfl, Nat.le_refl _, by simpa [ft] using x9⟩ ?_
       rintro i t h' hi ⟨⟨t0, t8, t13, t159, t160, t161⟩, wb, kb, nb, xb⟩ K hK
       obtain ⟨xp, xm, _⟩ := xb.lt wb
       by_cases hlt : i < E.length
       ·have hw := zak hlt (by omega : E.length < 9223372036854775808)
        have lfb : LfP h' (fun j => h6.next ≤ j) w E fs := lf.keep nb fun j hj hl => kb j hl (by omega)
        obtain ⟨pp, qq, o, cs, vp, vc, vx, vl, vk, e1, _, e2, e3, e4, A, _, _⟩ := (lfb.ls.at (by omega)).atG wb hlt
        have e2' := e2 h' (Ge.refl _)
        obtain ⟨c, hc⟩ : ∃ c, c = E[i] := ⟨_, rfl⟩
        rw [<- hc] at e4 A
        obtain ⟨o1, o2, o3, o4, o5⟩ := A.one
        obtain ⟨hA, hhA⟩ : ∃ hA, hA = h'.push (.row (chC c vp vc vx vl vk)) := ⟨_, rfl⟩
        have gA : Ge h' hA := by rw [hhA]; exact (Ge.refl _).push _
        have wA : hA.WF := by rw [hhA]; exact wb.push _
        have nA : hA.next = h'.next + 1 := by rw [hhA]; simp
        have cA : zab hA.get h'.next 23 = some (chC c vp vc vx vl vk) := by rw [hhA]; simp [chC]
        have ofA := zkc (h := hA) (c := c) o1 o2 o3 o4 o5
        have xA := xb.ge wb gA
        have cP := xA.cell
        have tk1 : E.take (i + 1) = E.take i ++ [c] := by rw [List.take_add_one, List.getElem?_eq_getElem hlt, <- hc]; rfl
        simp only [chC] at e4 hhA cA ofA
        simp [t159, t160, t161, hlt, e1, e2', e3, e4, o1, o2, o3, o4, o5]
        rw [zaA _ _ _ rfl, <- hhA]
        cases hgn : c.gone with
        | false =>
         simp [t161, hw]
         refine hK _ _ hlt ⟨by simp [t0, t8, t13, t159, t160], wA, fun j hj hne => by rw [gA.2 j (by omega)]; exact kb j hj hne, by omega, ?_⟩
         have e9 : (D.filter fun d => !(E.take (i + 1)).any fun c => c.gone && decide (zad c = zad d)) = D.filter fun d => !(E.take i).any fun c => c.gone && decide (zad c = zad d) := by
          rw [tk1]
          refine List.filter_congr fun d _ => ?_
          simp [hgn]
         rw [e9]; exact xA
        | true =>
         simp
         refine zcT [p] [0, 0, 0, 2, 0, 1, 0] rfl (by rfl) ?_
         simp [t0, cP, cA, I.foot, za4]
         refine zbE ofA (by decide) (fun _ => fun k hk => rfl) ?_
         obtain ⟨ob, hdel, hld⟩ := xA.held.del (zad c)
         simp only [kyD, kyT] at hdel
         simp [hdel, t161, hw]
         have e9 : (D.filter fun d => !(E.take (i + 1)).any fun c => c.gone && decide (zad c = zad d)) = (D.filter fun d => !(E.take i).any fun c => c.gone && decide (zad c = zad d)).filter fun d => !decide (zad d = zad c) := by
          rw [tk1, List.filter_filter]
          refine List.filter_congr fun d _ => ?_
          have : decide (zad c = zad d) = decide (zad d = zad c) := by rw [decide_eq_decide]; exact eq_comm
          simp [hgn, this, Bool.and_comm]
         refine hK _ _ hlt ⟨by simp [t0, t8, t13, t159, t160], wA.set (by omega) _, fun j hj hne => by rw [H.get_set, if_neg hne, gA.2 j (by omega)]; exact kb j hj hne, by simp; omega, ?_⟩
         rw [e9]
         refine ⟨?_, hld⟩
         rw [H.get_set, if_neg (by omega)]; exact xA.row
       ·have hi2 : i = E.length := by omega
        rw [hi2, List.take_length] at xb
        simp [t160, t161, hi2]
        exact hR _ _ ⟨by simp [t0, t8, t13], wb, kb, nb, xb⟩
      ·rintro t hF ⟨⟨t0, t8, t13⟩, wF, kF, nF, xF⟩
       obtain ⟨D1, hD1⟩ : ∃ D1, D1 = D.filter fun d => !E.any fun c => c.gone && decide (zad c = zad d) := ⟨_, rfl⟩
       rw [<- hD1] at xF
       have aF : hF.get m8 = some (.mapo es8 bs8 tk8) := (kF m8 (by omega) (by omega)).trans ((k9 m8 (by omega)).trans a8)
       have lfF : LfP hF (fun j => h6.next ≤ j) w E fs := lf.keep nF fun j hj hl => kF j hl (by omega)
       simp [t8]
       refine ⟨m8, es8, bs8, tk8, rfl, aF, ?_⟩
       simp
       obtain ⟨it5, hit5⟩ : ∃ it, it = hF.next := ⟨_, rfl⟩
       obtain ⟨hG, hhG⟩ : ∃ hG, hG = hF.push (.miter m8 tk8 [] tk8) := ⟨_, rfl⟩
       have gG : Ge hF hG := by rw [hhG]; exact (Ge.refl _).push _
       have wG : hG.WF := by rw [hhG]; exact wF.push _
       have nG : hG.next = hF.next + 1 := by rw [hhG]; simp
       rw [<- hhG, <- hit5]
       have g5n := g5.1
       refine zb0 (id := 9) (fun t h' => (t 13 = w) ∧ h'.WF ∧ (∀ j, j < hF.next -> j ≠ m -> h'.get j = hF.get j) ∧ hG.next ≤ h'.next ∧ OutAt h' (fun j => (R j ∧ j < h.next) ∨ (h.next ≤ j ∧ j < h5.next)) p m (zg5 px D L)) (fun Rn hR => ?_) ?_
       ·refine zaj (fun k t h' => (t 0 = .ptr p 1 0 ∧ t 13 = w ∧ t 175 = .ptr it5 0 0) ∧ h'.WF ∧ (∀ j, j < hF.next -> j ≠ m -> h'.get j = hF.get j) ∧ hG.next ≤ h'.next ∧ ∃ (dn seen : List Nat) (st : Nat), Vis bs8 seen dn ∧ dn.length = k ∧ h'.get it5 = some (.miter m8 tk8 seen st) ∧ OutAt h' (fun j => (R j ∧ j < h.next) ∨ (h.next ≤ j ∧ j < h5.next)) p m ((metL L8 dn).foldl putC D1)) bs8.length
         ⟨by simp [t0, t13], wG, fun j hj _ => gG.2 j hj, Nat.le_refl _, [], [], tk8, Vis.nil _, rfl, by rw [hhG, hit5]; simp, (xF.mono fun j _ hr => .inl hr).ge wF gG⟩ ?_
        rintro k t h' hk ⟨⟨t0, t13, t175⟩, wb, kb, nb, dn, seen, st, vis, hdn, hi, xb⟩ K hK
        have hm' : h'.get m8 = some (.mapo es8 bs8 tk8) := (kb m8 (by omega) (by omega)).trans aF
        simp [t175]
        refine ⟨it5, m8, tk8, seen, st, es8, bs8, rfl, hi, hm', fun i e b' he hb' hbs => ?_, fun hall => ?_⟩
        ·simp [t175]
         obtain ⟨hA, hhA⟩ : ∃ hA, hA = h'.set it5 (.miter m8 tk8 (seen ++ [b']) tk8) := ⟨_, rfl⟩
         have nA : hA.next = h'.next := by rw [hhA]; simp
         have wA : hA.WF := by rw [hhA]; exact wb.set (by omega) _
         have kA : ∀ j, j ≠ it5 -> hA.get j = h'.get j := fun j hj => by rw [hhA, H.get_set, if_neg hj]
         have iA : hA.get it5 = some (.miter m8 tk8 (seen ++ [b']) tk8) := by rw [hhA]; simp
         refine ⟨it5, m8, tk8, tk8, seen, b', es8, bs8, i, e, rfl, by simp, by simp [show ¬ m8 = it5 by omega, hm'], he, hb', ?_⟩
         have vA := vis.snoc hb' hbs
         have hlenA : dn.length < bs8.length := by have := vA.le; simp at this; omega
         have hil : i < L8.length := by rw [<- hl8]; exact (List.getElem?_eq_some_iff.1 he).1
         obtain ⟨c, hc⟩ : ∃ c, c = L8[i] := ⟨_, rfl⟩
         have hci : L8[i]? = some c := by rw [hc]; exact List.getElem?_eq_getElem hil
         obtain ⟨e', he', vp, vc, vx, vl, vk, hee, A⟩ := hent8 i c hci
         rw [he, Option.some.injEq] at he'
         subst hee
         obtain ⟨o1, o2, o3, o4, o5⟩ := A.one
         have met := zc2 (dn := dn) hci
         rw [<- hhA, he']
         simp only [chC, kyV]
         simp [zad, o1, o2, o3, o4, o5]
         rw [zc1 _ _ _ _ _ rfl rfl]
         obtain ⟨hB, hhB⟩ : ∃ hB, hB = (hA.push (.row [.int .i64 c.n.p.fam, .int .u64 (c.n.p.rd : Nat), .str c.n.p.addr, .int .i64 c.n.p.len, .int .u32 (c.n.id : Nat)])).push (.row (chC c vp vc vx vl vk)) := ⟨_, rfl⟩
         have gB : Ge hA hB := by rw [hhB]; exact ((Ge.refl _).push _).push _
         have wB : hB.WF := by rw [hhB]; exact (wA.push _).push _
         have nB : hB.next = hA.next + 2 := by rw [hhB]; simp
         have cK : zab hB.get hA.next 5 = some [.int .i64 c.n.p.fam, .int .u64 (c.n.p.rd : Nat), .str c.n.p.addr, .int .i64 c.n.p.len, .int .u32 (c.n.id : Nat)] := by rw [hhB]; simp
         have cB : zab hB.get (hA.next + 1) 23 = some (chC c vp vc vx vl vk) := by rw [hhB]; simp [chC]
         have kB : ∀ j, j < hF.next -> j ≠ m -> hB.get j = hF.get j := fun j hj hne => by rw [gB.2 j (by omega), kA j (by omega)]; exact kb j hj hne
         have xB : OutAt hB (fun j => (R j ∧ j < h.next) ∨ (h.next ≤ j ∧ j < h5.next)) p m ((metL L8 dn).foldl putC D1) := (xb.keep (by omega) (kA p (by omega)) (kA m (by omega)) fun j s cs hr hj e => by rw [kA j (by omega)]; exact e).ge wA gB
         have chB : ChP hB (fun j => (R j ∧ j < h.next) ∨ (h.next ≤ j ∧ j < h5.next)) c (chC c vp vc vx vl vk) := ⟨vp, vc, vx, vl, vk, rfl, (A.keep (by omega) fun j s cs hr hj e => by rw [kB j (by omega) (by omega), kF j (by omega) (by omega), k9 j (by omega)]; exact e).mono fun j _ hr => .inr hr⟩
         obtain ⟨ob, hset, hld⟩ := xB.held.set c chB
         have cP := xB.cell
         simp only [chC] at hhB cB hset
         simp only [kyD, kyT, kyV, zad] at hset
         rw [<- hhB]
         refine zaL ?_
         simp [t0, cP, cK, cB, hset]
         refine hK _ _ (by omega) ⟨by simp [t0, t13, t175], wB.set (by omega) _, fun j hj hne => by rw [H.get_set, if_neg hne]; exact kB j hj hne, by simp; omega, dn ++ [i], seen ++ [b'], tk8, vA, by simp [hdn], ?_, ?_⟩
         ·rw [H.get_set, if_neg (by omega), gB.2 _ (by omega)]; exact iA
         ·rw [met, List.foldl_append]
          refine ⟨?_, hld⟩
          rw [H.get_set, if_neg (by omega)]; exact xB.row
        ·simp
         have full := vis.full mb8.nd hall
         rw [mb8.len, hl8] at full
         have mp := (zc6 full).trans p8L
         have ev := zkS srt.rise hD kL okL mM mN mp
         rw [<- hE, <- hD1] at ev
         rw [ev] at xb
         exact hR _ _ ⟨by simp [t13], wb, kb, nb, xb⟩
       ·rintro t hH ⟨t13, wH, kH, nH, xH⟩
        have lfH : LfP hH (fun j => h6.next ≤ j) w E fs := lfF.keep (by omega) fun j hj hl => kH j hl (by omega)
        have kE : zav E := by rw [hE]; exact zgP srt.rise kL mM mN
        simp [t13]
        refine ziI lfH kE (by omega) fun S' es' hZ sZ nZ wZ oZ _ lZ => ?_
        rw [hE] at sZ
        have hS' := zlr srt.rise kL mM mN sZ
        rw [hS'] at lZ
        simp
        refine q3 hmp hwb hf2 w es' hZ h6.next ⟨by omega, fun j hj hp' hm' => ?_⟩ wZ (by omega) ?_ lZ
        ·rw [oZ j (by omega), kH j (by omega) hm', kF j (by omega) hm', k9 j (by omega), k7 j (by omega)]
         exact g5.2 j hj
        ·refine (xH.keep (by omega) (oZ p (by omega)) (oZ m (by omega)) fun j s cs hr hj e => by rw [oZ j (by omega)]; exact e).mono fun j _ hr => ?_
         rcases hr with hr | hr
         ·exact .inl hr.1
         ·exact .inr ⟨hr.1, by omega⟩
end Go.Am

namespace Go.Am
open Go.Proofs

set_option maxRecDepth 100000
def zeF (k : Ky) : List Chg -> Nat -> Int
 | [], _ => -1
 | c :: l, i => if zad c = k then (i : Int) else zeF k l (i + 1)
theorem ziu {k : Ky} : ∀ {l : List Chg} {i : Nat}, (∀ c ∈ l, zad c ≠ k) -> zeF k l i = -1
 | [], _, _ => rfl
 | c :: l, i, h => by rw [zeF, if_neg (h c (by simp)), ziu fun d hd => h d (by simp [hd])]
theorem zgs {k : Ky} : ∀ {l : List Chg} {i j : Nat} (hj : j < l.length), zad l[j] = k -> (∀ d ∈ l.take j, zad d ≠ k) -> zeF k l i = ((i + j : Nat) : Int)
 | c :: l, i, 0, _, h, _ => by
  have h' : zad c = k := h
  rw [zeF, if_pos h']; simp
 | c :: l, i, j + 1, hj, h, hn => by
  rw [zeF, if_neg (hn c (by simp)), zgs (i := i + 1) (j := j) (by simpa using hj) h fun d hd => hn d (by simp [hd])]
  omega
theorem zcO (k : Ky) : ∀ (l : List Chg) (i : Nat), (zeF k l i = -1 ∧ ∀ c ∈ l, zad c ≠ k) ∨ ∃ j, ∃ hj : j < l.length, zeF k l i = ((i + j : Nat) : Int) ∧ zad l[j] = k
 | [], _ => .inl ⟨rfl, by simp⟩
 | c :: l, i => by
  by_cases h : zad c = k
  ·exact .inr ⟨0, by simp, by rw [zeF, if_pos h]; simp, h⟩
  ·rcases zcO k l (i + 1) with ⟨a, b⟩ | ⟨j, hj, a, b⟩
   ·exact .inl ⟨by rw [zeF, if_neg h]; exact a, fun d hd => (List.mem_cons.1 hd).elim (fun e => e ▸ h) (b d)⟩
   ·exact .inr ⟨j + 1, by simpa using hj, by rw [zeF, if_neg h, a]; omega, b⟩
theorem zeo {cs e : List V} {o a n : Nat} (h : (cs.drop o).take 23 = e) (ha : a + n ≤ 23) : (cs.drop (o + a)).take n = (e.drop a).take n := by
 rw [<- h, List.drop_take, List.take_take, List.drop_drop, Nat.min_eq_left (by omega)]
theorem zen {h : H} {v : V} {L : List Chg} {es : List (List V)} {p : Pfx} {id : Nat} (s : CsAt h.get v L es) : Pure Tryz.prog 66 [v, .agg (pfxC p), .int .u32 (id : Nat)] h (.int .i64 (zeF ⟨p, id⟩ L 0)) := by
 refine zae Tryz.func66 S.a38c S.a38e rfl (Nat.le_of_ble_eq_true rfl) fun wf => ?_; simp only [S.a38]
 have b1 := s.sls.bound
 rw [s.len] at b1
 obtain ⟨h1, hh1⟩ : ∃ h1, h1 = h.push (.row (pfxC p)) := ⟨_, rfl⟩
 have g1 : Ge h h1 := by rw [hh1]; exact (Ge.refl _).push _
 have w1 : h1.WF := by rw [hh1]; exact wf.push _
 have c4 : zab h1.get h.next 4 = some (pfxC p) := by rw [hh1]; simp [pfxC]
 have s1 := s.ge wf g1
 have l1 := s1.sls.len
 rw [s1.len] at l1
 simp only [pfxC] at hh1 c4
 simp [pfxC]
 rw [<- hh1]
 refine zaj (fun i t h' => (t 0 = v ∧ t 2 = .int .u32 (id : Nat) ∧ t 4 = .ptr h.next 4 0 ∧ t 7 = .int .i64 (i : Nat)) ∧ h' = h1 ∧ ∀ d ∈ L.take i, zad d ≠ ⟨p, id⟩) L.length ⟨by simp, rfl, by simp⟩ ?_
 rintro i t h' hi ⟨⟨t0, t2, t4, t7⟩, rfl, hn⟩ K hK
 by_cases hlt : i < L.length
 ·have hw := zak hlt b1
  obtain ⟨pp, qq, o, cs, vp, vc, vx, vl, vk, e1, e2, e3, e4, e5, A, _, e6⟩ := s1.atG w1 hlt
  have y1 := e3 h' (Ge.refl _)
  obtain ⟨c, hc⟩ : ∃ c, c = L[i] := ⟨_, rfl⟩
  rw [<- hc] at e5 e6
  have i5 := e6 5 (by omega)
  simp [chC] at i5
  have e45 : (cs.drop (o + 1)).take 4 = pfxC c.n.p := (zeo (a := 1) (n := 4) e5 (by omega)).trans rfl
  have ep := zh1 c.n.p p
  simp only [pfxC] at ep e45
  have o4 : o + 1 + 4 ≤ cs.length := by omega
  have tk1 : L.take (i + 1) = L.take i ++ [c] := by rw [List.take_add_one, List.getElem?_eq_getElem hlt, <- hc]; rfl
  simp [t0, t7, l1, hlt]
  refine zaL ?_
  simp [t0, t4, t7, e1, y1, e45, c4, o4]
  cases hp : decide (c.n.p = p) with
  | false =>
   rw [hp] at ep
   have hk : zad c ≠ ⟨p, id⟩ := fun e => of_decide_eq_false hp (congrArg Ky.p e)
   simp [ep, t7, hw]
   refine hK _ _ hlt ⟨by simp [t0, t2, t4], rfl, fun d hd => ?_⟩
   rw [tk1] at hd
   rcases List.mem_append.1 hd with hd | hd
   ·exact hn d hd
   ·rw [List.mem_singleton] at hd; subst hd; exact hk
  | true =>
   rw [hp] at ep
   have hp' := of_decide_eq_true hp
   by_cases hid : c.n.id = id
   ·have hk : zad L[i] = ⟨p, id⟩ := by rw [<- hc]; simp [zad, hp', hid]
    have hf := zgs (i := 0) hlt hk hn
    rw [Nat.zero_add] at hf
    simp [ep, t0, t2, t7, e1, y1, i5, hid, hf, g1]
   ·have hk : zad c ≠ ⟨p, id⟩ := fun e => hid (congrArg Ky.id e)
    have hb : ((c.n.id : Int) == (id : Int)) = false := by simp; omega
    simp [ep, t0, t2, t7, e1, y1, i5, hb, hw]
    refine hK _ _ hlt ⟨by simp [t0, t2, t4], rfl, fun d hd => ?_⟩
    rw [tk1] at hd
    rcases List.mem_append.1 hd with hd | hd
    ·exact hn d hd
    ·rw [List.mem_singleton] at hd; subst hd; exact hk
 ·have hi2 : i = L.length := by omega
  rw [hi2, List.take_length] at hn
  simp [t0, t7, l1, hlt, ziu hn, g1]
theorem zhE {h : H} {v : V} {L : List Chg} {es : List (List V)} {p : Pfx} (s : CsAt h.get v L es) (hcap : zcb v) : Pure Tryz.prog 65 [.agg (pfxC p), v] h (.bool (zbd p L && mayP p)) := by
 refine zae Tryz.func65 S.a37c S.a37e rfl (Nat.le_of_ble_eq_true rfl) fun wf => ?_; simp only [S.a37]
 have b1 := s.sls.bound
 rw [s.len] at b1
 obtain ⟨h1, hh1⟩ : ∃ h1, h1 = h.push (.row (pfxC p)) := ⟨_, rfl⟩
 have g1 : Ge h h1 := by rw [hh1]; exact (Ge.refl _).push _
 have w1 : h1.WF := by rw [hh1]; exact wf.push _
 have c4 : zab h1.get h.next 4 = some (pfxC p) := by rw [hh1]; simp [pfxC]
 have s1 := s.ge wf g1
 have l1 := s1.sls.len
 rw [s1.len] at l1
 have rm := zjK (h := h1) (p := p)
 simp only [pfxC] at hh1 c4 rm
 simp [pfxC]
 rw [<- hh1]
 refine zaj (fun i t h' => (t 1 = v ∧ t 2 = .ptr h.next 4 0 ∧ t 5 = .int .i64 (i : Nat)) ∧ h' = h1 ∧ (L.take i).all (okW p) = true ∧ zav (L.take i)) L.length ⟨by simp, rfl, by simp, by simp [zav]⟩ ?_
 rintro i t h' hi ⟨⟨t1, t2, t5⟩, rfl, ha, hk⟩ K hK
 by_cases hlt : i < L.length
 ·have hw := zak hlt b1
  obtain ⟨pp, qq, o, cs, vp, vc, vx, vl, vk, e1, e2, e3, e4, e5, A, _, e6⟩ := s1.atG w1 hlt
  have y1 := e3 h' (Ge.refl _)
  obtain ⟨c, hc⟩ : ∃ c, c = L[i] := ⟨_, rfl⟩
  rw [<- hc] at e5 e6 A
  have i0 := e6 0 (by omega)
  have i5 := e6 5 (by omega)
  simp [chC] at i0 i5
  have e45 : (cs.drop (o + 1)).take 4 = pfxC c.n.p := (zeo (a := 1) (n := 4) e5 (by omega)).trans rfl
  have e46 : (cs.drop (o + 1)).take 6 = nlC c.n := (zeo (a := 1) (n := 6) e5 (by omega)).trans rfl
  have e47 : (cs.drop (o + 7)).take 16 = attC c.att vp vc vx vl vk := (zeo (a := 7) (n := 16) e5 (by omega)).trans rfl
  have ep := zh1 c.n.p p
  have nc := zlk (h := h') (n := c.n)
  have ck := zi2 A
  obtain ⟨vT, eT, sT⟩ := s1.take hcap (k := i) (by omega) .i64
  have fd := zen (p := p) (id := c.n.id) sT
  simp only [pfxC] at ep e45 fd
  simp only [nlC] at e46 nc
  simp only [attC] at e47 ck
  have o4 : o + 1 + 4 ≤ cs.length := by omega
  have o6 : o + 1 + 6 ≤ cs.length := by omega
  have o16 : o + 7 + 16 ≤ cs.length := by omega
  have tk1 : L.take (i + 1) = L.take i ++ [c] := by rw [List.take_add_one, List.getElem?_eq_getElem hlt, <- hc]; rfl
  have bad : okW p c = false -> (zbd p L && mayP p) = false := fun e => by
   have : L.all (okW p) = false := by
    cases hA : L.all (okW p) with
    | false => rfl
    | true => have := List.all_eq_true.1 hA c (by rw [hc]; exact List.getElem_mem hlt); rw [e] at this; cases this
   rw [zbd, this]; rfl
  simp [t1, t5, l1, hlt]
  refine zaL ?_
  simp [t1, t5, e1, y1, i0]
  cases hgn : c.gone with
  | true =>
   have := bad (by simp [okW, hgn])
   simp [this, g1]
  | false =>
   simp [t1, t2, t5, e1, y1, e45, c4, o4]
   cases hpx : decide (c.n.p = p) with
   | false =>
    rw [hpx] at ep
    have := bad (by simp [okW, of_decide_eq_false hpx])
    simp [ep, this, g1]
   | true =>
    rw [hpx] at ep
    have hpx' := of_decide_eq_true hpx
    simp [ep, t1, t5, e1, y1, e46, o6]
    refine zbf nc ?_
    cases hmn : mayN c.n with
    | false =>
     have := bad (by simp [okW, hmn])
     simp [this, g1]
    | true =>
     simp [t1, t5, e1, y1, e47, o16]
     refine zbf ck ?_
     cases hat : attB c.att with
     | false =>
      have := bad (by simp [okW, hat])
      simp [this, g1]
     | true =>
      simp [t1, t2, t5, e1, y1, c4, i5, eT]
      refine zbf fd ?_
      have okc : okW p c = true := by simp [okW, hgn, hpx', hmn, hat]
      have ek : (⟨p, c.n.id⟩ : Ky) = zad c := by simp [zad, hpx']
      rcases zcO ⟨p, c.n.id⟩ (L.take i) 0 with ⟨a, b⟩ | ⟨j, hj, a, b⟩
      ·simp [a, t5, hw]
       refine hK _ _ hlt ⟨by simp [t1, t2], rfl, by rw [tk1, List.all_append, ha]; simp [okc], (zd5 hlt hk).2 fun d hd => ?_⟩
       rw [<- hc, <- ek]; exact b d hd
      ·have : zbd p L = false := by
        rw [zbd, Bool.and_eq_false_iff]
        right
        refine decide_eq_false fun kL => ?_
        have kt : zav (L.take (i + 1)) := zdU (List.take_sublist _ _) kL
        exact (zd5 hlt hk).1 kt _ (List.getElem_mem hj) (by rw [b, ek, hc])
       have hge : (0 : Int) ≤ ((j : Nat) : Int) := by omega
       simp [a, this, g1, hge]
 ·have hi2 : i = L.length := by omega
  rw [hi2, List.take_length] at ha hk
  have hwb : zbd p L = true := by rw [zbd, ha, Bool.true_and]; exact decide_eq_true hk
  simp [t1, t2, t5, l1, hlt, c4]
  refine rm _ ?_
  simp [hwb, g1]
end Go.Am

namespace Go.Am
open Go.Proofs

set_option maxRecDepth 100000
theorem zjR {h : H} {R : Nat -> Prop} {lo : Nat} {w : V} {M : List Chg} {fs : List (List V)} {c : Chg} {vp vc vx vl vk : V} (wf : h.WF) (gl : Gl h lo 23 w fs) (hlo : lo ≤ h.next) (ar : AtR (ChP h R) M fs) (hR : ∀ j s cs, R j -> s ≤ 3 -> h.get j = some (.grow s cs) -> True) (ch : ChP h R c (chC c vp vc vx vl vk)) (hl : M.length ≤ 100000) :
  ∃ v' d, zaz (h.push (.row (chC c vp vc vx vl vk))).get (h.next + 1) 23 240 w (.sl h.next 23 0 1 (some 1)) = some (v', d) ∧ ((h.push (.row (chC c vp vc vx vl vk))).app d).WF ∧ (∀ j, j < lo -> ((h.push (.row (chC c vp vc vx vl vk))).app d).get j = h.get j) ∧ (∀ j, j < h.next -> j ∉ w.ids -> ((h.push (.row (chC c vp vc vx vl vk))).app d).get j = h.get j) ∧ (∀ j s cs, s ≤ 3 -> j < h.next -> h.get j = some (.grow s cs) -> ((h.push (.row (chC c vp vc vx vl vk))).app d).get j = some (.grow s cs)) ∧ h.next ≤ ((h.push (.row (chC c vp vc vx vl vk))).app d).next ∧ Gl ((h.push (.row (chC c vp vc vx vl vk))).app d) lo 23 v' (fs ++ [chC c vp vc vx vl vk]) ∧ AtR (ChP ((h.push (.row (chC c vp vc vx vl vk))).app d) R) (M ++ [c]) (fs ++ [chC c vp vc vx vl vk]) ∧ ∀ i ∈ v'.ids, i ∈ w.ids ∨ h.next ≤ i := by
 have f23 : ∀ e ∈ fs, e.length = 23 := fun e he => by obtain ⟨_, _, f⟩ := ar.mem e he; exact f.at.len
 have ones := ch.at.ones
 have fl := ar.1
 obtain ⟨v', d, ea, gl5, n5, k5, w5, id5⟩ := zcm (bytes := 240) (chC c vp vc vx vl vk) gl hlo f23 rfl ones (by decide) (by omega) (by omega)
 have keep5 : ∀ j s cs, s ≤ 3 -> j < h.next -> h.get j = some (.grow s cs) -> ((h.push (.row (chC c vp vc vx vl vk))).app d).get j = some (.grow s cs) := fun j s cs hs hj e => by
  by_cases hv : j ∈ w.ids
  ·rcases gl with ⟨_, rfl⟩ | ⟨_, j2, _, _, rfl, a3⟩
   ·simp [V.ids] at hv
   ·simp [V.ids] at hv
    subst hv
    rw [a3] at e
    cases e
    omega
  ·rw [k5 j hv hj]; exact e
 refine ⟨v', d, ea, w5 wf, fun j hj => k5 j (fun hv => by have := (gl.lo j hv).1; omega) (by omega), fun j hj hv => k5 j hv hj, keep5, n5, gl5, ?_, id5⟩
 exact (ar.mono fun _ _ f => f.keep3 n5 fun j s cs hs _ hj e => keep5 j s cs hs hj e).append (AtR.single (ch.keep3 n5 fun j s cs hs _ hj e => keep5 j s cs hs hj e))
theorem zkT {h : H} {R : Nat -> Prop} {v : V} {D : List Chg} {es : List (List V)} {fam : Int} (l : LfP h R v D es) (hR : ∀ j, h.next ≤ j -> R j) (hl : D.length ≤ 100000) {Q : V -> H -> Prop} (q : ∀ w fs h', Ge h h' -> h'.WF -> LfP h' R w (D.filter (famB fam)) fs -> Q w h') : Acalls Tryz.prog 28 [v, .int .i64 fam] h Q := by
 refine zal Tryz.func28 S.a16c S.a16e (Nat.le_of_ble_eq_true rfl) fun wf => ?_; simp only [S.a16]
 simp
 refine zaj (fun i t h' => (t 0 = v ∧ t 1 = .int .i64 fam ∧ t 6 = .int .i64 (i : Nat)) ∧ Ge h h' ∧ h'.WF ∧ ∃ (w : V) (fs : List (List V)), t 5 = w ∧ Gl h' h.next 23 w fs ∧ AtR (ChP h' R) ((D.take i).filter (famB fam)) fs) D.length ⟨by simp, Ge.refl _, wf, .nilsl, [], by simp, Gl.nil _ _ _, AtR.nil _⟩ ?_
 rintro i t h' hi ⟨⟨t0, t1, t6⟩, gb, wb, w, fs, t5, gl, ar⟩ K hK
 have lb := l.ge gb
 have hlen := lb.len h'.get
 have nb := gb.1
 by_cases hlt : i < D.length
 ·have hw := zak hlt (by omega : D.length < 9223372036854775808)
  obtain ⟨pp, qq, o, cs, vp, vc, vx, vl, vk, e1, e2, e3, e4, e5, A, e7, e6⟩ := (lb.ls.at (by omega)).atG wb hlt
  have y1 := e3 h' (Ge.refl _)
  obtain ⟨c, hc⟩ : ∃ c, c = D[i] := ⟨_, rfl⟩
  rw [<- hc] at e5 e6 A e7
  obtain ⟨o1, o2, o3, o4, o5⟩ := A.one
  have i1 := e6 1 (by omega)
  simp [chC] at i1
  have tk1 : D.take (i + 1) = D.take i ++ [c] := by rw [List.take_add_one, List.getElem?_eq_getElem hlt, <- hc]; rfl
  obtain ⟨e', e8, ch⟩ := lb.at'.2 i c (by rw [hc]; exact List.getElem?_eq_getElem hlt)
  have ee : e' = chC c vp vc vx vl vk := by rw [e7, Option.some.injEq] at e8; exact e8.symm
  rw [ee] at ch
  have fl : ((D.take i).filter (famB fam)).length ≤ D.length := Nat.le_trans (List.length_filter_le _ _) (by rw [List.length_take]; omega)
  obtain ⟨v', d, ea, w5, k5, _, _, n5, gl5, ar5, _⟩ := zjR wb gl nb ar (fun _ _ _ _ _ _ => trivial) ch (by omega)
  obtain ⟨h5, hh5⟩ : ∃ h5, h5 = (h'.push (.row (chC c vp vc vx vl vk))).app d := ⟨_, rfl⟩
  rw [<- hh5] at w5 k5 n5 gl5 ar5
  have g5 : Ge h h5 := ⟨by omega, fun j hj => by rw [k5 j hj]; exact gb.2 j hj⟩
  simp only [chC] at e5 ea hh5
  have quiet : famB fam c = false -> ∀ tt : Tm, (tt 0 = v ∧ tt 1 = .int .i64 fam ∧ tt 6 = .int .i64 ((i + 1 : Nat) : Int)) -> tt 5 = w -> K tt h' := fun e tt r5 e13 => hK _ _ hlt ⟨r5, gb, wb, w, fs, e13, gl, by rw [tk1, List.filter_append]; simp [e]; exact ar⟩
  have loud : famB fam c = true -> ∀ tt : Tm, (tt 0 = v ∧ tt 1 = .int .i64 fam ∧ tt 6 = .int .i64 ((i + 1 : Nat) : Int)) -> tt 5 = v' -> K tt h5 := fun e tt r5 e13 => hK _ _ hlt ⟨r5, g5, w5, v', _, e13, gl5, by rw [tk1, List.filter_append]; simp [e]; exact ar5⟩
  by_cases hf0 : fam = 0
  ·have hb1 : famB fam c = true := by rw [famB, hf0]; rfl
   have fb : (fam == 0) = true := by simp [hf0]
   simp [t0, t1, t5, t6, hlen, hlt, fb, e1, y1, e4, e5, o1, o2, o3, o4, o5, ea, <- hh5, hw]
   refine loud hb1 _ ?_ ?_
   ·simp [t0, t1]
   ·simp
  ·have fb : (fam == 0) = false := by simpa using hf0
   by_cases hf1 : c.n.p.fam = fam
   ·have hb1 : famB fam c = true := by rw [famB, hf1]; simp
    have fb2 : (c.n.p.fam == fam) = true := by simp [hf1]
    simp [t0, t1, t5, t6, hlen, hlt, fb, i1, fb2, e1, y1, e4, e5, o1, o2, o3, o4, o5, ea, <- hh5, hw]
    refine loud hb1 _ ?_ ?_
    ·simp [t0, t1]
    ·simp
   ·have hb1 : famB fam c = false := by rw [famB]; simp [hf0, hf1]
    have fb2 : (c.n.p.fam == fam) = false := by simpa using hf1
    simp [t0, t1, t6, hlen, hlt, fb, i1, fb2, e1, y1, hw]
    refine quiet hb1 _ ?_ ?_
    ·simp [t0, t1]
    ·simp [t5]
 ·have hi2 : i = D.length := by omega
  rw [hi2, List.take_length] at ar
  simp [t0, t5, t6, hlen, hlt]
  exact q w fs h' gb wb ⟨gl.fr.p.mono fun j _ hj => hR j hj.1, ar⟩
end Go.Am

namespace Go.Am
open Go.Proofs

set_option maxRecDepth 100000
def zr2 (R : Nat -> Prop) (h : H) (D' out : List Chg) (err : Int) (r : V) (h' : H) : Prop :=
 ∃ w es o eo, r = .tup [w, o, .int .i64 err] ∧ Ge h h' ∧ h'.WF ∧ LfP h' R w D' es ∧ LfP h' R o out eo
def zdy (p : Pfx) (D L : List Chg) : Int := if (zbd p L && mayP p) = true then (if zdx p D L = true then 7 else 0) else 2
def zbk (p : Pfx) (D L : List Chg) : List Chg := if (zbd p L && mayP p) = true then (if zdx p D L = true then D else zg5 p D L) else D
def zbv (p : Pfx) (D L : List Chg) : List Chg := if (zbd p L && mayP p) = true then (if zdx p D L = true then [] else zjv p D L) else []
theorem zjL {p : Pfx} {c : Chg} (h : c.n.p = p) : (zaX c).n.p = p := h
theorem zj3 {p : Pfx} (h : mayP p = true) : p.addr.length < 9223372036854775808 := by
 simp only [mayP, Bool.and_eq_true, decide_eq_true_eq] at h
 have : za0 p.fam ≤ 16 := by unfold za0; split <;> (try split) <;> omega
 omega
theorem zjC {h : H} {R : Nat -> Prop} {p : Pfx} {D L : List Chg} {w v : V} {es fs : List (List V)} (l : LfP h R w D es) (hR : ∀ j, h.next ≤ j -> R j) (rs : Rise cmpC D) (s : CsAt h.get v L fs) (hcap : zcb v) (zL : ∀ c ∈ L, AttSz c.att) (hD : D.length ≤ 10000) (hl : L.length ≤ 10000) :
  Acalls Tryz.prog 25 [w, .agg (pfxC p), v] h (zr2 R h (zbk p D L) (zbv p D L) (zdy p D L)) := by
 refine zal Tryz.func25 S.a13c S.a13e (Nat.le_of_ble_eq_true rfl) fun wf => ?_; simp only [S.a13]
 have ow := l.one
 obtain ⟨h1, hh1⟩ : ∃ h1, h1 = h.push (.row (pfxC p)) := ⟨_, rfl⟩
 have g1 : Ge h h1 := by rw [hh1]; exact (Ge.refl _).push _
 have w1 : h1.WF := by rw [hh1]; exact wf.push _
 have n1 : h1.next = h.next + 1 := by rw [hh1]; simp
 have c4 : zab h1.get h.next 4 = some (pfxC p) := by rw [hh1]; simp [pfxC]
 have ml := zhE (p := p) (s.ge wf g1) hcap
 obtain ⟨ok, hok⟩ : ∃ ok, ok = (zbd p L && mayP p) := ⟨_, rfl⟩
 rw [<- hok] at ml
 have eE : zdy p D L = if ok = true then (if zdx p D L = true then 7 else 0) else 2 := by rw [hok]; rfl
 have eD : zbk p D L = if ok = true then (if zdx p D L = true then D else zg5 p D L) else D := by rw [hok]; rfl
 have eO : zbv p D L = if ok = true then (if zdx p D L = true then [] else zjv p D L) else [] := by rw [hok]; rfl
 obtain ⟨zE, hzE⟩ : ∃ z, z = zdy p D L := ⟨_, rfl⟩
 obtain ⟨zD, hzD⟩ : ∃ z, z = zbk p D L := ⟨_, rfl⟩
 obtain ⟨zO, hzO⟩ : ∃ z, z = zbv p D L := ⟨_, rfl⟩
 rw [<- hzE] at eE ⊢
 rw [<- hzD] at eD ⊢
 rw [<- hzO] at eO ⊢
 simp only [pfxC] at hh1 c4 ml
 simp [pfxC]
 rw [<- hh1]
 refine ml _ ?_
 cases hk : ok with
 | false =>
  rw [hk] at eE eD eO
  simp at eE eD eO
  simp
  refine ⟨w, es, .nilsl, [], by rw [eE], g1, w1, by rw [eD]; exact l.ge g1, by rw [eO]; exact LfP.nil _ _⟩
 | true =>
  rw [hk] at eE eD eO hok
  simp at eE eD eO
  have hok2 : zbd p L = true ∧ mayP p = true := by simpa using hok.symm
  have okL : ∀ c ∈ L, okW p c = true := fun c hc => by
   have := hok2.1
   rw [zbd, Bool.and_eq_true] at this
   exact List.all_eq_true.1 this.1 c hc
  have kL : zav L := by
   have := hok2.1
   rw [zbd, Bool.and_eq_true] at this
   exact of_decide_eq_true this.2
  have pL : ∀ c ∈ L, c.n.p = p := fun c hc => by
   have := okL c hc
   simp only [okW, Bool.and_eq_true, decide_eq_true_eq] at this
   exact this.1.1.2
  have ad := zj3 hok2.2
  simp
  -- what stays, what is gone
  refine zb0 (id := 0) (fun t h' => (t 0 = w ∧ t 2 = v ∧ t 4 = .ptr h.next 4 0) ∧ Ge h h' ∧ h1.next ≤ h'.next ∧ h'.WF ∧ h'.get h.next = some (.row (pfxC p)) ∧ ∃ (u : V) (gs : List (List V)) (o : V) (eo : List (List V)), t 9 = u ∧ t 10 = o ∧ LfP h' R u (D.filter fun c => !inP p c) gs ∧ LfP h' R o (((D.filter (za3 p L)).map zaX).foldl putC []) eo) (fun Rn hRn => ?_) ?_
  ·refine zaj (fun i t h' => (t 0 = w ∧ t 2 = v ∧ t 4 = .ptr h.next 4 0 ∧ t 11 = .int .i64 (i : Nat)) ∧ Ge h h' ∧ h1.next ≤ h'.next ∧ h'.WF ∧ h'.get h.next = some (.row (pfxC p)) ∧ ∃ (u : V) (gs : List (List V)) (o : V) (eo : List (List V)), t 9 = u ∧ t 10 = o ∧ Gl h' h1.next 23 u gs ∧ AtR (ChP h' R) ((D.take i).filter fun c => !inP p c) gs ∧ LfP h' (fun j => R j ∧ j ∉ u.ids) o ((((D.take i).filter (za3 p L)).map zaX).foldl putC []) eo) D.length
    ⟨by simp, g1, Nat.le_refl _, w1, by rw [hh1]; simp [pfxC], .nilsl, [], .nilsl, [], by simp, by simp, Gl.nil _ _ _, AtR.nil _, LfP.nil _ _⟩ ?_
   rintro i t h' hi ⟨⟨t0, t2, t4, t11⟩, gb, nb, wb, y4, u, gs, o, eo, t9, t10, gl, ar, lo⟩ K hK
   have lb := l.ge gb
   have hlen := lb.len h'.get
   have sb := s.ge wf gb
   have c4' : zab h'.get h.next 4 = some (pfxC p) := (zag (n := 4) y4 rfl).trans rfl
   by_cases hlt : i < D.length
   ·have hw := zak hlt (by omega : D.length < 9223372036854775808)
    obtain ⟨pp, qq, oo, cs, vp, vc, vx, vl, vk, e1, e2, e3, e4, e5, A, e7, e6⟩ := (lb.ls.at (by omega)).atG wb hlt
    have y1 := e3 h' (Ge.refl _)
    obtain ⟨c, hc⟩ : ∃ c, c = D[i] := ⟨_, rfl⟩
    rw [<- hc] at e5 e6 A e7
    obtain ⟨o1, o2, o3, o4, o5⟩ := A.one
    have tk1 : D.take (i + 1) = D.take i ++ [c] := by rw [List.take_add_one, List.getElem?_eq_getElem hlt, <- hc]; rfl
    obtain ⟨e', e8, ch⟩ := lb.at'.2 i c (by rw [hc]; exact List.getElem?_eq_getElem hlt)
    have ee : e' = chC c vp vc vx vl vk := by rw [e7, Option.some.injEq] at e8; exact e8.symm
    rw [ee] at ch
    have e46 : (cs.drop (oo + 1)).take 6 = nlC c.n := (zeo (a := 1) (n := 6) e5 (by omega)).trans rfl
    have o6 : oo + 1 + 6 ≤ cs.length := by omega
    have ep := zh1 c.n.p p
    -- the box of its place
    obtain ⟨h2, hh2⟩ : ∃ h2, h2 = h'.push (.row (nlC c.n)) := ⟨_, rfl⟩
    have g2 : Ge h' h2 := by rw [hh2]; exact (Ge.refl _).push _
    have w2 : h2.WF := by rw [hh2]; exact wb.push _
    have n2 : h2.next = h'.next + 1 := by rw [hh2]; simp
    have cN : zab h2.get h'.next 6 = some (nlC c.n) := by rw [hh2]; simp [nlC]
    have xN : h2.get h'.next = some (.row (nlC c.n)) := by rw [hh2]; simp
    have c42 : zab h2.get h.next 4 = some (pfxC p) := by rw [g2.cells (by omega)]; exact c4'
    have y42 : h2.get h.next = some (.row (pfxC p)) := (g2.2 _ (by omega)).trans y4
    have y2 := e3 h2 g2
    have gl2 : Gl h2 h1.next 23 u gs := gl.keep g2.1 fun j hj => g2.2 j (gl.lo j hj).2
    have ar2 : AtR (ChP h2 R) ((D.take i).filter fun c => !inP p c) gs := ar.mono fun _ _ f => f.ge g2
    have lo2 := lo.ge g2
    have gl1 : ∀ j, j < h1.next -> True := fun _ _ => trivial
    have fl : ((D.take i).filter fun c => !inP p c).length ≤ D.length := Nat.le_trans (List.length_filter_le _ _) (by rw [List.length_take]; omega)
    obtain ⟨v', d, ea, w5, k5, k5u, k53, n5, gl5, ar5, id5⟩ := zjR w2 gl2 (by omega) ar2 (fun _ _ _ _ _ _ => trivial) (ch.ge g2) (by omega)
    obtain ⟨h5, hh5⟩ : ∃ h5, h5 = (h2.push (.row (chC c vp vc vx vl vk))).app d := ⟨_, rfl⟩
    rw [<- hh5] at w5 k5 k5u k53 n5 gl5 ar5
    have a0 : ¬ h.next = h'.next := by omega
    simp only [chC] at e5 ea hh5
    simp only [pfxC] at c4'
    simp only [nlC, pfxC] at e46 hh2 cN xN c42 ep
    cases hpx : decide (c.n.p = p) with
    | false =>
     rw [hpx] at ep
     have e0 : inP p c = false := hpx
     have g0 : za3 p L c = false := by rw [za3, e0]; rfl
     simp [t0, t4, t11, hlen, hlt, e1, y1, e46, o6]
     rw [zaA _ _ _ rfl, <- hh2]
     simp [a0, c4', ep, t0, t9, t11, e1, y2, e4, e5, o1, o2, o3, o4, o5, ea, <- hh5, hw]
     have g5 : Ge h h5 := ⟨by have := gb.1; omega, fun j hj => by have := gb.1; rw [k5 j (by omega), g2.2 j (by omega)]; exact gb.2 j hj⟩
     refine hK _ _ hlt ⟨by simp [t0, t2, t4], g5, by omega, w5, ?_, v', _, o, eo, by simp, by simp [t10], gl5, ?_, ?_⟩
     ·rw [k5 _ (by omega)]; exact y42
     ·rw [tk1, List.filter_append]; simp [e0]; exact ar5
     ·rw [tk1, List.filter_append]; simp [g0]
      refine (lo2.mono (R' := fun j => (R j ∧ j ∉ v'.ids) ∧ j ∉ u.ids) fun j hj hr => ⟨⟨hr.1, fun hv => (id5 j hv).elim hr.2 fun h9 => by omega⟩, hr.2⟩).keep n5 (fun j hj hl => k5u j hl hj.2) |>.mono fun j _ hr => hr.1
    | true =>
     rw [hpx] at ep
     have e0 : inP p c = true := hpx
     have hpx' := of_decide_eq_true hpx
     have fd := zen (p := p) (id := c.n.id) (sb.ge wb g2)
     simp only [pfxC] at fd
     have ek : (⟨p, c.n.id⟩ : Ky) = zad c := by simp [zad, hpx']
     simp [t0, t4, t11, hlen, hlt, e1, y1, e46, o6]
     rw [zaA _ _ _ rfl, <- hh2]
     simp [a0, c4', ep, t2, t4, c42, cN]
     refine fd _ ?_
     have uids : ∀ j ∈ u.ids, j < h'.next := fun j hj => (gl.lo j hj).2
     rcases zcO ⟨p, c.n.id⟩ L 0 with ⟨a, b⟩ | ⟨j, hj, a, b⟩
     ·have gb1 : za3 p L c = true := by
       rw [za3, e0, Bool.true_and, Bool.not_eq_true', List.any_eq_false]
       intro d hd
       simp only [decide_eq_true_eq, <- ek]
       exact b d hd
      obtain ⟨h3, hh3⟩ : ∃ h3, h3 = h2.set h'.next (.row [.int .i64 c.n.p.fam, .int .u64 (c.n.p.rd : Nat), .str c.n.p.addr, .int .i64 c.n.p.len, .int .u32 (c.n.id : Nat), .int .u32 0]) := ⟨_, rfl⟩
      have n3 : h3.next = h2.next := by rw [hh3]; simp
      have w3 : h3.WF := by rw [hh3]; exact w2.set (by omega) _
      have g3 : Ge h' h3 := by rw [hh3]; exact g2.set (Nat.le_refl _) _
      have lo3 := lo.ge g3
      have c63 : zab h3.get h'.next 6 = some [.int .i64 c.n.p.fam, .int .u64 (c.n.p.rd : Nat), .str c.n.p.addr, .int .i64 c.n.p.len, .int .u32 (c.n.id : Nat), .int .u32 0] := by rw [hh3]; simp
      have rG : Rise cmpC ((((D.take i).filter (za3 p L)).map zaX).foldl putC []) := zbj _ _ List.Pairwise.nil
      have lenG : ((((D.take i).filter (za3 p L)).map zaX).foldl putC []).length ≤ D.length := by
       have h1 := zb5 (((D.take i).filter (za3 p L)).map zaX) []
       have h2 := List.length_filter_le (za3 p L) (D.take i)
       simp only [List.length_map, List.length_nil, List.length_take] at h1 h2
       omega
      have rp := fun Q q => zfa (Q := Q) (c := zaX c) (vp := .nilsl) (vc := .nilsl) (vx := .nilsl) (vl := .nilsl) (vk := .nilsl) lo3 (fun j hj => ⟨hR j (by have := gb.1; omega), fun hv => by have := uids j hv; omega⟩) rG (znR h3.get) (zgD h3 R).sz (by rw [zjL hpx']; exact ad) (by omega) q
      have z0 : ((0 : Nat) : Int) = 0 := rfl
      simp only [chC, zaX, att0, z0] at rp
      simp [a, xN, t10]
      rw [<- hh3]
      refine rp _ fun o' eo' h6 g6 w6 lo6 => ?_
      have n6 := g6.1
      have gg6 := g3.trans g6
      simp [t11, hw]
      refine hK _ _ hlt ⟨by simp [t0, t2, t4], gb.trans gg6, by omega, w6, ?_, u, gs, o', eo', by simp [t9], by simp, gl.keep gg6.1 fun j hj => gg6.2 j (uids j hj), ?_, ?_⟩
      ·rw [gg6.2 _ (by omega)]; exact y4
      ·rw [tk1, List.filter_append]; simp [e0]; exact ar.mono fun _ _ f => f.ge gg6
      ·rw [tk1, List.filter_append, List.map_append, List.foldl_append]
       have e9 : [c].filter (za3 p L) = [c] := by simp [gb1]
       rw [e9]; exact lo6
     ·have gb0 : za3 p L c = false := by
       rw [za3, Bool.and_eq_false_iff]
       right
       have : L.any (fun d => decide (zad d = zad c)) = true := List.any_eq_true.2 ⟨L[j], List.getElem_mem hj, decide_eq_true (b.trans ek)⟩
       rw [this]; rfl
      have hge : ¬ ((j : Nat) : Int) < 0 := by omega
      simp [a, t11, hw, hge]
      refine hK _ _ hlt ⟨by simp [t0, t2, t4], gb.trans g2, by omega, w2, y42, u, gs, o, eo, by simp [t9], by simp [t10], gl2, ?_, ?_⟩
      ·rw [tk1, List.filter_append]; simp [e0]; exact ar2
      ·rw [tk1, List.filter_append]; simp [gb0]; exact lo2
   ·have hi2 : i = D.length := by omega
    rw [hi2, List.take_length] at ar lo
    simp [t0, t11, hlen, hlt]
    exact hRn _ _ ⟨by simp [t0, t2, t4], gb, nb, wb, y4, u, gs, o, eo, by simp [t9], by simp [t10], ⟨gl.fr.p.mono fun j _ hj => hR j (by omega), ar⟩, lo.mono fun j _ hr => hr.1⟩
  ·rintro t h2 ⟨⟨t0, t2, t4⟩, g2, n2, w2, y4, u, gs, o, eo, t9, t10, lu, lo⟩
   have s2 := s.ge wf g2
   have l1 := lu.len h2.get
   have l2 := s2.sls.len
   rw [s2.len] at l2
   obtain ⟨F, hF⟩ : ∃ F, F = D.filter fun c => !inP p c := ⟨_, rfl⟩
   obtain ⟨G, hG⟩ : ∃ G, G = ((D.filter (za3 p L)).map zaX).foldl putC [] := ⟨_, rfl⟩
   have hF2 : zdx p D L = decide (4096 < F.length + L.length) := by rw [hF]; rfl
   have Fl : F.length ≤ D.length := by rw [hF]; exact List.length_filter_le _ _
   have rF : Rise cmpC F := by rw [hF]; exact za9 _ rs
   have rG : Rise cmpC G := by rw [hG]; exact zbj _ _ List.Pairwise.nil
   have Gl' : G.length ≤ D.length := by
    rw [hG]
    have h1 := zb5 ((D.filter (za3 p L)).map zaX) []
    have h2 := List.length_filter_le (za3 p L) D
    simp only [List.length_map, List.length_nil] at h1
    omega
   rw [<- hF] at lu l1
   rw [<- hG] at lo
   have wa : IntKind.i64.wrap ((F.length : Int) + (L.length : Int)) = ((F.length + L.length : Nat) : Int) := by rw [<- Int.natCast_add]; exact zah (by omega) (by omega)
   have g2n := g2.1
   by_cases hfull : 4096 < F.length + L.length
   ·rw [hF2, decide_eq_true hfull] at eE eD eO
    simp at eE eD eO
    have hf4 : (4096 : Int) < (F.length : Int) + (L.length : Int) := by omega
    have hf5 : (4096 : Int) < ((F.length + L.length : Nat) : Int) := by omega
    simp [t0, t2, t9, l1, l2, wa, hf4]
    exact ⟨w, es, .nilsl, [], by rw [eE], g2, w2, by rw [eD]; exact l.ge g2, by rw [eO]; exact LfP.nil _ _⟩
   ·rw [hF2, decide_eq_false hfull] at eE eD eO
    simp at eE eD eO
    have hf4 : ¬ (4096 : Int) < (F.length : Int) + (L.length : Int) := by omega
    have hf5 : ¬ (4096 : Int) < ((F.length + L.length : Nat) : Int) := by omega
    simp [t2, t9, l1, l2, wa, hf4]
    refine zaj (fun i t h' => (t 0 = w ∧ t 2 = v ∧ t 4 = .ptr h.next 4 0 ∧ t 13 = .int .i64 (i : Nat)) ∧ Ge h2 h' ∧ h'.WF ∧ ∃ (u : V) (gs : List (List V)) (o : V) (eo : List (List V)), t 9 = u ∧ t 10 = o ∧ LfP h' R u ((L.take i).foldl putC F) gs ∧ LfP h' R o (((L.take i).filter (newB D)).foldl putC G) eo) L.length
     ⟨by simp [t0, t2, t4], Ge.refl _, w2, u, gs, o, eo, by simp [t9], by simp [t10], lu, lo⟩ ?_
    rintro i t h' hi ⟨⟨t0, t2, t4, t13⟩, gb, wb, u, gs, o, eo, t9, t10, lu, lo⟩ K hK
    have nb := gb.1
    have ghb := g2.trans gb
    have sb := s.ge wf ghb
    have lb := l.ge ghb
    have hlen := sb.sls.len
    rw [sb.len] at hlen
    have c4' : zab h'.get h.next 4 = some (pfxC p) := (zag (n := 4) ((gb.2 _ (by omega)).trans y4) rfl).trans rfl
    have Rh : ∀ j, h'.next ≤ j -> R j := fun j hj => hR j (by omega)
    by_cases hlt : i < L.length
    ·have hw := zak hlt (by omega : L.length < 9223372036854775808)
     obtain ⟨pp, qq, oo, cs, vp, vc, vx, vl, vk, e1, e2, e3, e4, e5, A, e7, e6⟩ := sb.atG wb hlt
     have y1 := e3 h' (Ge.refl _)
     obtain ⟨c, hc⟩ : ∃ c, c = L[i] := ⟨_, rfl⟩
     rw [<- hc] at e5 e6 A e7
     have hcL : c ∈ L := by rw [hc]; exact List.getElem_mem hlt
     have zc := zL c hcL
     have pc := pL c hcL
     have tk1 : L.take (i + 1) = L.take i ++ [c] := by rw [List.take_add_one, List.getElem?_eq_getElem hlt, <- hc]; rfl
     have hAd : c.n.p.addr.length < 9223372036854775808 := by rw [pc]; exact ad
     have lenU := zb5 (L.take i) F
     have lenO := zb5 ((L.take i).filter (newB D)) G
     have lenN := List.length_filter_le (newB D) (L.take i)
     rw [List.length_take] at lenU lenN
     have rp := fun Q q => zfa (Q := Q) lu Rh (zbj _ _ rF) A zc hAd (by omega) q
     simp only [chC] at e5 rp
     simp [t2, t9, t13, hlen, hlt, e1, y1, e4, e5]
     refine rp _ fun u' gs' h3 g3 w3 lu3 => ?_
     have n3 := g3.1
     have lb3 := lb.ge g3
     have lo3 := lo.ge g3
     have A3 := A.ge wb g3
     have y3 := e3 h3 g3
     have c43 : zab h3.get h.next 4 = some (pfxC p) := by rw [g3.cells (by omega)]; exact c4'
     have i5 := e6 5 (by omega)
     simp [chC] at i5
     have fd := zen (p := p) (id := c.n.id) (lb3.ls.at (by omega))
     have ek : (⟨p, c.n.id⟩ : Ky) = zad c := by simp [zad, pc]
     have rp2 := fun Q q => zfa (Q := Q) lo3 (fun j hj => Rh j (by omega)) (zbj _ _ rG) A3 zc hAd (by omega) q
     have lu4 : LfP h3 R u' ((L.take (i + 1)).foldl putC F) gs' := by rw [tk1, List.foldl_append]; exact lu3
     have news : newB D c = true -> ∀ (o' : V) (eo' : List (List V)) (h4 : H), Ge h3 h4 -> h4.WF -> LfP h4 R o' (putC (((L.take i).filter (newB D)).foldl putC G) c) eo' -> ∀ tt : Tm, (tt 0 = w ∧ tt 2 = v ∧ tt 4 = .ptr h.next 4 0 ∧ tt 13 = .int .i64 ((i + 1 : Nat) : Int)) -> tt 9 = u' -> tt 10 = o' -> K tt h4 := fun e o' eo' h4 g4 w4 lo4 tt r e9 e10 =>
      hK _ _ hlt ⟨r, (gb.trans g3).trans g4, w4, u', gs', o', eo', e9, e10, lu4.ge g4, by rw [tk1, List.filter_append, List.foldl_append]; simp [e]; exact lo4⟩
     have olds : newB D c = false -> ∀ tt : Tm, (tt 0 = w ∧ tt 2 = v ∧ tt 4 = .ptr h.next 4 0 ∧ tt 13 = .int .i64 ((i + 1 : Nat) : Int)) -> tt 9 = u' -> tt 10 = o -> K tt h3 := fun e tt r e9 e10 =>
      hK _ _ hlt ⟨r, gb.trans g3, w3, u', gs', o, eo, e9, e10, lu4, by rw [tk1, List.filter_append]; simp [e]; exact lo3⟩
     simp only [pfxC] at c43 fd
     simp only [chC] at rp2
     simp
     refine zaL ?_
     simp [t0, t2, t4, t13, c43, e1, y3, i5]
     refine zbf fd ?_
     simp
     refine zaL ?_
     rcases zcO ⟨p, c.n.id⟩ D 0 with ⟨a, b⟩ | ⟨j, hj, a, b⟩
     ·have new1 : newB D c = true := by
       rw [newB, Bool.not_eq_true']
       exact decide_eq_false fun hcD => b c hcD ek.symm
      simp [a, t2, t10, t13, e1, y3, e4, e5]
      refine rp2 _ fun o' eo' h4 g4 w4 lo4 => ?_
      simp [t13, hw]
      refine news new1 o' eo' h4 g4 w4 lo4 _ ?_ ?_ ?_
      ·simp [t0, t2, t4]
      ·simp
      ·simp
     ·rw [Nat.zero_add] at a
      have hge : ¬ ((j : Nat) : Int) < 0 := by omega
      obtain ⟨pp', qq', oo', cs', wp, wc, wx, wl, wk, d1, d2, d3, d4, d5, B, d7, d6⟩ := (lb3.ls.at (by omega)).atG w3 hj
      have z1 := d3 h3 (Ge.refl _)
      obtain ⟨x, hx⟩ : ∃ x, x = D[j] := ⟨_, rfl⟩
      rw [<- hx] at d5 B b
      have sc := zm3 (a := x) (b := c) B A3
      have hdc : newB D c = !decide (x = c) := by
       rw [newB]
       congr 1
       rw [decide_eq_decide]
       have xD : x ∈ D := by rw [hx]; exact List.getElem_mem hj
       constructor
       ·intro hcD
        exact ziO (zcw rs) xD hcD (b.trans ek)
       ·rintro rfl; exact xD
      simp only [chC] at d5 sc
      simp [a, hge, t0, t2, t13, e1, y3, e4, e5, d1, z1, d4, d5]
      refine zbf sc ?_
      cases hq : decide (x = c) with
      | true =>
       rw [hq] at hdc
       simp [t13, hw]
       refine olds hdc _ ?_ ?_ ?_
       ·simp [t0, t2, t4]
       ·simp
       ·simp [t10]
      | false =>
       rw [hq] at hdc
       simp [t2, t10, t13, e1, y3, e4, e5]
       refine rp2 _ fun o' eo' h4 g4 w4 lo4 => ?_
       simp [t13, hw]
       refine news hdc o' eo' h4 g4 w4 lo4 _ ?_ ?_ ?_
       ·simp [t0, t2, t4]
       ·simp
       ·simp
    ·have hi2 : i = L.length := by omega
     rw [hi2, List.take_length] at lu lo
     have hD2 : zg5 p D L = L.foldl putC F := by rw [hF]; rfl
     have hO2 : zjv p D L = (L.filter (newB D)).foldl putC G := by rw [hG, zjv, List.foldl_append]
     simp [t2, t9, t10, t13, hlen, hlt]
     exact ⟨u, gs, o, eo, by rw [eE], ghb, wb, by rw [eD, hD2]; exact lu, by rw [eO, hO2]; exact lo⟩
end Go.Am

namespace Go.Am
open Go.Proofs

set_option maxRecDepth 100000
theorem FcP.atn {h : H} {R : Nat -> Prop} {sz : Nat} {v : V} {es : List (List V)} (f : FcP h R sz v es) (hs : ∀ e ∈ es, e.length = sz) {k : Nat} (hk : k < es.length) :
  ∃ j n, (∀ kd, zaH sz v (.int kd (k : Int)) = some (.ptr j n (k * sz))) ∧ R j ∧ h.get j = some (.grow sz es.flatten) ∧ es.flatten.length = n ∧ k * sz + sz ≤ n ∧ ∀ i, i < sz -> es.flatten[k * sz + i]? = es[k][i]? := by
 have hl := zau hs
 rcases f with ⟨rfl, _⟩ | ⟨hne, j, r, b, rfl, d⟩
 ·simp at hk
 ·have hm : k * sz + sz ≤ es.length * sz := by
   have := Nat.mul_le_mul_right sz (show k + 1 ≤ es.length by omega)
   rw [Nat.add_mul] at this; omega
  refine ⟨j, es.flatten.length, fun kd => ?_, r, d, rfl, by omega, fun i hi => ?_⟩
  ·simp only [zbU, Int.toNat_natCast]
   rw [if_pos ⟨by omega, by omega⟩]; simp
  ·have := zeh hs hk
   rw [<- this, List.getElem?_take, if_pos hi, List.getElem?_drop]
theorem FcP.lenn {h : H} {R : Nat -> Prop} {sz : Nat} {v : V} {es : List (List V)} (f : FcP h R sz v es) (g : Nat -> Option O) : lenV 1 g v = some (.int .i64 (es.length : Nat)) := by
 rcases f with ⟨rfl, rfl | ⟨k, rfl⟩⟩ | ⟨_, j, _, _, rfl, _⟩ <;> simp [lenV]
theorem zec {h : H} {R : Nat -> Prop} {v : V} {L : List Chg} {es : List (List V)} (l : LsP h R v L es) (hl : L.length ≤ 1000000) {Q : V -> H -> Prop} (q : ∀ h', Sp R h h' -> Q (.tup []) h') : Acalls Tryz.prog 27 [v] h Q := by
 refine zal Tryz.func27 S.a15c S.a15e (Nat.le_of_ble_eq_true rfl) fun wf => ?_; simp only [S.a15]
 have hlen : ∀ g, lenV 1 g v = some (.int .i64 (L.length : Nat)) := fun g => by
  rw [<- l.len]
  rcases l.fc with ⟨rfl, rfl | ⟨k, rfl⟩⟩ | ⟨_, j, ca, o, _, _, rfl, _⟩ <;> simp [lenV]
 simp
 refine zaj (fun i t h' => (t 0 = v ∧ t 2 = .int .i64 (i : Nat)) ∧ Sp R h h') L.length ⟨by simp, Sp.refl wf⟩ ?_
 rintro i t h' hi ⟨⟨t0, t2⟩, sp⟩ K hK
 by_cases hlt : i < L.length
 ·have hw := zak hlt (by omega : L.length < 9223372036854775808)
  have hie : i < es.length := by rw [l.len]; exact hlt
  obtain ⟨j, n, o, f1, f2, f3, f4, f5, f6⟩ := l.fc.at l.lens hie
  obtain ⟨e, he, vp, vc, vx, vl, vk, hee, A⟩ := l.at' i _ (List.getElem?_eq_getElem hlt)
  have hee2 : es[i] = chC L[i] vp vc vx vl vk := by rw [List.getElem?_eq_getElem hie, Option.some.injEq] at he; rw [he, hee]
  have i17 := f6 17 (by omega)
  have i8 := f6 8 (by omega)
  rw [hee2] at i17 i8
  simp [chC] at i17 i8
  have fc := A.comms
  obtain ⟨ps, pf, pl, pat⟩ := A.path
  have spine : ∀ g, Sp R h g -> zab g.get j n = some o.cells := fun g s => by rw [zag (s.row f2 f3) f4]
  obtain ⟨cl, hcl⟩ : ∃ cl, cl = L[i].att.comms := ⟨_, rfl⟩
  rw [<- hcl] at fc
  have zc := A.sz.comms
  rw [<- hcl] at zc
  have zp := A.sz.path
  have zs := A.sz.segs
  obtain ⟨pa, hpa⟩ : ∃ pa, pa = L[i].att.path := ⟨_, rfl⟩
  rw [<- hpa] at pl pat zp zs
  have clen : ∀ g, lenV 1 g vc = some (.int .i64 (cl.length : Nat)) := fun g => by have := fc.lenn g; rw [List.length_map] at this; exact this
  have plen : ∀ g, lenV 1 g vp = some (.int .i64 (pa.length : Nat)) := fun g => by have := pf.lenn g; rw [pl] at this; exact this
  simp [t0, t2, hlen, hlt]
  refine zb0 (id := 2) (fun t g => (t 0 = v ∧ t 2 = .int .i64 (i : Nat)) ∧ Sp R h g) (fun Rn hRn => ?_) ?_
  ·refine zaj (fun m t g => (t 0 = v ∧ t 2 = .int .i64 (i : Nat) ∧ t 3 = .int .i64 (m : Nat)) ∧ Sp R h g) cl.length ⟨by simp [t0, t2], sp⟩ ?_
   rintro m t g hm ⟨⟨u0, u2, u3⟩, sg⟩ K2 hK2
   have cg := spine g sg
   by_cases hmt : m < cl.length
   ·have hw2 := zak hmt (by omega : cl.length < 9223372036854775808)
    obtain ⟨j2, n2, a1, r2, d2, a3, a4, a5⟩ := fc.atn (zbT _) (k := m) (by simpa using hmt)
    obtain ⟨cs2, e2, l2⟩ := sg.grow d2
    rw [a3] at l2
    have a1' := a1 .i64
    simp only [Nat.mul_one] at a1' a4
    have hml : m + 1 ≤ n2 := by omega
    simp [u0, u2, u3, f1, cg, i17, clen, hmt, a1', e2, l2, hw2, hml]
    refine hK2 _ _ hmt ?_
    refine ⟨by simp [u0, u2], ?_⟩
    exact sg.set r2 e2 (by simp; omega)
   ·simp [u0, u2, u3, f1, cg, i17, clen, hmt]
    exact hRn _ _ ⟨by simp [u0, u2], sg⟩
  ·rintro t h2 ⟨⟨t0, t2⟩, sp⟩
   simp
   refine zaj (fun m t g => (t 0 = v ∧ t 2 = .int .i64 (i : Nat) ∧ t 4 = .int .i64 (m : Nat)) ∧ Sp R h g) pa.length ⟨by simp [t0, t2], sp⟩ ?_
   rintro m t g hm ⟨⟨u0, u2, u4⟩, sg⟩ K2 hK2
   have cg := spine g sg
   by_cases hmt : m < pa.length
   ·have hw2 := zak hmt (by omega : pa.length < 9223372036854775808)
    obtain ⟨w, ew, fw⟩ := pat m _ (List.getElem?_eq_getElem hmt)
    have s2 : ∀ e ∈ ps, e.length = 2 := zcv pl fun i s hi => by obtain ⟨w, e, _⟩ := pat i s hi; exact ⟨w, e⟩
    obtain ⟨j2, n2, a1, r2, d2, a3, a4, a5⟩ := pf.atn s2 (k := m) (by omega)
    have a1' := a1 .i64
    have b1 := a5 1 (by omega)
    have ew' : ps[m]'(by omega) = [.int .i64 pa[m].kind, w] := by rw [List.getElem?_eq_getElem (by omega), Option.some.injEq] at ew; exact ew
    rw [ew'] at b1
    simp at b1
    have d2' : ∀ G, Sp R h G -> zab G.get j2 n2 = some ps.flatten := fun G sG => by
     have := sG.row d2 (by simp)
     rw [zag this (by simpa using a3)]; rfl
    obtain ⟨al, hal⟩ : ∃ al, al = pa[m].ases := ⟨_, rfl⟩
    have za := zs pa[m] (List.getElem_mem hmt)
    rw [<- hal] at fw za
    have alen : ∀ g, lenV 1 g w = some (.int .i64 (al.length : Nat)) := fun g => by have := fw.lenn g; rw [List.length_map] at this; exact this
    simp [u0, u2, u4, f1, cg, i8, plen, hmt]
    refine zaj (fun k t g => (t 0 = v ∧ t 2 = .int .i64 (i : Nat) ∧ t 4 = .int .i64 (m : Nat) ∧ t 5 = .int .i64 (k : Nat)) ∧ Sp R h g) al.length ⟨by simp [u0, u2, u4], sg⟩ ?_
    rintro k t g2 hk ⟨⟨x0, x2, x4, x5⟩, sg2⟩ K3 hK3
    have cg2 := spine g2 sg2
    have dg2 := d2' g2 sg2
    by_cases hkt : k < al.length
    ·have hw3 := zak hkt (by omega : al.length < 9223372036854775808)
     obtain ⟨j3, n3, c1, r3, d3, c3, c4, c5⟩ := fw.atn (zbT _) (k := k) (by simpa using hkt)
     obtain ⟨cs3, e3, l3⟩ := sg2.grow d3
     rw [c3] at l3
     have c1' := c1 .i64
     simp only [Nat.mul_one] at c1' c4
     have hkl : k + 1 ≤ n3 := by omega
     simp [x0, x2, x4, x5, f1, cg2, i8, a1', dg2, b1, alen, hkt, c1', e3, l3, hw3, hkl]
     refine hK3 _ _ hkt ?_
     refine ⟨by simp [x0, x2, x4], ?_⟩
     exact sg2.set r3 e3 (by simp; omega)
    ·simp [x0, x2, x4, x5, f1, cg2, i8, a1', dg2, b1, alen, hkt, hw2]
     refine hK2 _ _ hmt ?_
     exact ⟨by simp [x0, x2], sg2⟩
   ·simp [u0, u2, u4, f1, cg, i8, plen, hmt, hw]
    refine hK _ _ hlt ?_
    exact ⟨by simp [u0], sg⟩
 ·simp [t0, t2, hlen, hlt]
  exact q _ sp
end Go.Am

namespace Go.Am
open Go.Proofs

set_option maxRecDepth 100000
theorem p_no : Fr.KnownOk Tryz.prog [] := fun _ h => by cases h
theorem zi7 : Fr.plainRun (Fr.runO8 [] Fr.q.tab 100000 60) 63 [.str [118, 52, 32, 49, 48, 46, 48, 46, 48, 46, 48, 47, 56]] = some (.tup [.agg [.int .i64 1, .int .u64 0, .str [10, 0, 0, 0], .int .i64 8], .int .i64 0]) := by kernel_rfl
theorem zkE (h : H) : Pure Tryz.prog 63 [.str [118, 52, 32, 49, 48, 46, 48, 46, 48, 46, 48, 47, 56]] h (.tup [.agg [.int .i64 1, .int .u64 0, .str [10, 0, 0, 0], .int .i64 8], .int .i64 0]) := zkq p_no Fr.q.tab_ok zi7 h
theorem zop (g : Nat -> Option O) {a : Att} (h1 : a.path = []) (h2 : a.comms = []) (h3 : a.exts = []) (h4 : a.larges = []) (h5 : a.clus = []) : AttAt g a .nilsl .nilsl .nilsl .nilsl .nilsl := by
 refine ⟨⟨[], zb6 _ _, by rw [h1]; rfl, by simp [h1]⟩, ?_, ?_, ?_, ?_⟩
 ·rw [h2]; exact zb6 _ _
 ·rw [h3]; exact zb6 _ _
 ·rw [h4]; exact zb6 _ _
 ·rw [h5]; exact zb6 _ _
def chN (c : Chg) : List V := chC c .nilsl .nilsl .nilsl .nilsl .nilsl
def NoL (a : Att) : Prop := a.path = [] ∧ a.comms = [] ∧ a.exts = [] ∧ a.larges = [] ∧ a.clus = []
theorem zok (i : Nat) : NoL (attM i) := ⟨rfl, rfl, rfl, rfl, rfl⟩
theorem zqq {g : Nat -> Option O} {j : Nat} {c : Chg} (hc : NoL c.att) (hj : g j = some (.row (chN c))) : CsAt g (.sl j 23 0 1 (some 1)) [c] [chN c] := by
 refine ⟨⟨.inr ⟨j, 23, 0, some 1, rfl⟩, by simp [chN, chC], ?_, by simp⟩, rfl, fun i c' hi => ?_⟩
 ·rw [zaJ, if_neg (by simp), zag (n := 23) hj rfl]
  simp [chN, chC]
 ·cases i with
  | zero =>
   simp at hi; subst hi
   exact ⟨chN c, rfl, _, _, _, _, _, rfl, zop _ hc.1 hc.2.1 hc.2.2.1 hc.2.2.2.1 hc.2.2.2.2⟩
  | succ i => simp at hi
def zbn (id med : Nat) : Chg := ⟨false, ⟨⟨1, 0, [10, 0, 0, 0], 8⟩, id, 0⟩, attM med⟩
theorem zkQ (i : Nat) : attB (attM i) = true := by simp [attB, attM, zcy, risB, adjB]
theorem LsP.lenV {h : H} {R : Nat -> Prop} {v : V} {L : List Chg} {es : List (List V)} (s : LsP h R v L es) (g : Nat -> Option O) : lenV 1 g v = some (.int .i64 (L.length : Nat)) := by
 rw [<- s.len]
 rcases s.fc with ⟨rfl, rfl | ⟨k, rfl⟩⟩ | ⟨_, j, ca, o, _, _, rfl, _⟩ <;> simp
end Go.Am

namespace Go.Am
open Go.Proofs

set_option maxRecDepth 100000
def zco (P : Program) (F : List Nat) (K : Tm -> H -> Prop) (w : Bool) (d : Option Nat) (x : X) (m : Nat) (is : List (SI × Nat)) (t : Tm) (h : H) (g : V) : Prop :=
 match g with
 | .bool b => if (b == w) = true then Awp P F K ((⟨d, none, x⟩, m) :: is) t h else Awp P F K is (t.put d .undef) h
 | _ => False
section
variable {P : Program} (F : List Nat) (K : Tm -> H -> Prop) (d : Option Nat) (x : X) (m : Nat) (is : List (SI × Nat)) (t : Tm) (h : H)
@[simp] theorem zo5 : zco P F K true d x m is t h (.bool true) = Awp P F K ((⟨d, none, x⟩, m) :: is) t h := by simp [zco]
@[simp] theorem zo1 : zco P F K false d x m is t h (.bool false) = Awp P F K ((⟨d, none, x⟩, m) :: is) t h := by simp [zco]
@[simp] theorem zoS : zco P F K false d x m is t h (.bool true) = Awp P F K is (t.put d .undef) h := by simp [zco]
@[simp] theorem zoP : zco P F K true d x m is t h (.bool false) = Awp P F K is (t.put d .undef) h := by simp [zco]
end
theorem zc9 {P : Program} {F : List Nat} {K : Tm -> H -> Prop} {d : Option Nat} {g m : Nat} {w : Bool} {x : X} {is : List (SI × Nat)} {t : Tm} {h : H} (c : zco P F K w d x m is t h (t g)) : Awp P F K ((⟨d, some (g, w), x⟩, m) :: is) t h := by
 unfold zco at c
 split at c
 ·rename_i b e
  by_cases hb : (b == w) = true
  ·rw [if_pos hb] at c
   simp only [Awp, Astep, Sstep, FootIn, zaq, e, hb] at c ⊢
   exact c
  ·rw [if_neg hb] at c
   have hb' : (b == w) = false := by simpa using hb
   simp only [Awp, Astep, Sstep, FootIn, zaq, e, hb']
   exact ⟨⟨fun _ => fun _ _ => rfl, c⟩, fun _ => trivial⟩
 ·exact c.elim
def zng (R : Nat -> Prop) (h : H) (p m : Nat) (D' out : List Chg) (err : Int) (r : V) (h' : H) : Prop :=
 ∃ nk wa ea, r = .tup [wa, .int .i64 err] ∧ But h h' p m ∧ h'.WF ∧ h.next ≤ nk ∧ nk ≤ h'.next ∧ OutAt h' (fun j => R j ∨ (h.next ≤ j ∧ j < nk)) p m D' ∧ LfP h' (fun j => nk ≤ j) wa out ea
theorem zfT {h : H} {R : Nat -> Prop} {p m : Nat} {px : Pfx} {D L : List Chg} {v : V} {es : List (List V)} (wf : h.WF) (x : OutAt h R p m D) (hD : ∀ d ∈ D, d.gone = false) (lk : ∀ h', But h h' p m -> CsAt h'.get v L es) (zL : ∀ c ∈ L, AttSz c.att) (hb : D.length ≤ 4096) (hl : L.length ≤ 10000) : Acalls Tryz.prog 12 [.ptr p 1 0, .agg (pfxC px), v] h (zng R h p m (zbk px D L) (zbv px D L) (zdy px D L)) := by
 refine zno x hD lk zL hb hl ⟨fun e h' g w => ?_, fun e1 e2 e3 h' g w => ?_, fun e1 e2 e3 w es' h' n1 bt wf' hn ox ls => ?_⟩
 ·have e' : (zbd px L && mayP px) = false := by rw [Bool.and_comm]; exact e
  rw [zbk, zbv, zdy, e']
  simp
  exact ⟨h'.next, .nilsl, [], rfl, g.but p m, w, g.1, Nat.le_refl _, (x.ge wf g).mono fun j _ hr => .inl hr, LfP.nil _ _⟩
 ·rw [zbk, zbv, zdy, e1, e2, e3]
  simp
  exact ⟨h'.next, .nilsl, [], rfl, g.but p m, w, g.1, Nat.le_refl _, (x.ge wf g).mono fun j _ hr => .inl hr, LfP.nil _ _⟩
 ·rw [zbk, zbv, zdy, e1, e2, e3]
  simp
  by_cases hn2 : n1 ≤ h'.next
  ·exact ⟨n1, w, es', rfl, bt, wf', hn, hn2, ox, ls⟩
  ·refine ⟨h'.next, w, es', rfl, bt, wf', bt.next, Nat.le_refl _, ox.mono fun j hj hr => ?_, ls.mono fun j hj hr => by omega⟩
   rcases hr with hr | hr
   ·exact .inl hr
   ·exact .inr ⟨hr.1, hj⟩
theorem zku {h : H} {R : Nat -> Prop} {p m : Nat} {D : List Chg} {fam : Int} (x : OutAt h R p m D) (hb : D.length ≤ 100000) {Q : V -> H -> Prop} (q : ∀ w es h', Ge h h' -> h'.WF -> LfP h' (fun j => h.next ≤ j) w (D.filter (famB fam)) es -> Q w h') : Acalls Tryz.prog 19 [.ptr p 1 0, .int .i64 fam] h Q := by
 refine zal Tryz.func19 S.a7c S.a7e (Nat.le_of_ble_eq_true rfl) fun wf => ?_; simp only [S.a7]
 simp
 refine ze5 x hb fun w es h' g w' l => ?_
 simp
 exact q w es h' g w' l
theorem zeJ (D : List Chg) : D.filter (famB 0) = D := List.filter_eq_self.2 fun _ _ => rfl
theorem zij {h : H} {R : Nat -> Prop} {p m : Nat} {D : List Chg} (x : OutAt h R p m D) {Q : V -> H -> Prop} (q : ∀ h' p' m', Ge h h' -> h'.WF -> h.next ≤ p' -> h.next ≤ m' -> OutAt h' R p' m' D -> Q (.ptr p' 1 0) h') : Acalls Tryz.prog 23 [.ptr p 1 0] h Q := by
 refine zal Tryz.func23 S.a11c S.a11e (Nat.le_of_ble_eq_true rfl) fun wf => ?_; simp only [S.a11]
 obtain ⟨es, bs, tk, L, a1, mb, srt, hl, hent⟩ := x.held
 simp
 refine zeT x _ ?_
 simp
 refine zhZ fun h1 g1 w1 y1 => ?_
 obtain ⟨p', hp'⟩ : ∃ p', p' = h.next + 1 := ⟨_, rfl⟩
 obtain ⟨m', hm'⟩ : ∃ m', m' = h.next := ⟨_, rfl⟩
 rw [<- hp', <- hm'] at y1
 rw [<- hp']
 obtain ⟨lp', lm', _⟩ := y1.lt w1
 have x1 := x.ge wf g1
 obtain ⟨lp, lm, _⟩ := x.lt wf
 have a1' := (g1.2 m lm).trans a1
 simp [x1.cell]
 refine ⟨m, es, bs, tk, rfl, a1', ?_⟩
 simp
 obtain ⟨it, hit⟩ : ∃ it, it = h1.next := ⟨_, rfl⟩
 obtain ⟨h2, hh2⟩ : ∃ h2, h2 = h1.push (.miter m tk [] tk) := ⟨_, rfl⟩
 have g2 : Ge h1 h2 := by rw [hh2]; exact (Ge.refl _).push _
 have w2 : h2.WF := by rw [hh2]; exact w1.push _
 have n2 : h2.next = h1.next + 1 := by rw [hh2]; simp
 rw [<- hh2, <- hit]
 have y0 : OutAt h1 R p' m' [] := by
  obtain ⟨es9, bs9, tk9, L9, b1, b2, b3, b4, b5⟩ := y1.held
  have : L9 = [] := by have := b3.perm.length_eq; exact List.eq_nil_of_length_eq_zero (by simpa using this)
  subst this
  exact ⟨y1.row, es9, bs9, tk9, [], b1, b2, b3, b4, by simp⟩
 refine zaj (fun k t h' => (t 3 = .ptr p' 1 0 ∧ t 13 = .ptr it 0 0) ∧ h'.WF ∧ (∀ j, j < h.next -> h'.get j = h.get j) ∧ h2.next ≤ h'.next ∧ ∃ (dn seen : List Nat) (st : Nat), Vis bs seen dn ∧ dn.length = k ∧ h'.get it = some (.miter m tk seen st) ∧ OutAt h' R p' m' ((metL L dn).foldl putC [])) bs.length
  ⟨by simp, w2, fun j hj => by rw [g2.2 j (by have := g1.1; omega), g1.2 j hj], Nat.le_refl _, [], [], tk, Vis.nil _, rfl, by rw [hh2, hit]; simp, y0.ge w1 g2⟩ ?_
 rintro k t h' hk ⟨⟨t3, t13⟩, wb, kb, nb, dn, seen, st, vis, hdn, hi, yb⟩ K hK
 have g1n := g1.1
 have hm2 : h'.get m = some (.mapo es bs tk) := (kb m lm).trans a1
 simp [t13]
 refine ⟨it, m, tk, seen, st, es, bs, rfl, hi, hm2, fun i e b' he hb' hbs => ?_, fun hall => ?_⟩
 ·simp [t13]
  obtain ⟨hA, hhA⟩ : ∃ hA, hA = h'.set it (.miter m tk (seen ++ [b']) tk) := ⟨_, rfl⟩
  have nA : hA.next = h'.next := by rw [hhA]; simp
  have wA : hA.WF := by rw [hhA]; exact wb.set (by omega) _
  have kA : ∀ j, j ≠ it -> hA.get j = h'.get j := fun j hj => by rw [hhA, H.get_set, if_neg hj]
  have iA : hA.get it = some (.miter m tk (seen ++ [b']) tk) := by rw [hhA]; simp
  refine ⟨it, m, tk, tk, seen, b', es, bs, i, e, rfl, by simp, by simp [show ¬ m = it by omega, hm2], he, hb', ?_⟩
  have vA := vis.snoc hb' hbs
  have hlenA : dn.length < bs.length := by have := vA.le; simp at this; omega
  have hil : i < L.length := by rw [<- hl]; exact (List.getElem?_eq_some_iff.1 he).1
  obtain ⟨c, hc⟩ : ∃ c, c = L[i] := ⟨_, rfl⟩
  have hci : L[i]? = some c := by rw [hc]; exact List.getElem?_eq_getElem hil
  obtain ⟨e', he', vp, vc, vx, vl, vk, hee, A⟩ := hent i c hci
  rw [he, Option.some.injEq] at he'
  subst hee
  obtain ⟨o1, o2, o3, o4, o5⟩ := A.one
  have met := zc2 (dn := dn) hci
  rw [<- hhA, he']
  simp only [chC, kyV]
  simp [zad, o1, o2, o3, o4, o5]
  rw [zc1 _ _ _ _ _ rfl rfl]
  obtain ⟨hB, hhB⟩ : ∃ hB, hB = (hA.push (.row [.int .i64 c.n.p.fam, .int .u64 (c.n.p.rd : Nat), .str c.n.p.addr, .int .i64 c.n.p.len, .int .u32 (c.n.id : Nat)])).push (.row (chC c vp vc vx vl vk)) := ⟨_, rfl⟩
  have gB : Ge hA hB := by rw [hhB]; exact ((Ge.refl _).push _).push _
  have wB : hB.WF := by rw [hhB]; exact (wA.push _).push _
  have nB : hB.next = hA.next + 2 := by rw [hhB]; simp
  have cK : zab hB.get hA.next 5 = some [.int .i64 c.n.p.fam, .int .u64 (c.n.p.rd : Nat), .str c.n.p.addr, .int .i64 c.n.p.len, .int .u32 (c.n.id : Nat)] := by rw [hhB]; simp
  have cB : zab hB.get (hA.next + 1) 23 = some (chC c vp vc vx vl vk) := by rw [hhB]; simp [chC]
  have kB : ∀ j, j < h.next -> hB.get j = h.get j := fun j hj => by rw [gB.2 j (by omega), kA j (by omega)]; exact kb j hj
  have yB : OutAt hB R p' m' ((metL L dn).foldl putC []) := (yb.keep (by omega) (kA p' (by omega)) (kA m' (by omega)) fun j s cs hr hj e => by rw [kA j (fun e2 => by subst e2; rw [hi] at e; cases e)]; exact e).ge wA gB
  have chB : ChP hB R c (chC c vp vc vx vl vk) := ⟨vp, vc, vx, vl, vk, rfl, A.keep (by omega) fun j s cs hr hj e => by rw [kB j hj]; exact e⟩
  obtain ⟨ob, hset, hld⟩ := yB.held.set c chB
  have cP := yB.cell
  simp only [chC] at hhB cB hset
  simp only [kyD, kyT, kyV, zad] at hset
  rw [<- hhB]
  refine zaL ?_
  simp [t3, cP, cK, cB, hset]
  refine hK _ _ (by omega) ⟨by simp [t3, t13], wB.set (by omega) _, fun j hj => by rw [H.get_set, if_neg (by omega)]; exact kB j hj, by simp; omega, dn ++ [i], seen ++ [b'], tk, vA, by simp [hdn], ?_, ?_⟩
  ·rw [H.get_set, if_neg (by omega), gB.2 _ (by omega)]; exact iA
  ·rw [met, List.foldl_append]
   refine ⟨?_, hld⟩
   rw [H.get_set, if_neg (by omega)]; exact yB.row
 ·simp [t3]
  have full := vis.full mb.nd hall
  rw [mb.len, hl] at full
  have mp := zc6 full
  have sD : (metL L dn).foldl putC [] = D := Srt.uniq (zeV (zdg mp srt.keys)) ⟨mp.trans srt.perm, srt.rise⟩
  rw [sD] at yb
  exact q h' p' m' ⟨by omega, kb⟩ wb (by omega) (by omega) yb
theorem zhA {h : H} {id med : Nat} : Pure Tryz.prog 22 [.str [118, 52, 32, 49, 48, 46, 48, 46, 48, 46, 48, 47, 56], .int .u32 (id : Nat), .int .u32 (med : Nat)] h (.agg (chN (zbn id med))) := by
 refine zae Tryz.func22 S.a10c S.a10e rfl (Nat.le_of_ble_eq_true rfl) fun wf => ?_; simp only [S.a10]
 simp
 refine zkE _ _ ?_
 simp [chN, chC, zbn, attM]
 exact ((((Ge.refl _).push _).push _).set (by omega) _).set (Nat.le_refl _) _
end Go.Am

namespace Go.Am
open Go.Proofs

set_option maxRecDepth 100000
def x29 : Chg := zbn 0 5
theorem zqE : NoL x29.att := zok 5
theorem zcP : mayP x29.n.p = true := by decide +kernel
theorem zi4 : zbd x29.n.p [x29] = true := by
 have h1 : mayN x29.n = true := by decide +kernel
 have h2 : attB x29.att = true := zkQ 5
 simp [zbd, okW, h1, h2, zav, show x29.gone = false from rfl]
theorem zkI : zbd x29.n.p [] = true := by simp [zbd, zav]
theorem zrD : zbk x29.n.p [] [x29] = [x29] ∧ zbv x29.n.p [] [x29] = [x29] ∧ zdy x29.n.p [] [x29] = 0 := by
 have hf : zdx x29.n.p [] [x29] = false := by decide +kernel
 refine ⟨?_, ?_, ?_⟩
 ·rw [zbk, zi4, zcP, hf]; decide +kernel
 ·rw [zbv, zi4, zcP, hf]; decide +kernel
 ·rw [zdy, zi4, zcP, hf]; rfl
theorem zr7 : zbk x29.n.p [x29] [x29] = [x29] ∧ zbv x29.n.p [x29] [x29] = [] ∧ zdy x29.n.p [x29] [x29] = 0 := by
 have hf : zdx x29.n.p [x29] [x29] = false := by decide +kernel
 refine ⟨?_, ?_, ?_⟩
 ·rw [zbk, zi4, zcP, hf]; decide +kernel
 ·rw [zbv, zi4, zcP, hf]; decide +kernel
 ·rw [zdy, zi4, zcP, hf]; rfl
theorem zsg : zbk x29.n.p [x29] [] = [] ∧ zbv x29.n.p [x29] [] = [zaX x29] ∧ zdy x29.n.p [x29] [] = 0 := by
 have hf : zdx x29.n.p [x29] [] = false := by decide +kernel
 refine ⟨?_, ?_, ?_⟩
 ·rw [zbk, zkI, zcP, hf]; decide +kernel
 ·rw [zbv, zkI, zcP, hf]; decide +kernel
 ·rw [zdy, zkI, zcP, hf]; rfl
theorem zfO (h : H) : Pure Tryz.prog 18 [] h (.bool true) := by
 refine zae Tryz.func18 S.a6c S.a6e rfl (Nat.le_of_ble_eq_true rfl) fun wf => ?_; simp only [S.a6]
 simp
 refine zhZ fun h1 g1 w1 x1 => ?_
 obtain ⟨p, hp⟩ : ∃ p, p = h.next + 1 := ⟨_, rfl⟩
 obtain ⟨m, hm⟩ : ∃ m, m = h.next := ⟨_, rfl⟩
 rw [<- hp, <- hm] at x1
 rw [<- hp]
 simp [zg7]
 refine zhA (id := 0) (med := 5) _ ?_
 have lt1 := x1.lt w1
 have hg1 := g1.1
 have zx : AttSz x29.att := zkR (zkQ 5)
 have W : ∀ (H : H) (D : List Chg) (j : Nat), H.WF -> OutAt H (fun _ => True) p m D -> (∀ d ∈ D, d.gone = false) -> D.length ≤ 1 -> H.get j = some (.row (chN x29)) -> j ≠ p -> j ≠ m -> Acalls Tryz.prog 12 [.ptr p 1 0, .agg [.int .i64 1, .int .u64 0, .str [10, 0, 0, 0], .int .i64 8], .sl j 23 0 1 (some 1)] H (zng (fun _ => True) H p m (zbk x29.n.p D [x29]) (zbv x29.n.p D [x29]) (zdy x29.n.p D [x29])) := fun H D j w x hD hl hj j1 j2 =>
  zfT (L := [x29]) (es := [chN x29]) (v := .sl j 23 0 1 (some 1)) (px := x29.n.p) w x hD (fun h9 bt => zqq zqE (by rw [bt.keep j (w.lt hj) j1 j2]; exact hj)) (by simpa using zx) (by omega) (by simp)
 have W0 : ∀ (H : H) (D : List Chg), H.WF -> OutAt H (fun _ => True) p m D -> (∀ d ∈ D, d.gone = false) -> D.length ≤ 1 -> Acalls Tryz.prog 12 [.ptr p 1 0, .agg [.int .i64 1, .int .u64 0, .str [10, 0, 0, 0], .int .i64 8], .nilsl] H (zng (fun _ => True) H p m (zbk x29.n.p D []) (zbv x29.n.p D []) (zdy x29.n.p D [])) := fun H D w x hD hl =>
  zfT (L := []) (es := []) (v := .nilsl) (px := x29.n.p) w x hD (fun h9 bt => ⟨zb6 _ _, rfl, by simp⟩) (by simp) (by omega) (by simp)
 simp [chN, chC, zbn, attM]
 refine zfI (fun H => H.WF ∧ H.next = h1.next + 2 ∧ Ge h1 H ∧ H.get h1.next = some (.row (chN x29)) ∧ H.get (h1.next + 1) = some (.row (chN x29))) ⟨?_, ?_, ?_, ?_, ?_⟩ fun h2 ⟨w2, n2, g2, b2, s2⟩ => ?_
 ·repeat' (first | exact w1 | refine H.WF.push ?_ _ | refine H.WF.set ?_ (by simp) _)
 ·simp
 ·repeat' (first | exact Ge.refl _ | refine Ge.push ?_ _ | refine Ge.set ?_ (by omega) _)
 ·simp [chN, chC, x29, zbn, attM]
 ·simp [chN, chC, x29, zbn, attM]
 have x2 := x1.ge w1 g2
 obtain ⟨r1, r2, r3⟩ := zrD
 have W1 := W h2 [] (h1.next + 1) w2 x2 (by simp) (by simp) s2 (by omega) (by omega)
 rw [r1, r2, r3] at W1
 refine W1.mono ?_
 rintro _ h3 ⟨k3, a3, e3, rfl, bt3, w3, m3, l3, x3, ls3⟩
 have n3 := bt3.next
 have b3 : h3.get h1.next = some (.row (chN x29)) := by rw [bt3.keep _ (by omega) (by omega) (by omega)]; exact b2
 have c3 : zab h3.get h1.next 23 = some (chN x29) := (zag (n := 23) b3 rfl).trans rfl
 have x3' : OutAt h3 (fun _ => True) p m [x29] := x3.mono fun _ _ _ => trivial
 simp only [chN, chC, x29, zbn, attM] at c3
 simp [c3]
 refine zfI (fun H => H.WF ∧ H.next = h3.next + 1 ∧ Ge h3 H ∧ H.get h3.next = some (.row (chN x29))) ⟨w3.push _, by simp, (Ge.refl _).push _, by simp [chN, chC, x29, zbn, attM]⟩ fun h4 ⟨w4, n4, g4, s4⟩ => ?_
 have x4 := x3'.ge w3 g4
 obtain ⟨r4, r5, r6⟩ := zr7
 have W2 := W h4 [x29] h3.next w4 x4 (by simp [x29, zbn]) (by simp) s4 (by omega) (by omega)
 rw [r4, r5, r6] at W2
 refine W2.mono ?_
 rintro _ h5 ⟨k5, a5, e5, rfl, bt5, w5, m5, l5, x5, ls5⟩
 have n5 := bt5.next
 have b5 : h5.get h1.next = some (.row (chN x29)) := by rw [bt5.keep _ (by omega) (by omega) (by omega), g4.2 _ (by omega)]; exact b3
 have c5 : zab h5.get h1.next 23 = some (chN x29) := (zag (n := 23) b5 rfl).trans rfl
 have x5' : OutAt h5 (fun _ => True) p m [x29] := x5.mono fun _ _ _ => trivial
 simp only [chN, chC, x29, zbn, attM] at c5
 simp [c5]
 obtain ⟨r7, r8, r9⟩ := zsg
 have W3 := W0 h5 [x29] w5 x5' (by simp [x29, zbn]) (by simp)
 rw [r7, r8, r9] at W3
 refine W3.mono ?_
 rintro _ h6 ⟨k6, a6, e6, rfl, bt6, w6, m6, l6, x6, ls6⟩
 have n6 := bt6.next
 have b6 : h6.get h1.next = some (.row (chN x29)) := by rw [bt6.keep _ (by omega) (by omega) (by omega)]; exact b5
 have c6 : zab h6.get h1.next 23 = some (chN x29) := (zag (n := 23) b6 rfl).trans rfl
 have la : LfP h6 (fun j => k3 ≤ j) a3 [x29] e3 := (((ls3.ge g4).keep bt5.next fun j hj hl => bt5.keep j hl (by omega) (by omega))).keep bt6.next fun j hj hl => bt6.keep j hl (by omega) (by omega)
 have lb : LfP h6 (fun j => k5 ≤ j) a5 [] e5 := ls5.keep bt6.next fun j hj hl => bt6.keep j hl (by omega) (by omega)
 obtain ⟨pp, qq, o, cs, vp, vc, vx, vl, vk, i1, _, i2, i3, i4, _, _, i5⟩ := (la.ls.at (by simp)).atG w6 (k := 0) (by simp)
 obtain ⟨pp', qq', o', cs', vp', vc', vx', vl', vk', j1, _, j2, j3, j4, _, _, j5⟩ := (ls6.ls.at (by simp)).atG w6 (k := 0) (by simp)
 have i2' := i2 h6 (Ge.refl _)
 have j2' := j2 h6 (Ge.refl _)
 have i6 := i5 0 (by omega)
 have i7 := i5 11 (by omega)
 have j6 := j5 0 (by omega)
 have j7 : (cs'.drop (o' + 1)).take 6 = nlC (zaX x29).n := (zeo (a := 1) (n := 6) j4 (by omega)).trans rfl
 have o7 : o' + 1 + 6 ≤ cs'.length := by omega
 have en := zn4 (zaX x29).n x29.n
 have en2 : decide ((zaX x29).n = x29.n) = true := by decide +kernel
 rw [en2] at en
 simp [chC, x29, zbn, attM] at i6 i7
 simp [chC, zaX] at j6
 have i1' := i1 .i64
 have j1' := j1 .i64
 simp at i1' j1'
 have c1 := la.len h6.get
 have c2 := lb.len h6.get
 have c4 := ls6.len h6.get
 simp only [List.length_cons, List.length_nil, Nat.zero_add] at c1 c2 c4
 have z0 : ((0 : Nat) : Int) = 0 := rfl
 simp only [nlC, zaX, x29, zbn, z0] at j7 en
 simp only [chN, chC, x29, zbn, attM] at c6
 simp
 refine zaL ?_
 simp [c1, c2, c4, i1', i2', i6, i7, j1', j2', j6, j7, o7, c6, en]
 refine zbf (zhD x6) ?_
 simp
 have := g1.1
 exact ⟨by omega, fun k hk => by rw [bt6.keep k (by omega) (by omega) (by omega), bt5.keep k (by omega) (by omega) (by omega), g4.2 k (by omega), bt3.keep k (by omega) (by omega) (by omega), g2.2 k (by omega), g1.2 k hk]⟩
end Go.Am

namespace Go.Am
open Go.Proofs

set_option maxRecDepth 100000
structure AAct where
 clear : Bool
 p : Pfx
 L : List Chg
def zlF (a : AAct) (w : V) : List V := [.bool a.clear, .int .i64 a.p.fam, .int .u64 (a.p.rd : Nat), .str a.p.addr, .int .i64 a.p.len, w]
structure AActs (g : Nat -> Option O) (v : V) (l : List AAct) (es : List (List V)) : Prop where
 sls : Sls g 6 v es
 len : es.length = l.length
 at' : ∀ (i : Nat) (a : AAct), l[i]? = some a -> ∃ w ls, es[i]? = some (zlF a w) ∧ CsAt g w a.L ls ∧ zcb w ∧ ∀ c ∈ a.L, AttSz c.att
structure AInv (h : H) (p m : Nat) (D : List Chg) (w : V) (es : List (List V)) : Prop where
 out : OutAt h (fun _ => True) p m D
 ref : LfP h (fun _ => True) w D es
 gone : ∀ d ∈ D, d.gone = false
 len : D.length ≤ 4096
theorem OutAt.rise {h : H} {R : Nat -> Prop} {p m : Nat} {D : List Chg} (x : OutAt h R p m D) : Rise cmpC D := x.held.rise
theorem OutAt.sp {h h' : H} {R R' : Nat -> Prop} {p m : Nat} {D : List Chg} (x : OutAt h R p m D) (s : Sp R' h h') (k : ∀ j, R j -> ¬ R' j) : OutAt h' R p m D := by
 obtain ⟨es, bs, tk, L, a1, _⟩ := x.held
 exact x.keep (by rw [s.next]; exact Nat.le_refl _) ((s.row x.row (by simp)).trans x.row.symm) ((s.row a1 (by simp)).trans a1.symm) fun j sz cs hj _ e => by rw [s.out (k j hj)]; exact e
theorem zjD {p : Pfx} {D L : List Chg} (rD : Rise cmpC D) (hD : ∀ d ∈ D, d.gone = false) : ∀ d ∈ zbk p D L, d.gone = false := by
 unfold zbk
 split
 ·rename_i hk
  split
  ·exact hD
  ·have hk2 : zbd p L = true ∧ mayP p = true := by simpa using hk
   have hw := hk2.1
   rw [zbd, Bool.and_eq_true] at hw
   have kL : zav L := of_decide_eq_true hw.2
   intro d hd
   rw [zg5, zbF _ _ (za9 _ rD) kL] at hd
   rcases hd with hd | ⟨hd, _⟩
   ·have := List.all_eq_true.1 hw.1 d hd
    simp only [okW, Bool.and_eq_true, Bool.not_eq_true'] at this
    exact this.1.1.1
   ·exact hD d (List.mem_filter.1 hd).1
 ·exact hD
theorem zk0 {p : Pfx} {D L : List Chg} (hl : D.length ≤ 4096) : (zbk p D L).length ≤ 4096 := by
 unfold zbk
 split
 ·split
  ·exact hl
  ·rename_i hf
   have h1 := zb5 L (D.filter fun c => !inP p c)
   have h2 : ¬ 4096 < (D.filter fun c => !inP p c).length + L.length := by
    intro h
    exact hf (decide_eq_true h)
   show (L.foldl putC (D.filter fun c => !inP p c)).length ≤ 4096
   omega
 ·exact hl
theorem zkn {p : Pfx} {D L : List Chg} : (zbv p D L).length ≤ D.length + L.length := by
 unfold zbv
 split
 ·split
  ·simp
  ·have h1 := zb5 ((D.filter (za3 p L)).map zaX ++ L.filter (newB D)) []
   have h2 := List.length_filter_le (za3 p L) D
   have h3 := List.length_filter_le (newB D) L
   simp only [List.length_append, List.length_map, List.length_nil] at h1
   show (((D.filter (za3 p L)).map zaX ++ L.filter (newB D)).foldl putC []).length ≤ _
   omega
 ·simp
theorem zqx {h : H} {v : V} {l : List AAct} {es : List (List V)} (hs : AActs h.get v l es) : Pure Tryz.prog 6 [v] h (.bool true) := by
 refine zae Tryz.func6 S.a0c S.a0e rfl (Nat.le_of_ble_eq_true rfl) fun wf => ?_; simp only [S.a0]
 have hb := hs.sls.bound
 rw [hs.len] at hb
 simp
 refine zhZ fun h1 g1 w1 x1 => ?_
 obtain ⟨p, hp⟩ : ∃ p, p = h.next + 1 := ⟨_, rfl⟩
 obtain ⟨m, hm⟩ : ∃ m, m = h.next := ⟨_, rfl⟩
 rw [<- hp, <- hm] at x1
 rw [<- hp]
 have lt1 := x1.lt w1
 have g1n := g1.1
 obtain ⟨n, hnn⟩ : ∃ n, n = min l.length 40 := ⟨_, rfl⟩
 simp [zg7]
 refine zaj (fun i t h' => (t 0 = v ∧ t 3 = .ptr p 1 0 ∧ t 5 = .int .i64 (i : Nat)) ∧ h'.WF ∧ h1.next ≤ h'.next ∧ (∀ k, k < h.next -> h'.get k = h.get k) ∧ ∃ D w es, t 4 = w ∧ AInv h' p m D w es) n
  ⟨by simp, w1, Nat.le_refl _, fun k hk => g1.2 k hk, [], .nilsl, [], by simp, ⟨x1, LfP.nil _ _, by simp, by simp⟩⟩ ?_
 rintro i t h' hi ⟨⟨t0, t3, t5⟩, wb, nb, kb, D, w, es', t4, x, lr, hD, lenD⟩ K hK
 have gh' : Ge h h' := ⟨by omega, kb⟩
 have sb := hs.sls.ge wf gh'
 have hl' := sb.len
 rw [hs.len] at hl'
 obtain ⟨lp, lm, lpm⟩ := x.lt wb
 by_cases hlt : i < n
 ·have hlt1 : i < l.length := by omega
  have hlt2 : (i : Int) < 40 := by omega
  obtain ⟨a, ha⟩ : ∃ a, a = l[i] := ⟨_, rfl⟩
  obtain ⟨wL, ls, he, sL, cL, zL⟩ := hs.at' i a (by rw [ha]; exact List.getElem?_eq_getElem hlt1)
  obtain ⟨pp, q, o, cs, f1, f2, f3, f4, f5, f6⟩ := hs.sls.atG wf (k := i) (by rw [hs.len]; exact hlt1)
  have hee : es[i]'(by rw [hs.len]; exact hlt1) = zlF a wL := by rw [List.getElem?_eq_getElem (by rw [hs.len]; exact hlt1), Option.some.injEq] at he; exact he
  rw [hee] at f5 f6
  have i0 := f6 0 (by omega)
  have i1 := f6 1 (by omega)
  have i5 := f6 5 (by omega)
  simp [zlF] at i0 i1 i5
  have e14 : (cs.drop (o + 1)).take 4 = pfxC a.p := by
   have e : (cs.drop (o + 1)).take 4 = (((cs.drop o).take 6).drop 1).take 4 := by rw [List.drop_take, List.take_take, List.drop_drop]; rfl
   rw [e, f5]; rfl
  have o14 : o + 1 + 4 ≤ cs.length := by omega
  have f3' := f3 h' gh'
  obtain ⟨k20, hk20⟩ : ∃ k : Nat, k = min a.L.length 20 := ⟨_, rfl⟩
  obtain ⟨L, hL⟩ : ∃ L, L = a.L.take k20 := ⟨_, rfl⟩
  have hLl : L.length ≤ 20 := by rw [hL, List.length_take]; omega
  have zT : ∀ c ∈ L, AttSz c.att := fun c hc => zL c (by rw [hL] at hc; exact List.mem_of_mem_take hc)
  have mn2 : (if (20 : Int) < ((a.L.length : Nat) : Int) then (20 : Int) else ((a.L.length : Nat) : Int)) = (k20 : Int) := by split <;> omega
  simp [t0, t5, hl', hlt1, hlt2, f1, f3', i0]
  -- cleared, or not
  refine ziM (fun t' g => (t' 0 = v ∧ t' 3 = .ptr p 1 0 ∧ t' 5 = .int .i64 (i : Nat)) ∧ g.WF ∧ h'.next ≤ g.next ∧ (∀ k, k < h.next -> g.get k = h.get k) ∧ ∃ D0 w0 e0, t' 4 = w0 ∧ AInv g p m D0 w0 e0) (fun e R hR => ?_) (fun e R hR => ?_) ?_
  ·simp [t3]
   refine zfm x fun g bt wg xg => ?_
   have lw := lr.len g.get
   simp [t4, lw]
   refine hR _ _ ⟨by simp [t0, t3, t5], wg, bt.next, fun k hk => by rw [bt.keep k (by omega) (by omega) (by omega)]; exact kb k hk, [], .nilsl, [], by simp, ⟨xg, LfP.nil _ _, by simp, by simp⟩⟩
  ·simp
   exact hR _ _ ⟨by simp [t0, t3, t5], wb, Nat.le_refl _, kb, D, w, es', by simp [t4], ⟨x, lr, hD, lenD⟩⟩
  clear t0 t3 t4 t5 x lr hD lenD
  rintro t h2 ⟨⟨t0, t3, t5⟩, w2, n2, k2, D0, w0, e0, t4, x2, l2, hD0, len0⟩
  have gh2 : Ge h h2 := ⟨by omega, k2⟩
  have f32 := f3 h2 gh2
  have sL2 := sL.ge wf gh2
  have lL := sL2.sls.len
  rw [sL2.len] at lL
  obtain ⟨vL, eL, sT⟩ := sL2.take cL (k := k20) (by omega) .i64
  rw [<- hL] at sT
  obtain ⟨n0, hn0⟩ : ∃ k, k = h2.next := ⟨_, rfl⟩
  simp
  refine zaL ?_
  simp [t0, t5, f1, f32, i5, lL, mn2, eL]
  obtain ⟨v9, e9, g9, a9, b9, f9⟩ := zhM w2 zT
  refine ⟨fun r g => ∃ fs, Ge h2 g ∧ g.WF ∧ LfP g (fun j => n0 ≤ j) r L fs, ⟨v9, g9, e9, a9, b9, f9.mono fun j _ hj => by omega⟩, zg6 sT zT (by omega) fun r fs g a b f => ⟨fs, a, b, f.mono fun j _ hj => by omega⟩, ?_⟩
  rintro vi h3 ⟨fi, g3, w3, lfi⟩
  obtain ⟨n1, hn1⟩ : ∃ k, k = h3.next := ⟨_, rfl⟩
  have n3 := g3.1
  simp
  refine zg6 (lfi.ls.at (by omega)) zT (by omega) fun vs fs h4 g4 w4 lfs => ?_
  obtain ⟨n2', hn2⟩ : ∃ k, k = h4.next := ⟨_, rfl⟩
  have n4 := g4.1
  have lfi4 : LfP h4 (fun j => n0 ≤ j ∧ j < n1) vi L fi := (lfi.mono (R' := fun j => n0 ≤ j ∧ j < n1) fun j hj hr => ⟨hr, by omega⟩).ge g4
  have lfs4 : LfP h4 (fun j => n1 ≤ j ∧ j < n2') vs L fs := lfs.mono fun j hj hr => ⟨by omega, by omega⟩
  have g24 : Ge h2 h4 := g3.trans g4
  have gh4 : Ge h h4 := gh2.trans g24
  obtain ⟨lp2, lm2, lpm2⟩ := x2.lt w2
  have x4 : OutAt h4 (fun j => j < n0) p m D0 := (x2.mono fun j hj _ => by omega).ge w2 g24
  have l4 : LfP h4 (fun j => j < n0) w0 D0 e0 := (l2.mono fun j hj _ => by omega).ge g24
  have f34 := f3 h4 gh4
  have x4r := x4.row
  obtain ⟨_, _, _, _, x4m, _⟩ := x4.held
  have btk : ∀ {h9 : H}, But h4 h9 p m -> ∀ {R : Nat -> Prop} {u : V} {M : List Chg} {gs : List (List V)}, LfP h4 R u M gs -> LfP h9 R u M gs := fun bt _ _ _ _ lf => lf.keepG bt.next fun j sz cs hr hj e => by
   rw [bt.keep j hj (fun e2 => by subst e2; rw [x4r] at e; cases e) (fun e2 => by subst e2; rw [x4m] at e; cases e)]; exact e
  have W := zfT (px := a.p) w4 x4 hD0 (fun h9 bt => (btk bt lfi4).ls.at (by omega)) zT len0 (by omega)
  simp only [pfxC] at W e14
  simp [t0, t3, t5, f1, f34, e14, o14]
  refine W.mono ?_
  rintro _ h5 ⟨nk, wa, ea, rfl, bt, w5, hnk, hnk2, x5, la⟩
  have n5 := bt.next
  have lfi5 := btk bt lfi4
  have lfs5 := btk bt lfs4
  have l5 : LfP h5 (fun j => j < n0 ∨ h5.next ≤ j) w0 D0 e0 := (btk bt l4).mono fun j _ hr => .inl hr
  have gh5 : Ge h h5 := ⟨by have := gh4.1; omega, fun k hk => by have := gh4.1; rw [bt.keep k (by omega) (by omega) (by omega)]; exact gh4.2 k hk⟩
  have f35 := f3 h5 gh5
  have RW := zjC (p := a.p) l5 (fun j hj => .inr hj) x2.rise (lfs5.ls.at (by omega)) lfs5.fc.cap zT (by omega) (by omega)
  simp only [pfxC] at RW
  have o1 := la.one
  simp [t0, t4, t5, f1, f35, e14, o14]
  refine RW.mono ?_
  rintro _ h6 ⟨wq, eq, wb', eb, rfl, g6, w6, lq, lo⟩
  obtain ⟨D2, hD2⟩ : ∃ x, x = zbk a.p D0 L := ⟨_, rfl⟩
  obtain ⟨out, hout⟩ : ∃ x, x = zbv a.p D0 L := ⟨_, rfl⟩
  obtain ⟨er, her⟩ : ∃ x, x = zdy a.p D0 L := ⟨_, rfl⟩
  have gD2 : ∀ d ∈ D2, d.gone = false := by rw [hD2]; exact zjD x2.rise hD0
  have lD2 : D2.length ≤ 4096 := by rw [hD2]; exact zk0 len0
  have lout : out.length ≤ 5000 := by
   have := zkn (p := a.p) (D := D0) (L := L)
   rw [<- hout] at this; omega
  rw [<- hD2] at x5 lq
  rw [<- hout] at la lo
  have n6 := g6.1
  have x6 := x5.ge w5 g6
  have la6 := (la.mono (R' := fun j => nk ≤ j ∧ j < h5.next) fun j hj hr => ⟨hr, hj⟩).ge g6
  have lfi6 := lfi5.ge g6
  have lfs6 := lfs5.ge g6
  rw [<- her]
  simp
  refine zbD (la6.ls.at (by omega)) (lo.ls.at (by omega)) _ ?_
  simp
  refine zbD (lfi6.ls.at (by omega)) (lfs6.ls.at (by omega)) _ ?_
  simp
  refine zec lfi6.ls (by omega) fun h7 s7 => ?_
  have n7 := s7.next
  have x7 := x6.sp s7 (fun j hj => by omega)
  have la7 := la6.sp s7 (fun j hj => by omega)
  have lq7 := lq.sp s7 (fun j hj => by omega)
  simp
  refine zec la7.ls (by omega) fun h8 s8 => ?_
  have n8 := s8.next
  have x8 := (x7.sp s8 (fun j hj => by omega)).mono (R' := fun _ => True) fun _ _ _ => trivial
  have lq8 := lq7.sp s8 (fun j hj => by omega)
  simp [t3]
  refine ze5 x8 (by omega) fun wz ez h9 g9 w9 l9 => ?_
  rw [zeJ] at l9
  have n9 := g9.1
  have x9 := x8.ge s8.wf g9
  have lq9 := lq8.ge g9
  have k9 : ∀ k, k < h.next -> h9.get k = h.get k := fun k hk => by
   have := gh2.1
   have hg5 := gh5.2 k hk
   rw [g9.2 k (by have := gh5.1; omega), s8.out (by omega), s7.out (by omega), g6.2 k (by have := gh5.1; omega)]
   exact hg5
  have gh9 : Ge h h9 := ⟨by have := gh5.1; omega, k9⟩
  have f39 := f3 h9 gh9
  have ppl : pp < h9.next := by have := gh9.1; omega
  simp
  refine zcT [pp] [0, 0, 0, 0, 0, 0, 0, 0, 0, 0, 0, 0, 1, 0, 0, 0, 0, 0, 0, 2, 0, 0, 0, 0, 0, 0, 0, 0, 0, 0, 0] rfl (by rfl) ?_
  simp
  refine zbE (zbD (l9.ls.at (by omega)) (lq9.ls.at (by omega))) (by decide) (fun e => by cases e) ?_
  simp
  repeat' (first | (refine zc9 ?_; simp [t0, t3, t5, f1, f39, i1, I.foot, za4]))
  obtain ⟨vA9, eA9, gA9, aA9, bA9, fA9⟩ := zhM w9 (L := D2.filter (famB a.p.fam)) (fun c hc => x9.held.szs c (List.mem_filter.1 hc).1)
  have lenF : (D2.filter (famB a.p.fam)).length ≤ D2.length := List.length_filter_le _ _
  refine ⟨by decide, fun w g => ∃ e, Ge h9 g ∧ g.WF ∧ LfP g (fun j => h9.next ≤ j) w (D2.filter (famB a.p.fam)) e, ⟨vA9, gA9, eA9, aA9, bA9, fA9⟩, ze5 x9 (by omega) fun w e g a b f => ⟨e, a, b, f⟩, ?_⟩
  rintro wA hA ⟨eA, gA, wA', lA⟩
  have nA := gA.1
  refine ⟨fun _ => fun k hk => ?_, ?_⟩
  ·simp only [List.mem_cons, List.not_mem_nil, or_false] at hk
   subst hk; exact gA.2 _ ppl
  have xA := x9.ge w9 gA
  have lqA := lq9.ge gA
  have ghA : Ge h hA := gh9.trans gA
  have f3A := f3 hA ghA
  repeat' (first | (refine zc9 ?_; simp [t0, t5, f1, f3A, i1, I.foot, za4]))
  obtain ⟨vB9, eB9, gB9, aB9, bB9, fB9⟩ := zhM wA' (L := D2.filter (famB a.p.fam)) (fun c hc => x9.held.szs c (List.mem_filter.1 hc).1)
  refine ⟨by decide, fun w g => ∃ e, Ge hA g ∧ g.WF ∧ LfP g (fun _ => True) w (D2.filter (famB a.p.fam)) e, ⟨vB9, gB9, eB9, aB9, bB9, fB9.mono fun _ _ _ => trivial⟩, zkT (lqA.mono (R' := fun _ => True) fun _ _ _ => trivial) (fun _ _ => trivial) (by omega) fun w e g a b f => ⟨e, a, b, f⟩, ?_⟩
  rintro wB hB ⟨eB, gB, wB', lB⟩
  refine ⟨fun e => (by cases e), ?_⟩
  have nB := gB.1
  have xB := xA.ge wA' gB
  have lqB := lqA.ge gB
  have lAB := lA.ge gB
  repeat' (first | (refine zc9 ?_; simp))
  refine zbE (zbD (lAB.ls.at (by omega)) (lB.ls.at (by omega))) (by decide) (fun e => by cases e) ?_
  simp
  repeat' (first | (refine zc9 ?_; simp [t3]))
  refine zbE (zhD xB) (by decide) (fun e => by cases e) ?_
  have lw := lqB.len hB.get
  repeat' (first | (refine zc9 ?_; simp [lw]))
  have l9B := ((l9.mono (R' := fun j => h8.next ≤ j ∧ j < h9.next) fun j hj hr => ⟨hr, hj⟩).ge gA).ge gB
  refine zec l9B.ls (by omega) fun hC sC => ?_
  have nC := sC.next
  have xC : OutAt hC (fun _ => True) p m D2 := (((((x8.mono (R' := fun j => j < h8.next) fun j hj _ => hj).ge s8.wf g9).ge w9 gA).ge wA' gB).sp sC fun j hj => by omega).mono fun _ _ _ => trivial
  have lqC : LfP hC (fun _ => True) wq D2 eq := (((((lq8.mono (R' := fun j => j < h8.next) fun j hj _ => hj).ge g9).ge gA).ge gB).sp sC fun j hj => by omega).mono fun _ _ _ => trivial
  simp [t3]
  refine zku xC (by omega) fun wy ey hE gE wE lE => ?_
  rw [zeJ] at lE
  have nE := gE.1
  have lqE := lqC.ge gE
  simp
  refine zbD (lE.ls.at (by omega)) (lqE.ls.at (by omega)) _ ?_
  have hw := zak hlt (by omega : n < 9223372036854775808)
  simp [t5, hw]
  refine hK _ hE hlt ?_
  refine ⟨by simp [t0, t3], wE, by omega, fun k hk => ?_, D2, wq, eq, by simp, ⟨xC.ge sC.wf gE, lqE, gD2, lD2⟩⟩
  have := gh9.1
  rw [gE.2 k (by omega), sC.out (by omega), gB.2 k (by omega), gA.2 k (by omega)]
  exact k9 k hk
 ·have hi2 : i = n := by omega
  by_cases hl1 : i < l.length
  ·have hl2 : ¬ (i : Int) < 40 := by omega
   simp [t0, t3, t5, hl', hl1, hl2]
   refine zij x fun h3 p' m' g3 w3 q1 q2 y3 => ?_
   simp [zg7]
   refine zfm y3 fun h5 b5 w5 y5 => ?_
   have n3 := g3.1
   have n5 := b5.next
   have k5 : ∀ k, k < h'.next -> h5.get k = h'.get k := fun k hk => by rw [b5.keep k (by omega) (by omega) (by omega), g3.2 k hk]
   have gg5 : Ge h' h5 := ⟨by omega, k5⟩
   have x5 := x.ge wb gg5
   have l5 := lr.ge gg5
   have lw := l5.len h5.get
   simp [t3, t4, lw]
   refine ze5 x5 (by omega) fun wz ez h6 g6 w6 l6 => ?_
   rw [zeJ] at l6
   simp [t4]
   refine zbD (l6.ls.at (by omega)) ((l5.ge g6).ls.at (by omega)) _ ?_
   simp
   refine zfO h6 _ ?_
   simp
   exact gh'.trans (gg5.trans g6)
  ·simp [t0, t3, t5, hl', hl1]
   refine zij x fun h3 p' m' g3 w3 q1 q2 y3 => ?_
   simp [zg7]
   refine zfm y3 fun h5 b5 w5 y5 => ?_
   have n3 := g3.1
   have n5 := b5.next
   have k5 : ∀ k, k < h'.next -> h5.get k = h'.get k := fun k hk => by rw [b5.keep k (by omega) (by omega) (by omega), g3.2 k hk]
   have gg5 : Ge h' h5 := ⟨by omega, k5⟩
   have x5 := x.ge wb gg5
   have l5 := lr.ge gg5
   have lw := l5.len h5.get
   simp [t3, t4, lw]
   refine ze5 x5 (by omega) fun wz ez h6 g6 w6 l6 => ?_
   rw [zeJ] at l6
   simp [t4]
   refine zbD (l6.ls.at (by omega)) ((l5.ge g6).ls.at (by omega)) _ ?_
   simp
   refine zfO h6 _ ?_
   simp
   exact gh'.trans (gg5.trans g6)
end Go.Am

namespace Go.Am
open Go.Proofs

def zql : List Dl := [.lf .bool, .lf (.int .i64), .lf (.int .u64), .lf .str, .lf (.int .i64), .sl 240 chgL]
def zrH : Dl := .sl 72 zql
theorem zhh {g : Nat -> Option O} : ∀ (ess : List (List V)), (∀ es ∈ ess, Dls.ok g zql es) -> ∃ l : List AAct, ess.length = l.length ∧ ∀ (i : Nat) (a : AAct), l[i]? = some a -> ∃ w ls, ess[i]? = some (zlF a w) ∧ CsIn g w a.L ls
 | [], _ => ⟨[], rfl, by simp⟩
 | es :: ess, h => by
  obtain ⟨l, e1, e2⟩ := zhh ess fun e he => h e (List.mem_cons_of_mem _ he)
  obtain ⟨v1, r1, rfl, ⟨b1, rfl⟩, v2, r2, rfl, ⟨n2, rfl, f2⟩, v3, r3, rfl, h3, v4, r4, rfl, ⟨s4, rfl, f4⟩, v5, r5, rfl, ⟨n5, rfl, f5⟩, v6, r6, rfl, h6, rfl⟩ := h es (by simp)
  obtain ⟨n3, rfl, f3⟩ := zcE zj7 h3
  obtain ⟨L, ls, cs⟩ := zrE h6
  refine ⟨⟨b1, ⟨n2, n3, s4, n5⟩, L⟩ :: l, by simp [e1], fun i x hi => ?_⟩
  cases i with
  | zero => simp at hi; subst hi; exact ⟨v6, ls, rfl, cs⟩
  | succ i => simpa using e2 i x (by simpa using hi)
theorem zq5 {g : Nat -> Option O} {v : V} (h : Dl.ok g zrH v) : ∃ l es, AActs g v l es := by
 obtain ⟨ess, s, c, d, q⟩ := h
 obtain ⟨l, e1, e2⟩ := zhh ess q
 refine ⟨l, ess, s, e1, fun i a hi => ?_⟩
 obtain ⟨w, ls, a1, a2⟩ := e2 i a hi
 exact ⟨w, ls, a1, a2.cs, a2.cap, fun c hc => by obtain ⟨_, x⟩ := a2.all c hc; exact x.sz⟩
end Go.Am
