/-
 PC5, PL0, PC6, PC7, PC8, PP0, PP1, PP2, PP3, PP4, PP5, AJ0, AJ1, AJ2, AJ3, AW0, AW1, AW2, AW3, PC9, AP0, AP1, AA0, AA1, AA2, AK0, AK1, in one text.
-/
import Derived.Test.YtpgcodeckphanaaGreatDoorEMC
import Derived.Test.YtpgcodeckphanaaGreatDoorEMA
import Derived.Test.YtpgcodeckphanaaGreatDoorEAm32
import Derived.Test.YtpgcodeckphanaaGreatDoorEShS
import Derived.Test.YtpgcodeckphanaaGreatDoorEAm40
import Derived.Test.YtpgcodeckphanaaGreatDoorEMB
import Derived.Test.YtpgcodeckphanaaGreatDoorEAm37
import Derived.Test.YtpgcodeckphanaaGreatDoorEAmL
import Derived.Test.YtpgcodeckphanaaGreatDoorEAm21
import Derived.Test.YtpgcodeckphanaaGreatDoorEAm36
import Derived.Test.YtpgcodeckphanaaGreatDoorEQwTab
import Derived.KernelRfl
import Derived.Test.YtpgcodeckphanaaGreatDoorEAm33
namespace Go.Am
open Go.Proofs

set_option maxRecDepth 100000
theorem zpp {h : H} {q : Nat} {a b : Int} (hq : h.get q = some (.row [.int .i64 a, .int .i64 b])) : Pure Tryz.prog 80 [.sl q 2 0 2 (some 2)] h (.int .i64 (orI a b)) := by
 refine zah Tryz.func80 S.a31c S.a31e rfl (Nat.le_of_ble_eq_true rfl) fun wf => ?_; simp only [S.a31]
 have c1 : zab h.get q 2 = some [.int .i64 a, .int .i64 b] := by rw [zag hq (by rfl)]; rfl
 simp
 refine zaK (fun i t h' => (t 3 = .int .i64 0 ∧ t 6 = .sl q 2 0 2 (some 2) ∧ t 7 = .int .i64 2 ∧ t 8 = .int .i64 (i : Nat)) ∧ h = h' ∧ (0 < i -> a = 0) ∧ (1 < i -> b = 0)) 2 ⟨by simp, rfl, by omega, by omega⟩ ?_
 rintro i t h' hi ⟨⟨t3, t6, t7, t8⟩, rfl, k1, k2⟩ K hK
 have w1 : IntKind.i64.wrap 1 = 1 := by decide
 have w2 : IntKind.i64.wrap 2 = 2 := by decide
 rcases (by omega : i = 0 ∨ i = 1 ∨ i = 2) with rfl | rfl | rfl
 ·by_cases hz : a = 0
  ·simp [t3, t6, t7, t8, c1, hz, w1]
   exact hK _ _ (by omega) ⟨by simp [t3, t6, t7], rfl, fun _ => hz, by omega⟩
  ·have hb : (a != 0) = true := by simpa using hz
   simp [t3, t6, t7, t8, c1, hb, zcy hz]
 ·have z1 := k1 (by omega)
  by_cases hz : b = 0
  ·simp [t3, t6, t7, t8, c1, hz, w2]
   exact hK _ _ (by omega) ⟨by simp [t3, t6, t7], rfl, fun _ => z1, fun _ => hz⟩
  ·have hb : (b != 0) = true := by simpa using hz
   simp [t3, t6, t7, t8, c1, hb, z1, zbi]
 ·have z1 := k1 (by omega)
  have z2 := k2 (by omega)
  simp [t3, t7, t8, z1, z2, zbi]
theorem zkK {h : H} {a b : Chg} {vp vc vx vl vk wp wc wx wl wk : V} (o1 : vp.one = true) (o2 : vc.one = true) (o3 : vx.one = true) (o4 : vl.one = true) (o5 : vk.one = true) (p1 : wp.one = true) (p2 : wc.one = true) (p3 : wx.one = true) (p4 : wl.one = true) (p5 : wk.one = true) :
  Pure Tryz.prog 94 [.agg (chC a vp vc vx vl vk), .agg (chC b wp wc wx wl wk)] h (.int .i64 (cmpC a b)) := by
 refine zah Tryz.func94 S.a43c S.a43e rfl (Nat.le_of_ble_eq_true rfl) fun wf => ?_; simp only [S.a43]
 obtain ⟨h2, hh2⟩ : ∃ h2, h2 = (h.push (.row (chC a vp vc vx vl vk))).push (.row (chC b wp wc wx wl wk)) := ⟨_, rfl⟩
 have g2 : Ge h h2 := by rw [hh2]; exact ((Ge.refl _).push _).push _
 have n01 : ¬ h.next = h.next + 1 := by omega
 have c1 : zab h2.get h.next 23 = some (chC a vp vc vx vl vk) := by rw [hh2]; simp [chC]
 have c2 : zab h2.get (h.next + 1) 23 = some (chC b wp wc wx wl wk) := by rw [hh2]; simp [chC]
 simp only [chC] at hh2 c1 c2 ⊢
 simp [o1, o2, o3, o4, o5, p1, p2, p3, p4, p5]
 rw [<- hh2]
 have r2 : zaq 2 [V.int .i64 0] = [.int .i64 0, .int .i64 0] := rfl
 refine zfp _ zno (by rfl) ?_
 simp [List.lookup, c1, c2, znf]
 refine zfJ (zpp (q := h2.next) (a := cmp4 a.n.p.fam a.n.p.rd a.n.p.len b.n.p.fam b.n.p.rd b.n.p.len a.n.p.addr b.n.p.addr) (b := cmpI a.n.id b.n.id) (by simp [r2])) ?_
 simp [cmpC, ziZ, zae, zjW, cmp4]
 exact g2.push _
open Go.Sort in
theorem swo_c : SWO (ltOf cmpC) := by
 refine ⟨fun x => ?_, fun x y z h1 h2 => ?_, fun x y z h1 h2 => ?_⟩
 ·simp [ltOf, ordr_c.self x]
 ·simp only [ltOf, decide_eq_true_eq] at *
  exact ordr_c.down _ _ _ h1 h2
 ·simp only [ltOf, decide_eq_false_iff_not] at *
  intro h
  have a := ordr_c.anti x y
  rcases Int.lt_trichotomy (cmpC y x) 0 with k | k | k
  ·exact h2 (ordr_c.down y x z k h)
  ·have := ordr_c.same y x z k; omega
  ·omega
open Go.Sort in
theorem zkE {h : H} {j : Nat} {ca : Option Nat} {l : List (Chg × List V)} {o : O} (hg : h.get j = some o) (ho : o = .row (l.map Prod.snd).flatten ∨ o = .grow 23 (l.map Prod.snd).flatten) (he : ∀ x ∈ l, ∃ vp vc vx vl vk, x.2 = chC x.1 vp vc vx vl vk ∧ vp.one = true ∧ vc.one = true ∧ vx.one = true ∧ vl.one = true ∧ vk.one = true) (hl : l.length ≤ 1000000) (hne : l ≠ []) {g : FuncId} (heg : zaa Tryz.prog g = true)
  (hcmp : ∀ (a b : Chg) (h' : H), Pure Tryz.prog g [.agg (chC a .any .any .any .any .any), .agg (chC b .any .any .any .any .any)] h' (.int .i64 (cmpC a b))) {Q : V -> H -> Prop}
  (q : ∀ l' : List (Chg × List V), l'.Perm l -> l'.Pairwise (fun x y => ¬ cmpC y.1 x.1 < 0) -> Q (.tup []) (h.set j (match o with | .row _ => .row (l'.map Prod.snd).flatten | _ => .grow 23 (l'.map Prod.snd).flatten))) :
  Acalls Tryz.prog 78 [.sl j (l.length * 23) 0 l.length ca, .func (.func g) [] []] h Q := by
 have h23 : ∀ {m : List (Chg × List V)}, (∀ x ∈ m, x ∈ l) -> ∀ e ∈ m.map Prod.snd, e.length = 23 := fun hm e hx => by
  obtain ⟨x, hx1, rfl⟩ := List.mem_map.1 hx
  obtain ⟨_, _, _, _, _, e, _⟩ := he x (hm x hx1)
  rw [e]; rfl
 have hfl := zas (h23 (m := l) fun x hx => hx)
 simp only [List.length_map] at hfl
 have hone : ∀ e ∈ l.map Prod.snd, e.all V.one = true := fun e hx => by
  obtain ⟨x, hx1, rfl⟩ := List.mem_map.1 hx
  obtain ⟨_, _, _, _, _, e, o1, o2, o3, o4, o5⟩ := he x hx1
  rw [e]; simp [chC, o1, o2, o3, o4, o5]
 have oc : o.cells = (l.map Prod.snd).flatten := by rcases ho with rfl | rfl <;> simp
 have orr : o.rowish = true := by rcases ho with rfl | rfl <;> rfl
 have ol : o.len = l.length * 23 := by rcases ho with rfl | rfl <;> simpa using hfl
 have S : SortIn h j (l.length * 23) 0 23 (l.map Prod.snd) o := ⟨hg, orr, ol, by rw [oc]; simp [hfl], by rw [oc]; simp only [List.drop_zero, List.length_map]; rw [<- hfl, List.take_length], h23 fun x hx => hx, hone⟩
 refine zle Tryz.sort78 (F := 78) (g := g) (k := 23) rfl (by kernel_rfl) Tryz.isAgg48 Tryz.sizeOf48 (by decide) S (encV := Prod.snd) (shV := fun x => chC x.1 .any .any .any .any .any) (cmpB := fun x y => cmpC x.1 y.1) ⟨fun x => swo_c.irrefl _, fun x y z => swo_c.trans _ _ _, fun x y z => swo_c.ntrans _ _ _⟩ (fun x hx => ?_) heg rfl (by omega) (List.length_pos_iff.2 hne) (fun x _ y _ h' => hcmp x.1 y.1 h') (fun l' o' hp hs hput => ?_)
 ·obtain ⟨vp, vc, vx, vl, vk, e, o1, o2, o3, o4, o5⟩ := he x hx
  rw [e]
  have nr : ∀ v : V, v.ids = [] -> Weak v v := fun v hv => .inr ⟨rfl, hv⟩
  have an : ∀ v : V, v.one = true -> Weak v .any := fun v hv => .inl ⟨rfl, hv⟩
  exact .cons (nr _ rfl) (.cons (nr _ rfl) (.cons (nr _ rfl) (.cons (nr _ rfl) (.cons (nr _ rfl) (.cons (nr _ rfl) (.cons (nr _ rfl) (.cons (nr _ rfl) (.cons (an _ o1) (.cons (nr _ rfl) (.cons (nr _ rfl) (.cons (nr _ rfl) (.cons (nr _ rfl) (.cons (nr _ rfl) (.cons (nr _ rfl) (.cons (nr _ rfl) (.cons (nr _ rfl) (.cons (an _ o2) (.cons (an _ o3) (.cons (an _ o4) (.cons (nr _ rfl) (.cons (nr _ rfl) (.cons (an _ o5) .nil))))))))))))))))))))))
 ·have hfl' := zas (h23 (m := l') fun x hx => hp.mem_iff.1 hx)
  simp only [List.length_map] at hfl'
  have hle := hp.length_eq
  have hs' : l'.Pairwise (fun x y => ¬ cmpC y.1 x.1 < 0) := hs.imp fun {a b} h => by simpa [ltOf] using h
  have hQ := q l' hp hs'
  rcases ho with rfl | rfl
  ·have e : o' = .row (l'.map Prod.snd).flatten := by
    rw [zjA, if_pos (by rw [hfl', hfl, hle]; omega)] at hput
    cases hput
    unfold putCells
    rw [List.take_zero, List.nil_append, Nat.zero_add, hfl', hle, <- hfl, List.drop_length, List.append_nil]
   rw [e]; exact hQ
  ·have e : o' = .grow 23 (l'.map Prod.snd).flatten := by
    rw [zhR, if_pos (by rw [hfl', hfl, hle]; omega)] at hput
    cases hput
    unfold putCells
    rw [List.take_zero, List.nil_append, Nat.zero_add, hfl', hle, <- hfl, List.drop_length, List.append_nil]
   rw [e]; exact hQ
end Go.Am

namespace Go.Am

structure Pc where
 gap : Nat
 op : Nat
 last : Nat
 S : List Chg
def zrh (P : Pc) (l : List Chg) : Pc := ⟨P.gap, P.op, P.last, l.foldl putC P.S⟩
theorem zcg : ∀ (l S : List Chg), Rise cmpC S -> Rise cmpC (l.foldl putC S)
 | [], _, h => h
 | _ :: l, _, h => zcg l _ (zbJ h)
structure Stp where
 key : Nat
 wait : Nat
 gone : Bool
 fire : Bool
def attM (i : Nat) : Att := ⟨0, [], [], true, i, false, 0, false, 0, 0, [], [], [], false, 0, []⟩
def nlOf (k : Nat) : Nl := ⟨⟨1, 0, [UInt8.ofNat (10 + k % 4), 0, 0, 0], 8⟩, k % 8 / 4, 0⟩
def ze8 (x : Stp) (i : Nat) : Chg := ⟨x.gone, nlOf x.key, if x.gone = true then att0 else attM i⟩
def ixOf (c : Chg) : Nat := ((c.n.p.addr.getD 0 0).toNat - 10) + 4 * c.n.id
theorem zhv (x : Stp) (i : Nat) : ixOf (ze8 x i) = x.key % 8 := by
 have : (UInt8.ofNat (10 + x.key % 4)).toNat = 10 + x.key % 4 := by
  rw [UInt8.toNat_ofNat']; omega
 simp only [ixOf, ze8, nlOf, List.getD_cons_zero, this]
 omega
theorem zmS {x y : Stp} {i j : Nat} (h : x.key % 8 = y.key % 8) : zae (ze8 x i) = zae (ze8 y j) := by
 have h1 : x.key % 4 = y.key % 4 := by omega
 simp only [zae, ze8, nlOf, h, h1]
def zpe (l : List Stp) (put sent : Nat -> Nat) (c : Chg) : Prop := ∃ k x, k < 8 ∧ put k ≠ sent k ∧ l[put k - 1]? = some x ∧ x.key % 8 = k ∧ c = ze8 x (put k - 1)
structure PInv (g : Nat) (l : List Stp) (i : Nat) (P : Pc) (put sent : Nat -> Nat) : Prop where
 gap : P.gap = g
 le : ∀ k, k < 8 -> sent k ≤ put k
 pl : ∀ k, k < 8 -> put k ≤ i
 pk : ∀ k, k < 8 -> 0 < put k -> ∃ x, l[put k - 1]? = some x ∧ x.key % 8 = k
 rise : Rise cmpC P.S
 mem : ∀ c, c ∈ P.S ↔ zpe l put sent c
theorem PInv.zero (g : Nat) (l : List Stp) (op last : Nat) : PInv g l 0 ⟨g, op, last, []⟩ (fun _ => 0) (fun _ => 0) :=
 ⟨rfl, fun _ _ => Nat.le_refl _, fun _ _ => Nat.le_refl _, fun _ _ h => by omega, List.Pairwise.nil, fun c => ⟨fun h => (by cases h), fun ⟨_, _, _, h, _⟩ => absurd rfl h⟩⟩
def upAt (f : Nat -> Nat) (j v : Nat) : Nat -> Nat := fun k => if k = j then v else f k
theorem zcL (f : Nat -> Nat) (j v : Nat) : upAt f j v j = v := by simp [upAt]
theorem zeU (f : Nat -> Nat) {j k : Nat} (v : Nat) (h : k ≠ j) : upAt f j v k = f k := by simp [upAt, h]
theorem PInv.put {g i : Nat} {l : List Stp} {P : Pc} {put sent : Nat -> Nat} (v : PInv g l i P put sent) {x : Stp} (hx : l[i]? = some x) :
  PInv g l (i + 1) (zrh P [ze8 x i]) (upAt put (x.key % 8) (i + 1)) sent := by
 refine ⟨v.gap, fun k hk => ?_, fun k hk => ?_, fun k hk hp => ?_, zbJ v.rise, fun c => ?_⟩
 ·have := v.le k hk
  have := v.pl k hk
  unfold upAt
  split <;> omega
 ·have := v.pl k hk
  unfold upAt
  split <;> omega
 ·by_cases e : k = x.key % 8
  ·subst e; rw [zcL]; exact ⟨x, by simpa using hx, rfl⟩
  ·rw [zeU _ _ e] at hp ⊢; exact v.pk k hk hp
 ·show c ∈ putC P.S (ze8 x i) ↔ _
  rw [zco v.rise]
  constructor
  ·rintro (rfl | ⟨hc, hne⟩)
   ·refine ⟨x.key % 8, x, Nat.mod_lt _ (by decide), ?_, by rw [zcL]; simpa using hx, rfl, by rw [zcL]; simp⟩
    have := v.le (x.key % 8) (Nat.mod_lt _ (by decide))
    have := v.pl (x.key % 8) (Nat.mod_lt _ (by decide))
    rw [zcL]; omega
   ·obtain ⟨k, y, hk, h1, h2, h3, rfl⟩ := (v.mem c).1 hc
    have hkx : k ≠ x.key % 8 := fun e => hne (zmS (h3.trans e))
    exact ⟨k, y, hk, by rw [zeU _ _ hkx]; exact h1, by rw [zeU _ _ hkx]; exact h2, h3, by rw [zeU _ _ hkx]⟩
  ·rintro ⟨k, y, hk, h1, h2, h3, rfl⟩
   by_cases e : k = x.key % 8
   ·subst e
    rw [zcL] at h2 ⊢
    simp only [Nat.add_sub_cancel, hx, Option.some.injEq] at h2
    subst h2
    exact .inl (by simp)
   ·rw [zeU _ _ e] at h1 h2 ⊢
    refine .inr ⟨(v.mem _).2 ⟨k, y, hk, h1, h2, h3, rfl⟩, fun e2 => e ?_⟩
    have a := zhv y (put k - 1)
    have b := zhv x i
    unfold ixOf at a b
    simp only [zae, Ky.mk.injEq] at e2
    rw [e2.1, e2.2] at a
    omega
theorem PInv.up {g i : Nat} {l : List Stp} {P : Pc} {put sent : Nat -> Nat} (v : PInv g l i P put sent) : PInv g l (i + 1) P put sent :=
 ⟨v.gap, v.le, fun k hk => Nat.le_succ_of_le (v.pl k hk), v.pk, v.rise, v.mem⟩
def zi9 (put : Nat -> Nat) (sent : Nat -> Nat) (m : List Chg) : Nat -> Nat := fun k => if k ∈ m.map ixOf then put k else sent k
theorem PInv.one {g i : Nat} {l : List Stp} {P : Pc} {put sent : Nat -> Nat} (v : PInv g l i P put sent) {c : Chg} (hc : c ∈ P.S) :
  ixOf c < 8 ∧ 0 < put (ixOf c) ∧ put (ixOf c) ≤ i ∧ put (ixOf c) ≠ sent (ixOf c) ∧ ∃ x, l[put (ixOf c) - 1]? = some x ∧ x.key % 8 = ixOf c ∧ c = ze8 x (put (ixOf c) - 1) := by
 obtain ⟨k, x, hk, h1, h2, h3, rfl⟩ := (v.mem c).1 hc
 rw [zhv, h3]
 have := v.le k hk
 exact ⟨hk, by omega, v.pl k hk, h1, x, h2, h3, rfl⟩
theorem PInv.ix_nodup {g i : Nat} {l : List Stp} {P : Pc} {put sent : Nat -> Nat} (v : PInv g l i P put sent) : (P.S.map ixOf).Nodup := by
 unfold List.Nodup
 rw [List.pairwise_map]
 refine v.rise.imp_of_mem fun {a b} ha hb hab e => ?_
 obtain ⟨_, _, _, _, x, hx, _, ea⟩ := v.one ha
 obtain ⟨_, _, _, _, y, hy, _, eb⟩ := v.one hb
 rw [e, hy] at hx
 cases hx
 have : a = b := by rw [ea, eb, e]
 subst this
 have := ordr_c.self a
 omega
theorem PInv.ix_mem {g i : Nat} {l : List Stp} {P : Pc} {put sent : Nat -> Nat} (v : PInv g l i P put sent) {k : Nat} (hk : k < 8) : k ∈ P.S.map ixOf ↔ put k ≠ sent k := by
 constructor
 ·intro h
  obtain ⟨c, hc, rfl⟩ := List.mem_map.1 h
  exact (v.one hc).2.2.2.1
 ·intro h
  have h0 : 0 < put k := by have := v.le k hk; omega
  obtain ⟨x, hx, e⟩ := v.pk k hk h0
  refine List.mem_map.2 ⟨ze8 x (put k - 1), (v.mem _).2 ⟨k, x, hk, h, hx, e, rfl⟩, ?_⟩
  rw [zhv, e]
theorem PInv.count {g i : Nat} {l : List Stp} {P : Pc} {put sent : Nat -> Nat} (v : PInv g l i P put sent) : P.S.length = ((List.range 8).filter fun k => decide (put k ≠ sent k)).length := by
 have : (P.S.map ixOf).Perm ((List.range 8).filter fun k => decide (put k ≠ sent k)) := by
  refine (List.perm_ext_iff_of_nodup v.ix_nodup (List.nodup_range.filter _)).2 fun k => ?_
  rw [List.mem_filter, decide_eq_true_eq, List.mem_range]
  constructor
  ·intro h
   obtain ⟨c, hc, rfl⟩ := List.mem_map.1 h
   have := v.one hc
   exact ⟨this.1, this.2.2.2.1⟩
  ·exact fun ⟨h1, h2⟩ => (v.ix_mem h1).2 h2
 rw [<- this.length_eq, List.length_map]
theorem PInv.gone {g i : Nat} {l : List Stp} {P : Pc} {put sent : Nat -> Nat} (v : PInv g l i P put sent) (op last : Nat) : PInv g l i ⟨P.gap, op, last, []⟩ put (zi9 put sent P.S) := by
 refine ⟨v.gap, fun k hk => ?_, v.pl, v.pk, List.Pairwise.nil, fun c => ⟨fun h => (by cases h), ?_⟩⟩
 ·have := v.le k hk
  unfold zi9
  split <;> omega
 ·rintro ⟨k, x, hk, h1, _⟩
  unfold zi9 at h1
  split at h1
  ·exact absurd rfl h1
  ·rename_i h2
   exact absurd ((v.ix_mem hk).2 h1) h2
theorem PInv.with {g i : Nat} {l : List Stp} {P : Pc} {put sent : Nat -> Nat} (v : PInv g l i P put sent) (op last : Nat) : PInv g l i ⟨P.gap, op, last, P.S⟩ put sent := ⟨v.gap, v.le, v.pl, v.pk, v.rise, v.mem⟩
end Go.Am

namespace Go.Am
open Go.Proofs

set_option maxRecDepth 100000
theorem zpA {h : H} : Pure Tryz.prog 149 [.int .u64 0] h (.int .i64 0) := by
 refine zah Tryz.func149 S.a58c S.a58e rfl (Nat.le_of_ble_eq_true rfl) fun wf => ?_; simp only [S.a58]
 have w : IntKind.u8.wrap 0 = 0 := by decide
 have w2 : IntKind.i64.wrap 0 = 0 := by decide
 simp [w, w2]
theorem lenz {h : H} : Pure Tryz.prog 115 [.int .u64 0] h (.int .i64 0) := by
 refine zah Tryz.func115 S.a50c S.a50e rfl (Nat.le_of_ble_eq_true rfl) fun wf => ?_; simp only [S.a50]
 simp
 refine zpA _ ?_
 simp
theorem zpH {h : H} {v c : V} : Pure Tryz.prog 140 [v, .int .i64 0, .int .i64 0, c] h (.tup []) := by
 refine zah Tryz.func140 S.a57c S.a57e rfl (Nat.le_of_ble_eq_true rfl) fun wf => ?_; simp only [S.a57]
 have w : IntKind.i64.wrap 1 = 1 := by decide
 simp [w]
 refine zaK (fun i t h' => (t 2 = .int .i64 0 ∧ t 8 = .int .i64 1) ∧ h' = h) 0 ⟨by simp, rfl⟩ ?_
 rintro i t h' hi ⟨⟨t2, t8⟩, rfl⟩ K hK
 simp [t2, t8]
theorem pdqz {h : H} {v lim c : V} : Pure Tryz.prog 114 [v, .int .i64 0, .int .i64 0, lim, c] h (.tup []) := by
 refine zah Tryz.func114 S.a49c S.a49e rfl (Nat.le_of_ble_eq_true rfl) fun wf => ?_; simp only [S.a49]
 have w : IntKind.i64.wrap 0 = 0 := by decide
 simp
 refine zaK (fun i t h' => (t 0 = v ∧ t 1 = .int .i64 0 ∧ t 2 = .int .i64 0 ∧ t 4 = c) ∧ h' = h) 0 ⟨by simp, rfl⟩ ?_
 rintro i t h' hi ⟨⟨t0, t1, t2, t4⟩, rfl⟩ K hK
 simp [t0, t1, t2, t4, w]
 refine zpH _ ?_
 simp
theorem zrd {h : H} {v c : V} (hv : ∀ g, lenV 1 g v = some (.int .i64 0)) : Pure Tryz.prog 78 [v, c] h (.tup []) := by
 refine zah Tryz.func78 S.a30c S.a30e rfl (Nat.le_of_ble_eq_true rfl) fun wf => ?_; simp only [S.a30]
 have w : IntKind.u64.wrap 0 = 0 := by decide
 simp [hv, w]
 refine lenz _ ?_
 simp
 refine pdqz _ ?_
 simp

theorem zgG {S : List Chg} (hk : zaB S) (hw : S.Pairwise fun x y => ¬ cmpC y x < 0) : Rise cmpC S := by
 unfold zaB List.Nodup at hk
 rw [List.pairwise_map] at hk
 refine (hk.and hw).imp fun {a b} h => ?_
 have h1 := ordr_c.anti a b
 have h2 : cmpC a b ≠ 0 := fun e => h.1 (zgY e)
 have := h.2
 omega
def HeldAt (h : H) (R : Nat -> Prop) (m : Nat) (S : List Chg) : Prop := ∃ es bs tk L, h.get m = some (.mapo es bs tk) ∧ MapB es bs tk ∧ Srt L S ∧ es.length = L.length ∧ ∀ (i : Nat) (c : Chg), L[i]? = some c -> ∃ e, es[i]? = some (kyV (zae c), .agg e) ∧ ChP h R c e
structure PaceAt (h : H) (R : Nat -> Prop) (p m : Nat) (P : Pc) : Prop where
 row : h.get p = some (.row [.int .i64 (P.gap : Nat), .int .u64 (P.op : Nat), .int .u64 (P.last : Nat), .map m])
 held : HeldAt h R m P.S
theorem HeldAt.keep {h h' : H} {R : Nat -> Prop} {m : Nat} {S : List Chg} (x : HeldAt h R m S) (hn : h.next ≤ h'.next) (hm : h'.get m = h.get m) (k : ∀ j s cs, R j -> j < h.next -> h.get j = some (.grow s cs) -> h'.get j = some (.grow s cs)) : HeldAt h' R m S := by
 obtain ⟨es, bs, tk, L, a, b, c, d, e⟩ := x
 exact ⟨es, bs, tk, L, hm.trans a, b, c, d, fun i q hi => by obtain ⟨e1, h1, h2⟩ := e i q hi; exact ⟨e1, h1, h2.keep hn k⟩⟩
theorem HeldAt.mono {h : H} {R R' : Nat -> Prop} {m : Nat} {S : List Chg} (x : HeldAt h R m S) (k : ∀ j, j < h.next -> R j -> R' j) : HeldAt h R' m S := by
 obtain ⟨es, bs, tk, L, a, b, c, d, e⟩ := x
 exact ⟨es, bs, tk, L, a, b, c, d, fun i q hi => by obtain ⟨e1, h1, h2⟩ := e i q hi; exact ⟨e1, h1, h2.mono k⟩⟩
theorem HeldAt.len {h : H} {R : Nat -> Prop} {m : Nat} {S : List Chg} (x : HeldAt h R m S) (g : Nat -> Option O) (hg : g m = h.get m) : lenV 2 g (.map m) = some (.int .i64 (S.length : Nat)) := by
 obtain ⟨es, bs, tk, L, a, b, c, d, e⟩ := x
 simp [lenV, hg, a, d, c.perm.length_eq]
def chg0 : Chg := ⟨false, ⟨zgJ, 0, 0⟩, att0⟩
end Go.Am

namespace Go.Am
open Go.Proofs

set_option maxRecDepth 100000
structure But (h h' : H) (p m : Nat) : Prop where
 next : h.next ≤ h'.next
 keep : ∀ k, k < h.next -> k ≠ p -> k ≠ m -> h'.get k = h.get k
theorem But.refl (h : H) (p m : Nat) : But h h p m := ⟨Nat.le_refl _, fun _ _ _ _ => rfl⟩
theorem But.trans {a b c : H} {p m : Nat} (x : But a b p m) (y : But b c p m) : But a c p m := ⟨Nat.le_trans x.next y.next, fun k hk h1 h2 => (y.keep k (Nat.lt_of_lt_of_le hk x.next) h1 h2).trans (x.keep k hk h1 h2)⟩
theorem Ge.but {h h' : H} (g : Ge h h') (p m : Nat) : But h h' p m := ⟨g.1, fun k hk _ _ => g.2 k hk⟩
theorem PaceAt.lt {h : H} {R : Nat -> Prop} {p m : Nat} {P : Pc} (x : PaceAt h R p m P) (w : h.WF) : p < h.next ∧ m < h.next ∧ p ≠ m := by
 obtain ⟨es, bs, tk, L, a, _⟩ := x.held
 exact ⟨w.lt x.row, w.lt a, fun e => by subst e; rw [x.row] at a; cases a⟩
theorem PaceAt.keep {h h' : H} {R : Nat -> Prop} {p m : Nat} {P : Pc} (x : PaceAt h R p m P) (hn : h.next ≤ h'.next) (hp : h'.get p = h.get p) (hm : h'.get m = h.get m) (k : ∀ j s cs, R j -> j < h.next -> h.get j = some (.grow s cs) -> h'.get j = some (.grow s cs)) : PaceAt h' R p m P :=
 ⟨hp.trans x.row, x.held.keep hn hm k⟩
theorem PaceAt.ge {h h' : H} {R : Nat -> Prop} {p m : Nat} {P : Pc} (x : PaceAt h R p m P) (w : h.WF) (g : Ge h h') : PaceAt h' R p m P :=
 x.keep g.1 (g.2 _ (x.lt w).1) (g.2 _ (x.lt w).2.1) fun j _ _ _ hj e => (g.2 j hj).trans e
end Go.Am

namespace Go.Am
open Go.Proofs

set_option maxRecDepth 100000
def kyT : TS := .st [(0, 4, true, .st [(0, 1, false, .int), (1, 1, false, .int), (2, 1, false, .str), (3, 1, false, .int)]), (4, 1, false, .int)]
def kyD : KD := .st kyT 5
theorem ziA (k : Ky) : zbD kyD (kyV k) = true := rfl
theorem zqN (a b : Ky) : eqV kyT (kyV a) (kyV b) = some (decide (a = b)) := by
 have e1 := zks a.p b.p
 simp only [pfxC] at e1
 show eqFs _ _ _ = _
 rw [zbj (b := decide (a.p = b.p)) rfl rfl (by simpa using e1), zbj (b := decide (a.id = b.id)) rfl rfl (zfQ _ _ _)]
 by_cases h1 : a.p = b.p <;> by_cases h2 : a.id = b.id <;> cases a <;> cases b <;> simp_all [eqFs]
theorem zdW {ts : TS} {n : Nat} {k x e : V} {es : List (V × V)} {i : Nat} (h1 : zbD (.st ts n) x = true) : zbT (.st ts n) k ((x, e) :: es) i = (match eqV ts k x with
  | some true => some (some (i, e))
  | some false => zbT (.st ts n) k es (i + 1)
  | none => none) := by
 show (if zbD (.st ts n) x = true then _ else none) = _
 rw [if_pos h1]
 rfl
theorem zev : ∀ (es : List (V × V)) (L : List Chg) (i0 : Nat), es.length = L.length -> (∀ (i : Nat) (c : Chg), L[i]? = some c -> ∃ e, es[i]? = some (kyV (zae c), e)) -> ∀ k : Ky,
  (∃ j, ∃ hj : j < L.length, ∃ e, zae L[j] = k ∧ (∀ a (ha : a < j), zae L[a] ≠ k) ∧ zbT kyD (kyV k) es i0 = some (some (i0 + j, e))) ∨ ((∀ c ∈ L, zae c ≠ k) ∧ zbT kyD (kyV k) es i0 = some none)
 | [], [], _, _, _, _ => .inr ⟨by simp, rfl⟩
 | [], _ :: _, _, h, _, _ => by simp at h
 | _ :: _, [], _, h, _, _ => by simp at h
 | x :: es, c :: L, i0, hl, he, k => by
  obtain ⟨e, e0⟩ := he 0 c rfl
  have hx : x = (kyV (zae c), e) := by simpa using e0
  subst hx
  have hq := zqN k (zae c)
  by_cases hk : k = zae c
  ·refine .inl ⟨0, by simp, e, hk.symm, fun a ha => by omega, ?_⟩
   rw [kyD, zdW rfl, hq]; simp [hk]
  ·have ih := zev es L (i0 + 1) (by simpa using hl) (fun i c' hi => by simpa using he (i + 1) c' (by simpa using hi)) k
   have hf : zbT kyD (kyV k) ((kyV (zae c), e) :: es) i0 = zbT kyD (kyV k) es (i0 + 1) := by
    rw [kyD, zdW rfl, hq]; simp [hk]
   rw [hf]
   rcases ih with ⟨j, hj, e', a1, a2, a3⟩ | ⟨a1, a2⟩
   ·refine .inl ⟨j + 1, by simpa using hj, e', a1, fun a ha => ?_, by rw [a3]; congr 3; omega⟩
    cases a with
    | zero => exact fun e => hk e.symm
    | succ a => exact a2 a (by omega)
   ·exact .inr ⟨fun c' hc' => (List.mem_cons.1 hc').elim (fun e => e ▸ fun e2 => hk e2.symm) (a1 c'), a2⟩
theorem HeldAt.set {h : H} {R : Nat -> Prop} {m : Nat} {S : List Chg} (x : HeldAt h R m S) (c : Chg) {e : List V} (hc : ChP h R c e) :
  ∃ o, zb6 h.get kyD (.map m) (kyV (zae c)) (.agg e) = some (.set m o) ∧ HeldAt (h.set m o) R m (putC S c) := by
 obtain ⟨es, bs, tk, L, hm, mb, srt, hl, he⟩ := x
 have keepS : ∀ {o : O} {c : Chg} {e : List V}, ChP h R c e -> ChP (h.set m o) R c e := fun f => f.keep (by simp) fun j s' cs' _ _ hj => by rw [H.get_set, if_neg (fun e => by subst e; rw [hm] at hj; cases hj)]; exact hj
 rcases zev es L 0 hl (fun i c' hi => by obtain ⟨e', a, _⟩ := he i c' hi; exact ⟨_, a⟩) (zae c) with ⟨j, hj, e', a1, a2, a3⟩ | ⟨a1, a2⟩
 ·refine ⟨.mapo (es.set j (kyV (zae c), .agg e)) bs tk, ?_, es.set j (kyV (zae c), .agg e), bs, tk, L.set j c, by simp, mb.set, ?_, by simpa using hl, fun i c' hi => ?_⟩
  ·unfold zb6
   rw [if_pos (ziA _)]
   simp only [hm, a3, Nat.zero_add]
  ·have hu : upC L c = L.set j c := by
    rcases zjU L c with ⟨j', hj', b1, b2, b3⟩ | ⟨b1, _⟩
    ·have : j' = j := by
      rcases Nat.lt_trichotomy j j' with h1 | h1 | h1
      ·exact absurd a1 (b3 j h1)
      ·exact h1.symm
      ·exact absurd b1 (a2 j' h1)
     rw [b2, this]
    ·exact absurd a1 (b1 _ (List.getElem_mem hj))
   rw [<- hu]; exact srt.put c
  ·by_cases hij : i = j
   ·subst hij
    rw [List.getElem?_set_self hj, Option.some.injEq] at hi
    subst hi
    exact ⟨e, by rw [List.getElem?_set_self (by omega)], keepS hc⟩
   ·rw [List.getElem?_set_ne (by omega)] at hi
    obtain ⟨e1, b1, b2⟩ := he i c' hi
    exact ⟨e1, by rw [List.getElem?_set_ne (by omega)]; exact b1, keepS b2⟩
 ·refine ⟨.mapo (es ++ [(kyV (zae c), .agg e)]) (bs ++ [tk]) (tk + 1), ?_, es ++ [(kyV (zae c), .agg e)], bs ++ [tk], tk + 1, L ++ [c], by simp, mb.snoc, ?_, by simp [hl], fun i c' hi => ?_⟩
  ·unfold zb6
   rw [if_pos (ziA _)]
   simp only [hm, a2]
  ·have hu : upC L c = L ++ [c] := by
    rcases zjU L c with ⟨j', hj', b1, _, _⟩ | ⟨_, b2⟩
    ·exact absurd b1 (a1 _ (List.getElem_mem hj'))
    ·exact b2
   rw [<- hu]; exact srt.put c
  ·by_cases hij : i < L.length
   ·rw [List.getElem?_append_left hij] at hi
    obtain ⟨e1, b1, b2⟩ := he i c' hi
    exact ⟨e1, by rw [List.getElem?_append_left (by omega)]; exact b1, keepS b2⟩
   ·rw [List.getElem?_append_right (by omega)] at hi
    have h0 : i - L.length = 0 := by
     rcases Nat.eq_zero_or_pos (i - L.length) with h | h
     ·exact h
     ·rw [List.getElem?_eq_none (by simp; omega)] at hi; cases hi
    rw [h0] at hi
    simp at hi
    subst hi
    exact ⟨e, by rw [List.getElem?_append_right (by omega), hl, h0]; rfl, keepS hc⟩
theorem zdl {h : H} (w : h.WF) {sz : Nat} (es : List (List V)) : ∃ v h', Ge h h' ∧ h'.WF ∧ Gl h' h.next sz v es := by
 by_cases he : es = []
 ·subst he; exact ⟨.nilsl, h, Ge.refl _, w, Gl.nil _ _ _⟩
 ·exact ⟨.sl h.next es.flatten.length 0 es.length none, h.push (.grow sz es.flatten), (Ge.refl _).push _, w.push _, .inr ⟨he, h.next, Nat.le_refl _, by simp, rfl, by simp⟩⟩
theorem zgI : ∀ (l : List Sg) {g : H}, g.WF -> ∃ (es : List (List V)) (g' : H), Ge g g' ∧ g'.WF ∧ es.length = l.length ∧ ∀ (i : Nat) (s : Sg), l[i]? = some s -> ∃ w, es[i]? = some [.int .i64 s.kind, w] ∧ Fc g' g.next 1 w (s.ases.map cP)
 | [], g, wg => ⟨[], g, Ge.refl _, wg, rfl, by simp⟩
 | s :: l, g, wg => by
  obtain ⟨w, g1, a1, b1, c1⟩ := zdl wg (sz := 1) (s.ases.map cP)
  obtain ⟨es, g2, a2, b2, c2, d2⟩ := zgI l b1
  refine ⟨[.int .i64 s.kind, w] :: es, g2, a1.trans a2, b2, by simp [c2], fun i t hi => ?_⟩
  cases i with
  | zero => simp at hi; subst hi; exact ⟨w, rfl, (c1.keep a2.1 fun i hi => a2.2 i (c1.lo i hi).2).fr⟩
  | succ i => obtain ⟨u, e, f⟩ := d2 i t (by simpa using hi); exact ⟨u, by simpa using e, f.le a1.1⟩
theorem zhF {g : H} (wg : g.WF) {a : Att} (z : AttSz a) : ∃ wp wc wx wl wk g', Ge g g' ∧ g'.WF ∧ AttFr g' g.next a wp wc wx wl wk := by
 obtain ⟨es, g1, a1, b1, c1, d1⟩ := zgI a.path wg
 obtain ⟨wp, g2, a2, b2, c2⟩ := zdl b1 (sz := 2) es
 obtain ⟨wc, g3, a3, b3, c3⟩ := zdl b2 (sz := 1) (a.comms.map cP)
 obtain ⟨wx, g4, a4, b4, c4⟩ := zdl b3 (sz := 1) (a.exts.map cX)
 obtain ⟨wl, g5, a5, b5, c5⟩ := zdl b4 (sz := 3) (a.larges.map cL)
 obtain ⟨wk, g6, a6, b6, c6⟩ := zdl b5 (sz := 1) (a.clus.map cP)
 have e1 := a1.1
 have e2 := a2.1
 have e3 := a3.1
 have e4 := a4.1
 have e5 := a5.1
 have t5 := a5.trans a6
 have t4 := a4.trans t5
 have t3 := a3.trans t4
 have t2 := a2.trans t3
 refine ⟨wp, wc, wx, wl, wk, g6, a1.trans t2, b6, ⟨⟨es, (c2.fr.ge t3).le (by omega), c1, fun i s hi => ?_⟩, (c3.fr.ge t4).le (by omega), (c4.fr.ge t5).le (by omega), (c5.fr.ge a6).le (by omega), c6.fr.le (by omega), z⟩⟩
 obtain ⟨w, e, f⟩ := d1 i s hi
 exact ⟨w, e, f.ge t2⟩

end Go.Am

namespace Go.Am
open Go.Proofs

set_option maxRecDepth 100000
def AtR (p : Chg -> List V -> Prop) (L : List Chg) (es : List (List V)) : Prop := es.length = L.length ∧ ∀ (i : Nat) (c : Chg), L[i]? = some c -> ∃ e, es[i]? = some e ∧ p c e
theorem AtR.nil (p : Chg -> List V -> Prop) : AtR p [] [] := ⟨rfl, fun i c h => by simp at h⟩
theorem AtR.mono {p p' : Chg -> List V -> Prop} {L : List Chg} {es : List (List V)} (a : AtR p L es) (k : ∀ c e, p c e -> p' c e) : AtR p' L es :=
 ⟨a.1, fun i c h => by obtain ⟨e, h1, h2⟩ := a.2 i c h; exact ⟨e, h1, k c e h2⟩⟩
theorem AtR.single {p : Chg -> List V -> Prop} {c : Chg} {e : List V} (h : p c e) : AtR p [c] [e] := ⟨rfl, fun i c' hi => by
 cases i with
 | zero => simp at hi; subst hi; exact ⟨e, rfl, h⟩
 | succ i => simp at hi⟩
theorem AtR.append {p : Chg -> List V -> Prop} {L M : List Chg} {es fs : List (List V)} (a : AtR p L es) (b : AtR p M fs) : AtR p (L ++ M) (es ++ fs) := by
 refine ⟨by simp [a.1, b.1], fun i c hi => ?_⟩
 by_cases h : i < L.length
 ·rw [List.getElem?_append_left h] at hi
  obtain ⟨e, h1, h2⟩ := a.2 i c hi
  exact ⟨e, by rw [List.getElem?_append_left (by have := a.1; omega)]; exact h1, h2⟩
 ·rw [List.getElem?_append_right (by omega)] at hi
  obtain ⟨e, h1, h2⟩ := b.2 _ c hi
  exact ⟨e, by rw [List.getElem?_append_right (by have := a.1; omega), a.1]; exact h1, h2⟩
theorem AtR.take {p : Chg -> List V -> Prop} {L : List Chg} {es : List (List V)} (a : AtR p L es) (k : Nat) : AtR p (L.take k) (es.take k) := by
 refine ⟨by simp [a.1], fun i c hi => ?_⟩
 rw [List.getElem?_take] at hi
 split at hi
 ·rename_i h
  obtain ⟨e, h1, h2⟩ := a.2 i c hi
  exact ⟨e, by rw [List.getElem?_take, if_pos h]; exact h1, h2⟩
 ·cases hi
theorem AtR.drop {p : Chg -> List V -> Prop} {L : List Chg} {es : List (List V)} (a : AtR p L es) (k : Nat) : AtR p (L.drop k) (es.drop k) := by
 refine ⟨by simp [a.1], fun i c hi => ?_⟩
 rw [List.getElem?_drop] at hi
 obtain ⟨e, h1, h2⟩ := a.2 _ c hi
 exact ⟨e, by rw [List.getElem?_drop]; exact h1, h2⟩
theorem AtR.mem {p : Chg -> List V -> Prop} {L : List Chg} {es : List (List V)} (a : AtR p L es) : ∀ e ∈ es, ∃ c ∈ L, p c e := fun e he => by
 obtain ⟨i, hi, rfl⟩ := List.mem_iff_getElem.1 he
 obtain ⟨e', h1, h2⟩ := a.2 i (L[i]'(by rw [<- a.1]; exact hi)) (List.getElem?_eq_getElem _)
 rw [List.getElem?_eq_getElem hi, Option.some.injEq] at h1
 exact ⟨_, List.getElem_mem (by rw [<- a.1]; exact hi), by rw [h1]; exact h2⟩
structure LfP (h : H) (R : Nat -> Prop) (v : V) (L : List Chg) (es : List (List V)) : Prop where
 fc : FcP h R 23 v es
 at' : AtR (ChP h R) L es
theorem LfP.ls {h : H} {R : Nat -> Prop} {v : V} {L : List Chg} {es : List (List V)} (s : LfP h R v L es) : LsP h R v L es := ⟨s.fc.rw, s.at'.1, s.at'.2⟩
theorem LfP.mono {h : H} {R R' : Nat -> Prop} {v : V} {L : List Chg} {es : List (List V)} (s : LfP h R v L es) (k : ∀ j, j < h.next -> R j -> R' j) : LfP h R' v L es :=
 ⟨s.fc.mono k, s.at'.mono fun _ _ f => f.mono k⟩
theorem LfP.keep {h h' : H} {R : Nat -> Prop} {v : V} {L : List Chg} {es : List (List V)} (s : LfP h R v L es) (hn : h.next ≤ h'.next) (k : ∀ j, R j -> j < h.next -> h'.get j = h.get j) : LfP h' R v L es :=
 ⟨s.fc.keep hn fun j _ _ hj hl e => (k j hj hl).trans e, s.at'.mono fun _ _ f => f.keep hn fun j _ _ hj hl e => (k j hj hl).trans e⟩
theorem LfP.keepG {h h' : H} {R : Nat -> Prop} {v : V} {L : List Chg} {es : List (List V)} (s : LfP h R v L es) (hn : h.next ≤ h'.next) (k : ∀ j sz cs, R j -> j < h.next -> h.get j = some (.grow sz cs) -> h'.get j = some (.grow sz cs)) : LfP h' R v L es :=
 ⟨s.fc.keep hn k, s.at'.mono fun _ _ f => f.keep hn k⟩
theorem LfP.ge {h h' : H} {R : Nat -> Prop} {v : V} {L : List Chg} {es : List (List V)} (s : LfP h R v L es) (g : Ge h h') : LfP h' R v L es := s.keep g.1 fun j _ hj => g.2 j hj
theorem LfP.nil (h : H) (R : Nat -> Prop) : LfP h R .nilsl [] [] := ⟨.inl ⟨rfl, .inl rfl⟩, AtR.nil _⟩
theorem LfP.one {h : H} {R : Nat -> Prop} {v : V} {L : List Chg} {es : List (List V)} (s : LfP h R v L es) : v.one = true := s.fc.one
theorem FcP.cap {h : H} {R : Nat -> Prop} {sz : Nat} {v : V} {es : List (List V)} (f : FcP h R sz v es) : zei v := by
 rcases f with ⟨_, rfl | ⟨k, rfl⟩⟩ | ⟨_, j, _, _, rfl, _⟩ <;> simp [zei]
theorem FcP.keep3 {h h' : H} {R : Nat -> Prop} {sz : Nat} {v : V} {es : List (List V)} (f : FcP h R sz v es) (hs : sz ≤ 3) (hn : h.next ≤ h'.next) (k : ∀ j s cs, s ≤ 3 -> R j -> j < h.next -> h.get j = some (.grow s cs) -> h'.get j = some (.grow s cs)) : FcP h' R sz v es := by
 rcases f with e | ⟨hne, j, a, b, c, d⟩
 ·exact .inl e
 ·exact .inr ⟨hne, j, a, Nat.lt_of_lt_of_le b hn, c, k j _ _ hs a b d⟩
theorem AttP.keep3 {h h' : H} {R : Nat -> Prop} {a : Att} {vp vc vx vl vk : V} (f : AttP h R a vp vc vx vl vk) (hn : h.next ≤ h'.next) (k : ∀ j s cs, s ≤ 3 -> R j -> j < h.next -> h.get j = some (.grow s cs) -> h'.get j = some (.grow s cs)) : AttP h' R a vp vc vx vl vk := by
 obtain ⟨es, f1, f2, f3⟩ := f.path
 exact ⟨⟨es, f1.keep3 (by decide) hn k, f2, fun i s hi => by obtain ⟨w, e, g⟩ := f3 i s hi; exact ⟨w, e, g.keep3 (by decide) hn k⟩⟩, f.comms.keep3 (by decide) hn k, f.exts.keep3 (by decide) hn k, f.larges.keep3 (by decide) hn k, f.clus.keep3 (by decide) hn k, f.sz⟩
theorem ChP.keep3 {h h' : H} {R : Nat -> Prop} {c : Chg} {e : List V} (f : ChP h R c e) (hn : h.next ≤ h'.next) (k : ∀ j s cs, s ≤ 3 -> R j -> j < h.next -> h.get j = some (.grow s cs) -> h'.get j = some (.grow s cs)) : ChP h' R c e := by
 obtain ⟨vp, vc, vx, vl, vk, a, b⟩ := f; exact ⟨vp, vc, vx, vl, vk, a, b.keep3 hn k⟩
end Go.Am

namespace Go.Am
open Go.Proofs

set_option maxRecDepth 100000
theorem zcE {body : (Exit -> Tm -> H -> Prop) -> Tm -> H -> Prop} {Q : Exit -> Tm -> H -> Prop} {t : Tm} {h : H} {id : Nat} (J : Tm -> H -> Prop) (ha : ∀ R : Exit -> Tm -> H -> Prop, (∀ t' h', J t' h' -> R .normal t' h') -> zeT body (zcA id R) t h) (k : ∀ t' h', J t' h' -> Q .normal t' h') : zeT body (zcA id Q) t h := ha Q k
theorem LfP.len {h : H} {R : Nat -> Prop} {v : V} {L : List Chg} {es : List (List V)} (s : LfP h R v L es) (g : Nat -> Option O) : lenV 1 g v = some (.int .i64 (L.length : Nat)) := by
 rw [<- s.at'.1]
 rcases s.fc with ⟨rfl, rfl | ⟨k, rfl⟩⟩ | ⟨_, j, _, _, rfl, _⟩ <;> simp [lenV]
theorem LfP.ones {h : H} {R : Nat -> Prop} {v : V} {L : List Chg} {es : List (List V)} (s : LfP h R v L es) : ∀ e ∈ es, e.all V.one = true := fun e he => by
 obtain ⟨c, _, f⟩ := s.at'.mem e he
 exact f.at.ones
end Go.Am

namespace Go.Am
open Go.Proofs

set_option maxRecDepth 100000
theorem CsAt.take {g : Nat -> Option O} {v : V} {L : List Chg} {es : List (List V)} (s : CsAt g v L es) (c : zei v) {k : Nat} (hk : k ≤ L.length) (kd : IntKind) :
  ∃ v', zaw 23 none (some (.int kd (k : Int))) none v = some v' ∧ CsAt g v' (L.take k) (es.take k) := by
 obtain ⟨v', e, s', _⟩ := s.sls.take c (k := k) (by rw [s.len]; exact hk) kd
 refine ⟨v', e, s', by simp [s.len], fun i c hi => ?_⟩
 rw [List.getElem?_take] at hi ⊢
 split at hi
 ·rename_i h
  rw [if_pos h]; exact s.at' i c hi
 ·cases hi
end Go.Am

namespace Go.Am
open Go.Proofs

set_option maxRecDepth 100000
theorem zfA : ∀ (L : List Chg) {g : H}, g.WF -> (∀ c ∈ L, AttSz c.att) -> ∃ (es : List (List V)) (g' : H), Ge g g' ∧ g'.WF ∧ AtR (ChP g' fun j => g.next ≤ j) L es
 | [], g, w, _ => ⟨[], g, Ge.refl _, w, AtR.nil _⟩
 | c :: L, g, w, z => by
  obtain ⟨yp, yc, yx, yl, yk, g1, a1, b1, f1⟩ := zhF w (z c (by simp))
  obtain ⟨es, g2, a2, b2, f2⟩ := zfA L b1 fun x hx => z x (by simp [hx])
  refine ⟨chC c yp yc yx yl yk :: es, g2, a1.trans a2, b2, ?_⟩
  have h1 : ChP g2 (fun j => g.next ≤ j) c (chC c yp yc yx yl yk) := ⟨yp, yc, yx, yl, yk, rfl, (f1.p.ge a2).mono fun j _ hj => hj.1⟩
  exact (AtR.single h1).append (f2.mono fun c e f => f.mono fun j _ hj => by have := a1.1; omega)
theorem zmD {g : H} (w : g.WF) {L : List Chg} (z : ∀ c ∈ L, AttSz c.att) : ∃ v es g', Ge g g' ∧ g'.WF ∧ LfP g' (fun j => g.next ≤ j) v L es := by
 obtain ⟨es, g1, a1, b1, f1⟩ := zfA L w z
 obtain ⟨v, g2, a2, b2, f2⟩ := zdl b1 (sz := 23) es
 refine ⟨v, es, g2, a1.trans a2, b2, f2.fr.p.mono fun j _ hj => by have := a1.1; omega, f1.mono fun c e f => f.ge a2⟩
end Go.Am

namespace Go.Am
open Go.Proofs

set_option maxRecDepth 100000
end Go.Am

namespace Go.Am
open Go.Proofs

set_option maxRecDepth 100000
structure Sp (R : Nat -> Prop) (h h' : H) : Prop where
 next : h'.next = h.next
 wf : h'.WF
 get : ∀ j, h'.get j = h.get j ∨ (R j ∧ ∃ cs cs', h.get j = some (.grow 1 cs) ∧ h'.get j = some (.grow 1 cs') ∧ cs'.length = cs.length)
theorem Sp.refl {R : Nat -> Prop} {h : H} (w : h.WF) : Sp R h h := ⟨rfl, w, fun _ => .inl rfl⟩
theorem Sp.out {R : Nat -> Prop} {h h' : H} (s : Sp R h h') {j : Nat} (hj : ¬ R j) : h'.get j = h.get j := by
 rcases s.get j with e | ⟨r, _⟩
 ·exact e
 ·exact absurd r hj
theorem Sp.row {R : Nat -> Prop} {h h' : H} (s : Sp R h h') {j : Nat} {o : O} (e : h.get j = some o) (ho : ∀ cs, o ≠ .grow 1 cs) : h'.get j = some o := by
 rcases s.get j with e2 | ⟨_, cs, _, e2, _⟩
 ·exact e2.trans e
 ·rw [e] at e2; cases e2; exact absurd rfl (ho cs)
theorem Sp.grow {R : Nat -> Prop} {h h' : H} (s : Sp R h h') {j : Nat} {cs : List V} (e : h.get j = some (.grow 1 cs)) : ∃ cs', h'.get j = some (.grow 1 cs') ∧ cs'.length = cs.length := by
 rcases s.get j with e2 | ⟨_, cs0, cs', e2, e3, e4⟩
 ·exact ⟨cs, e2.trans e, rfl⟩
 ·rw [e] at e2; cases e2; exact ⟨cs', e3, e4⟩
theorem Sp.set {R : Nat -> Prop} {h h' : H} (s : Sp R h h') {j : Nat} {cs cs2 : List V} (r : R j) (e : h'.get j = some (.grow 1 cs)) (hl : cs2.length = cs.length) : Sp R h (h'.set j (.grow 1 cs2)) := by
 refine ⟨by simpa using s.next, s.wf.set (s.wf.lt e) _, fun k => ?_⟩
 rw [H.get_set]
 by_cases hk : k = j
 ·subst hk
  rw [if_pos rfl]
  right
  refine ⟨r, ?_⟩
  rcases s.get k with e2 | ⟨_, c0, c1, e2, e3, e4⟩
  ·exact ⟨cs, cs2, e2.symm.trans e, rfl, hl⟩
  ·rw [e] at e3; cases e3
   exact ⟨c0, cs2, e2, rfl, hl.trans e4⟩
 ·rw [if_neg hk]; exact s.get k
theorem Sp.mono {R R' : Nat -> Prop} {h h' : H} (s : Sp R h h') (k : ∀ j, R j -> R' j) : Sp R' h h' := ⟨s.next, s.wf, fun j => (s.get j).imp id fun ⟨r, x⟩ => ⟨k j r, x⟩⟩
theorem RwP.at {h : H} {R : Nat -> Prop} {v : V} {es : List (List V)} (f : RwP h R 23 v es) (hs : ∀ e ∈ es, e.length = 23) {k : Nat} (hk : k < es.length) :
  ∃ j n o, (∀ kd, zaz 23 v (.int kd (k : Int)) = some (.ptr j n (k * 23))) ∧ h.get j = some o ∧ (∀ cs, o ≠ .grow 1 cs) ∧ o.len = n ∧ k * 23 + 23 ≤ n ∧ ∀ i, i < 23 -> o.cells[k * 23 + i]? = es[k][i]? := by
 have hl := zas hs
 rcases f with ⟨rfl, _⟩ | ⟨hne, j, ca, o, _, b, rfl, d, e⟩
 ·simp at hk
 ·have hm : k * 23 + 23 ≤ es.length * 23 := by omega
  have oc : o.cells = es.flatten := by rcases e with rfl | rfl <;> rfl
  refine ⟨j, es.flatten.length, o, fun kd => ?_, d, by rcases e with rfl | rfl <;> simp, by rcases e with rfl | rfl <;> simp, by omega, fun i hi => ?_⟩
  ·simp only [zcv, Int.toNat_natCast]
   rw [if_pos ⟨by omega, by omega⟩]; simp
  ·have := zeM hs hk
   rw [oc, <- this, List.getElem?_take, if_pos hi, List.getElem?_drop]
theorem LfP.sp {h h' : H} {R R' : Nat -> Prop} {v : V} {L : List Chg} {es : List (List V)} (l : LfP h R v L es) (s : Sp R' h h') (k : ∀ j, R j -> ¬ R' j) : LfP h' R v L es :=
 l.keep (by rw [s.next]; exact Nat.le_refl _) fun j hj _ => s.out (k j hj)
theorem LsP.sp {h h' : H} {R R' : Nat -> Prop} {v : V} {L : List Chg} {es : List (List V)} (l : LsP h R v L es) (s : Sp R' h h') (k : ∀ j, R j -> ¬ R' j) : LsP h' R v L es :=
 l.keep (by rw [s.next]; exact Nat.le_refl _) fun j hj _ => s.out (k j hj)
end Go.Am

namespace Go.Am
open Go.Proofs

set_option maxRecDepth 100000
structure OutAt (h : H) (R : Nat -> Prop) (p m : Nat) (D : List Chg) : Prop where
 row : h.get p = some (.row [.map m])
 held : HeldAt h R m D
theorem OutAt.lt {h : H} {R : Nat -> Prop} {p m : Nat} {D : List Chg} (x : OutAt h R p m D) (w : h.WF) : p < h.next ∧ m < h.next ∧ p ≠ m := by
 obtain ⟨es, bs, tk, L, a, _⟩ := x.held
 exact ⟨w.lt x.row, w.lt a, fun e => by subst e; rw [x.row] at a; cases a⟩
theorem OutAt.keep {h h' : H} {R : Nat -> Prop} {p m : Nat} {D : List Chg} (x : OutAt h R p m D) (hn : h.next ≤ h'.next) (hp : h'.get p = h.get p) (hm : h'.get m = h.get m) (k : ∀ j s cs, R j -> j < h.next -> h.get j = some (.grow s cs) -> h'.get j = some (.grow s cs)) : OutAt h' R p m D :=
 ⟨hp.trans x.row, x.held.keep hn hm k⟩
theorem OutAt.ge {h h' : H} {R : Nat -> Prop} {p m : Nat} {D : List Chg} (x : OutAt h R p m D) (w : h.WF) (g : Ge h h') : OutAt h' R p m D :=
 x.keep g.1 (g.2 _ (x.lt w).1) (g.2 _ (x.lt w).2.1) fun j _ _ _ hj e => (g.2 j hj).trans e
theorem OutAt.mono {h : H} {R R' : Nat -> Prop} {p m : Nat} {D : List Chg} (x : OutAt h R p m D) (k : ∀ j, j < h.next -> R j -> R' j) : OutAt h R' p m D := ⟨x.row, x.held.mono k⟩
theorem OutAt.cell {h : H} {R : Nat -> Prop} {p m : Nat} {D : List Chg} (x : OutAt h R p m D) : zab h.get p 1 = some [.map m] := (zag (n := 1) x.row rfl).trans rfl
theorem OutAt.len {h : H} {R : Nat -> Prop} {p m : Nat} {D : List Chg} (x : OutAt h R p m D) : lenV 2 h.get (.map m) = some (.int .i64 (D.length : Nat)) := x.held.len h.get rfl
theorem HeldAt.rise {h : H} {R : Nat -> Prop} {m : Nat} {D : List Chg} (x : HeldAt h R m D) : Rise cmpC D := by
 obtain ⟨es, bs, tk, L, _, _, a3, _, a5⟩ := x
 exact a3.rise
theorem zjZ (j n : Nat) : eqV TS.ptr (.ptr j n 0) .nilptr = some false := rfl
theorem zpL (m : Nat) : eqV TS.map (.map m) .nilmap = some false := rfl
theorem zf5 {h : H} {R : Nat -> Prop} {p m : Nat} {D : List Chg} (x : OutAt h R p m D) : Pure Tryz.prog 43 [.ptr p 1 0] h (.bool false) := by
 refine zah Tryz.func43 S.a11c S.a11e rfl (Nat.le_of_ble_eq_true rfl) fun wf => ?_; simp only [S.a11]
 simp [zjZ, zpL, x.cell]
theorem zjw {h : H} {Q : V -> H -> Prop} (q : ∀ h', Ge h h' -> h'.WF -> OutAt h' (fun _ => True) (h.next + 1) h.next [] -> Q (.ptr (h.next + 1) 1 0) h') : Acalls Tryz.prog 11 [] h Q := by
 refine zay Tryz.func11 S.a1c S.a1e (Nat.le_of_ble_eq_true rfl) fun wf => ?_; simp only [S.a1]
 have mo : (V.map h.next).one = true := rfl
 simp
 have mo2 : (V.map h.next).cells = [V.map h.next] := rfl
 refine q _ (((Ge.refl _).push _).push _) ((wf.push _).push _) ⟨by simp [mo2], [], [], 0, [], by simp [show ¬ h.next = h.next + 1 by omega], MapB.nil _, ⟨List.Perm.refl _, List.Pairwise.nil⟩, rfl, by simp⟩
theorem zfw {h : H} {R : Nat -> Prop} {p m : Nat} {D : List Chg} (x : OutAt h R p m D) : Pure Tryz.prog 17 [.ptr p 1 0] h (.int .i64 (D.length : Nat)) := by
 refine zah Tryz.func17 S.a5c S.a5e rfl (Nat.le_of_ble_eq_true rfl) fun wf => ?_; simp only [S.a5]
 simp
 refine zf5 x _ ?_
 simp [x.cell, x.len]
theorem zj0 {h : H} {R : Nat -> Prop} {p m : Nat} {D : List Chg} (x : OutAt h R p m D) {Q : V -> H -> Prop} (q : ∀ h', But h h' p m -> h'.WF -> OutAt h' R p m [] -> Q (.int .i64 (D.length : Nat)) h') : Acalls Tryz.prog 20 [.ptr p 1 0] h Q := by
 refine zay Tryz.func20 S.a7c S.a7e (Nat.le_of_ble_eq_true rfl) fun wf => ?_; simp only [S.a7]
 obtain ⟨hp, hm, hpm⟩ := x.lt wf
 obtain ⟨es, bs, tk, L, a1, a2, a3, a4, a5⟩ := x.held
 simp
 refine zfw x _ ?_
 by_cases h0 : D = []
 ·subst h0
  simp
  exact q h (But.refl _ _ _) wf x
 ·have h1 : 0 < D.length := List.length_pos_iff.2 h0
  simp [h1, x.cell, a1, zbw]
  refine q _ ⟨by simp, fun k _ k1 k2 => by rw [H.get_set, if_neg k2]⟩ (wf.set hm _) ⟨by rw [H.get_set, if_neg hpm]; exact x.row, [], [], tk, [], by simp, MapB.nil _, ⟨List.Perm.refl _, List.Pairwise.nil⟩, rfl, by simp⟩
theorem zhZ {h : H} {R : Nat -> Prop} {v : V} {L : List Chg} {es : List (List V)} (l : LfP h R v L es) (hk : zaB L) (hl : L.length ≤ 1000000) {Q : V -> H -> Prop}
  (q : ∀ D es' h', Srt L D -> h'.next = h.next -> h'.WF -> (∀ j, ¬ R j -> h'.get j = h.get j) -> (∀ j s cs, s ≠ 23 -> h.get j = some (.grow s cs) -> h'.get j = some (.grow s cs)) -> LfP h' R v D es' -> Q v h') : Acalls Tryz.prog 49 [v] h Q := by
 refine zay Tryz.func49 S.a17c S.a17e (Nat.le_of_ble_eq_true rfl) fun wf => ?_; simp only [S.a17]
 simp
 by_cases h0 : L = []
 ·subst h0
  refine zrd (fun g => l.len g) _ ?_
  simp
  exact q [] es h ⟨List.Perm.refl _, List.Pairwise.nil⟩ rfl wf (fun _ _ => rfl) (fun _ _ _ _ e => e) l
 ·have hle := l.at'.1
  have hes : es ≠ [] := fun e => by rw [e] at hle; exact h0 (List.eq_nil_of_length_eq_zero hle.symm)
  have lfc := l.fc
  rcases lfc with ⟨e, _⟩ | ⟨hne, j, r, b, rfl, d⟩
  ·exact absurd e hes
  ·obtain ⟨z, hz⟩ : ∃ z, z = L.zip es := ⟨_, rfl⟩
   have zl : z.length = L.length := by rw [hz, List.length_zip, hle]; simp
   have z1 : z.map Prod.fst = L := by rw [hz]; exact List.map_fst_zip (by omega)
   have z2 : z.map Prod.snd = es := by rw [hz]; exact List.map_snd_zip (by omega)
   have zat : ∀ y ∈ z, ChP h R y.1 y.2 := fun y hy => by
    obtain ⟨k, hk, rfl⟩ := List.mem_iff_getElem.1 hy
    have b1 : (z.map Prod.fst)[k]? = some z[k].1 := by rw [List.getElem?_map, List.getElem?_eq_getElem hk]; rfl
    have b2 : (z.map Prod.snd)[k]? = some z[k].2 := by rw [List.getElem?_map, List.getElem?_eq_getElem hk]; rfl
    rw [z1] at b1
    rw [z2] at b2
    obtain ⟨e, e1, e2⟩ := l.at'.2 k _ b1
    rw [b2, Option.some.injEq] at e1
    rw [e1]; exact e2
   have fl : es.flatten.length = L.length * 23 := by rw [zas l.ls.lens, hle]
   have heL : ∀ y ∈ z, ∃ vp vc vx vl vk, y.2 = chC y.1 vp vc vx vl vk ∧ vp.one = true ∧ vc.one = true ∧ vx.one = true ∧ vl.one = true ∧ vk.one = true := fun y hy => by
    obtain ⟨vp, vc, vx, vl, vk, e, A⟩ := zat y hy
    obtain ⟨o1, o2, o3, o4, o5⟩ := A.one
    exact ⟨vp, vc, vx, vl, vk, e, o1, o2, o3, o4, o5⟩
   have hneL : z ≠ [] := fun e => by rw [e] at zl; simp at zl; exact h0 (List.eq_nil_of_length_eq_zero zl.symm)
   have hcm : ∀ (a b : Chg) (h' : H), Pure Tryz.prog 94 [.agg (chC a .any .any .any .any .any), .agg (chC b .any .any .any .any .any)] h' (.int .i64 (cmpC a b)) := fun a b h' => zkK rfl rfl rfl rfl rfl rfl rfl rfl rfl rfl
   have zl6 : z.length ≤ 1000000 := by omega
   have hcall : ∀ Q : V -> H -> Prop, (∀ l' : List (Chg × List V), l'.Perm z -> l'.Pairwise (fun x y => ¬ cmpC y.1 x.1 < 0) -> Q (.tup []) (h.set j (.grow 23 (l'.map Prod.snd).flatten))) -> Acalls Tryz.prog 78 [.sl j (z.length * 23) 0 z.length none, .func (.func 94) [] []] h Q := fun Q hQ =>
    zkE d (.inr (by rw [z2])) heL zl6 hneL (by kernel_rfl) hcm hQ
   rw [zl] at hcall
   rw [fl, hle]
   refine hcall _ fun l' hp hs => ?_
   simp
   have k1 : zaB (l'.map Prod.fst) := by
    unfold zaB at hk ⊢
    rw [<- z1] at hk
    exact ((hp.map Prod.fst).map zae).nodup_iff.2 hk
   have srt : Srt L (l'.map Prod.fst) := ⟨by rw [<- z1]; exact (hp.map Prod.fst).symm, zgG k1 (by rw [List.pairwise_map]; exact hs)⟩
   have ll' : l'.length = L.length := by rw [hp.length_eq, zl]
   have h23 : ∀ e ∈ l'.map Prod.snd, e.length = 23 := fun e he => by
    obtain ⟨y, hy, rfl⟩ := List.mem_map.1 he
    exact (zat y (hp.mem_iff.1 hy)).at.len
   have hfl' := zas h23
   rw [List.length_map, ll'] at hfl'
   have kk : ∀ i, i ≠ j -> (h.set j (.grow 23 (l'.map Prod.snd).flatten)).get i = h.get i := fun i hi => by rw [H.get_set, if_neg hi]
   have ks : ∀ i s cs, s ≠ 23 -> h.get i = some (.grow s cs) -> (h.set j (.grow 23 (l'.map Prod.snd).flatten)).get i = some (.grow s cs) := fun i s cs hs e => by
    rw [kk i (fun e2 => by subst e2; rw [d] at e; cases e; exact hs rfl)]; exact e
   rw [fl, hle] at q
   refine q (l'.map Prod.fst) (l'.map Prod.snd) _ srt (by simp) (wf.set b _) (fun i hi => kk i (fun e => hi (e ▸ r))) ks ⟨.inr ⟨fun e => ?_, j, r, by simpa using b, by rw [hfl', List.length_map, ll'], by simp⟩, by simp, fun i c hi => ?_⟩
   ·have h9 := congrArg List.length e
    rw [List.length_map, ll'] at h9
    exact h0 (List.eq_nil_of_length_eq_zero h9)
   ·rw [List.getElem?_map] at hi
    cases hlk : l'[i]? with
    | none => rw [hlk] at hi; cases hi
    | some y =>
     rw [hlk] at hi
     cases hi
     exact ⟨y.2, by rw [List.getElem?_map, hlk]; rfl, (zat y (hp.mem_iff.1 (List.mem_of_getElem? hlk))).keep3 (by simp) fun i s cs h3 _ _ e => ks i s cs (by omega) e⟩
end Go.Am

namespace Go.Am
open Go.Proofs

set_option maxRecDepth 100000
theorem zc0 {P : Program} {f : FuncId} {args : List V} {h : H} {Q : V -> H -> Prop} (F : H -> Prop) (hF : F h) (k : ∀ h', F h' -> Acalls P f args h' Q) : Acalls P f args h Q := k h hF
theorem zdG (g : H) (a b a' b' : O) {k k' : Nat} (hk : k = g.next) (hk' : k' = g.next + 1) : (((g.push a).push b).set k a').set k' b' = (g.push a').push b' := by
 subst hk hk'
 refine H.ext' (by simp) fun x => ?_
 simp only [H.get_set, H.get_push, H.next_push]
 by_cases h1 : x = g.next + 1
 ·simp [h1]
 ·by_cases h2 : x = g.next <;> simp [h1, h2]
def famB (fam : Int) (c : Chg) : Bool := decide (fam = 0) || decide (c.n.p.fam = fam)
def metL (L : List Chg) (dn : List Nat) : List Chg := dn.map fun i => L.getD i chg0
theorem zdK {L : List Chg} {dn : List Nat} {i : Nat} {c : Chg} (h : L[i]? = some c) : metL L (dn ++ [i]) = metL L dn ++ [c] := by
 simp [metL, List.getD, h]
theorem zdS {L : List Chg} {dn : List Nat} (h : dn.Perm (List.range L.length)) : (metL L dn).Perm L := zjT h rfl chg0
theorem zeC {L M : List Chg} (h : L.Sublist M) (k : zaB M) : zaB L := k.sublist (h.map zae)
theorem zdP {L M : List Chg} (h : L.Perm M) (k : zaB M) : zaB L := by
 unfold zaB at k ⊢
 exact (h.map zae).nodup_iff.2 k
theorem zba {D : List Chg} (f : Chg -> Bool) (r : Rise cmpC D) : Rise cmpC (D.filter f) := r.sublist List.filter_sublist
theorem ziW {h : H} {R : Nat -> Prop} {p m : Nat} {D : List Chg} {fam : Int} (x : OutAt h R p m D) (hb : D.length ≤ 100000) {Q : V -> H -> Prop} (q : ∀ w es h', Ge h h' -> h'.WF -> LfP h' (fun j => h.next ≤ j) w (D.filter (famB fam)) es -> Q w h') : Acalls Tryz.prog 15 [.ptr p 1 0, .int .i64 fam] h Q := by
 refine zay Tryz.func15 S.a3c S.a3e (Nat.le_of_ble_eq_true rfl) fun wf => ?_; simp only [S.a3]
 obtain ⟨hp, hm, hpm⟩ := x.lt wf
 obtain ⟨es, bs, tk, L, a1, mb, srt, hl, hent⟩ := x.held
 have LD : L.length = D.length := srt.perm.length_eq
 simp
 refine zf5 x _ ?_
 simp [x.cell]
 refine ⟨m, es, bs, tk, rfl, a1, ?_⟩
 simp
 obtain ⟨it, hit⟩ : ∃ it, it = h.next := ⟨_, rfl⟩
 obtain ⟨h1, hh1⟩ : ∃ h1, h1 = h.push (.miter m tk [] tk) := ⟨_, rfl⟩
 have g1 : Ge h h1 := by rw [hh1]; exact (Ge.refl _).push _
 have w1 : h1.WF := by rw [hh1]; exact wf.push _
 have n1 : h1.next = h.next + 1 := by rw [hh1]; simp
 rw [<- hh1, <- hit]
 refine zaK (fun k t h' => (t 0 = .ptr p 1 0 ∧ t 1 = .int .i64 fam ∧ t 14 = .ptr it 0 0) ∧ h'.WF ∧ (∀ j, j < h.next -> h'.get j = h.get j) ∧ h1.next ≤ h'.next ∧ ∃ w fs dn seen st, t 5 = w ∧ Vis bs seen dn ∧ dn.length = k ∧ h'.get it = some (.miter m tk seen st) ∧ Gl h' h1.next 23 w fs ∧ AtR (ChP h' fun j => h1.next ≤ j) ((metL L dn).filter (famB fam)) fs) bs.length
  ⟨by simp, w1, fun j hj => g1.2 j hj, Nat.le_refl _, .nilsl, [], [], [], tk, by simp, Vis.nil _, rfl, by rw [hh1, hit]; simp, Gl.nil _ _ _, AtR.nil _⟩ ?_
 rintro k t h' hk ⟨⟨t0, t1, t14⟩, wb, kb, nb, w, fs, dn, seen, st, t5, vis, hdn, hi, gl, ar⟩ K hK
 have hm' : h'.get m = some (.mapo es bs tk) := (kb m hm).trans a1
 have gh' : Ge h h' := ⟨by omega, kb⟩
 have ow := gl.one
 simp [t14]
 refine ⟨it, m, tk, seen, st, es, bs, rfl, hi, hm', fun i e b' he hb' hbs => ?_, fun hall => ?_⟩
 ·simp [t14]
  obtain ⟨h2, hh2⟩ : ∃ h2, h2 = h'.set it (.miter m tk (seen ++ [b']) tk) := ⟨_, rfl⟩
  have n2 : h2.next = h'.next := by rw [hh2]; simp
  have w2 : h2.WF := by rw [hh2]; exact wb.set (by omega) _
  have k2 : ∀ j, j ≠ it -> h2.get j = h'.get j := fun j hj => by rw [hh2, H.get_set, if_neg hj]
  have i2 : h2.get it = some (.miter m tk (seen ++ [b']) tk) := by rw [hh2]; simp
  refine ⟨it, m, tk, tk, seen, b', es, bs, i, e, rfl, by simp, by simp [show ¬ m = it by omega, hm'], he, hb', ?_⟩
  have v2 := vis.snoc hb' hbs
  have hlen : dn.length < bs.length := by have := v2.le; simp at this; omega
  have hil : i < L.length := by rw [<- hl]; exact (List.getElem?_eq_some_iff.1 he).1
  obtain ⟨c, hc⟩ : ∃ c, c = L[i] := ⟨_, rfl⟩
  have hci : L[i]? = some c := by rw [hc]; exact List.getElem?_eq_getElem hil
  obtain ⟨e', he', vp, vc, vx, vl, vk, hee, A⟩ := hent i c hci
  rw [he, Option.some.injEq] at he'
  subst hee
  obtain ⟨o1, o2, o3, o4, o5⟩ := A.one
  have zc := A.sz
  have gl2 : Gl h2 h1.next 23 w fs := gl.keep (by omega) fun j hj => k2 j (by have := gl.lo j hj; omega)
  have fl : fs.length ≤ D.length := by
   rw [ar.1]
   refine Nat.le_trans (List.length_filter_le _ _) ?_
   simp only [metL, List.length_map]
   have := vis.le
   rw [mb.len, hl] at this
   omega
  have met := zdK (dn := dn) hci
  have ar2 : AtR (ChP h2 fun j => h1.next ≤ j) ((metL L dn).filter (famB fam)) fs := ar.mono fun c e f => f.keep (by omega) fun j s cs _ _ e => by rw [k2 j (fun e2 => by subst e2; rw [hi] at e; cases e)]; exact e
  have b2 : ∀ j, j < h.next -> h2.get j = h.get j := fun j hj => by rw [k2 j (by omega)]; exact kb j hj
  rw [<- hh2, he']
  have ap2 : ∀ G : H, (∀ j, j < h.next -> G.get j = h.get j) -> h.next ≤ G.next -> AttAt G.get c.att vp vc vx vl vk := fun G hG hn => A.at.ge wf ⟨hn, hG⟩
  simp only [chC, kyV]
  simp [zae, o1, o2, o3, o4, o5]
  rw [zdG _ _ _ _ _ rfl rfl]
  obtain ⟨h3, hh3⟩ : ∃ h3, h3 = (h2.push (.row [.int .i64 c.n.p.fam, .int .u64 (c.n.p.rd : Nat), .str c.n.p.addr, .int .i64 c.n.p.len, .int .u32 (c.n.id : Nat)])).push (.row (chC c vp vc vx vl vk)) := ⟨_, rfl⟩
  have g3 : Ge h2 h3 := by rw [hh3]; exact ((Ge.refl _).push _).push _
  have w3 : h3.WF := by rw [hh3]; exact (w2.push _).push _
  have n3 : h3.next = h2.next + 2 := by rw [hh3]; simp
  have c6 : zab h3.get h2.next 5 = some [.int .i64 c.n.p.fam, .int .u64 (c.n.p.rd : Nat), .str c.n.p.addr, .int .i64 c.n.p.len, .int .u32 (c.n.id : Nat)] := by rw [hh3]; simp
  have c7 : zab h3.get (h2.next + 1) 23 = some (chC c vp vc vx vl vk) := by rw [hh3]; simp [chC]
  have i3 : h3.get it = some (.miter m tk (seen ++ [b']) tk) := (g3.2 it (by omega)).trans i2
  have gl3 : Gl h3 h1.next 23 w fs := gl2.keep (by omega) fun j hj => g3.2 j (gl2.lo j hj).2
  have ar3 : AtR (ChP h3 fun j => h1.next ≤ j) ((metL L dn).filter (famB fam)) fs := ar2.mono fun _ _ f => f.ge g3
  have b3 : ∀ j, j < h.next -> h3.get j = h.get j := fun j hj => by rw [g3.2 j (by omega)]; exact b2 j hj
  have A3 := ap2 h3 b3 (by omega)
  have ow3 := fun Q q => zfL (Q := Q) A3 zc q
  simp only [chC] at hh3 c7 ow3
  rw [<- hh3]
  obtain ⟨bb, hbb⟩ : ∃ bb, bb = famB fam c := ⟨_, rfl⟩
  have fin0 : bb = false -> ∀ tt : Tm, (tt 0 = .ptr p 1 0 ∧ tt 1 = .int .i64 fam ∧ tt 14 = .ptr it 0 0) -> tt 5 = w -> K tt h3 := fun e tt r5 e5 =>
   hK _ _ (by omega) ⟨r5, w3, b3, by omega, w, fs, dn ++ [i], seen ++ [b'], tk, e5, v2, by simp [hdn], i3, gl3, by rw [met, List.filter_append]; simp [<- hbb, e]; exact ar3⟩
  have fin1 : bb = true -> ∀ (wp wc wx wl wk : V) (h4 : H), Ge h3 h4 -> h4.WF -> AttFr h4 h3.next c.att wp wc wx wl wk -> ∃ v' d, zax (h4.push (.row (chC c wp wc wx wl wk))).get (h4.next + 1) 23 240 w (.sl h4.next 23 0 1 (some 1)) = some (v', d) ∧
    ∀ tt : Tm, (tt 0 = .ptr p 1 0 ∧ tt 1 = .int .i64 fam ∧ tt 14 = .ptr it 0 0) -> tt 5 = v' -> K tt ((h4.push (.row (chC c wp wc wx wl wk))).app d) := fun e wp wc wx wl wk h4 g4 w4 F4 => by
   obtain ⟨f1, f2, f3, f4, f5⟩ := F4.one
   have gl4 : Gl h4 h1.next 23 w fs := gl3.keep g4.1 fun j hj => g4.2 j (gl3.lo j hj).2
   have f23 : ∀ e ∈ fs, e.length = 23 := fun e he => by obtain ⟨_, _, f⟩ := ar.mem e he; exact f.at.len
   have n4 := g4.1
   obtain ⟨v', d, ea, gl5, n5, k5, w5, _⟩ := zfN (bytes := 240) (chC c wp wc wx wl wk) gl4 (by omega) f23 rfl (by simp [chC, f1, f2, f3, f4, f5]) (by decide) (by omega) (by omega)
   refine ⟨v', d, ea, fun tt r5 e5 => ?_⟩
   have keep5 : ∀ j s cs, s ≠ 23 -> j < h4.next -> h4.get j = some (.grow s cs) -> ((h4.push (.row (chC c wp wc wx wl wk))).app d).get j = some (.grow s cs) := fun j s cs hs hj e => by
    by_cases hv : j ∈ w.ids
    ·rcases gl4 with ⟨_, rfl⟩ | ⟨_, j2, _, _, rfl, a3⟩
     ·simp [V.ids] at hv
     ·simp [V.ids] at hv
      subst hv
      rw [a3] at e
      cases e
      exact absurd rfl hs
    ·rw [k5 j hv hj]; exact e
   have out5 : ∀ j, j < h4.next -> (j < h1.next) -> ((h4.push (.row (chC c wp wc wx wl wk))).app d).get j = h4.get j := fun j hj hlt => k5 j (fun hv => by have := (gl4.lo j hv).1; omega) hj
   refine hK _ _ (by omega) ⟨r5, w5 w4, fun j hj => ?_, by omega, v', fs ++ [chC c wp wc wx wl wk], dn ++ [i], seen ++ [b'], tk, e5, v2, by simp [hdn], ?_, gl5, ?_⟩
   ·rw [out5 j (by omega) (by omega), g4.2 j (by omega)]; exact b3 j hj
   ·rw [out5 it (by omega) (by omega), g4.2 it (by omega)]; exact i3
   ·rw [met, List.filter_append]
    have e1 : [c].filter (famB fam) = [c] := by simp [<- hbb, e]
    rw [e1]
    refine AtR.append ?_ (AtR.single ⟨wp, wc, wx, wl, wk, rfl, ?_⟩)
    ·exact ar3.mono fun _ _ f => (f.ge g4).keep3 (by omega) fun j s cs hs _ hj e => keep5 j s cs (by omega) hj e
    ·exact (F4.p.keep3 (by omega) fun j s cs hs _ hj e => keep5 j s cs (by omega) hj e).mono fun j _ hj => by omega
  by_cases hf0 : fam = 0
  ·have hb1 : bb = true := by rw [hbb, famB, hf0]; rfl
   have fb : (fam == 0) = true := by simp [hf0]
   simp [t1, t5, fb, c7]
   refine ow3 _ fun wp wc wx wl wk h4 g4 w4 F4 => ?_
   obtain ⟨f1, f2, f3, f4, f5⟩ := F4.one
   obtain ⟨v', d, ea, fin⟩ := fin1 hb1 wp wc wx wl wk h4 g4 w4 F4
   simp only [chC] at ea fin
   simp [f1, f2, f3, f4, f5, ea]
   refine fin _ ?_ ?_
   ·simp [t0, t1, t14]
   ·simp
  ·have fb : (fam == 0) = false := by simpa using hf0
   by_cases hf1 : c.n.p.fam = fam
   ·have hb1 : bb = true := by rw [hbb, famB, hf1]; simp
    have fb2 : (c.n.p.fam == fam) = true := by simp [hf1]
    simp [t1, t5, fb, c6, c7, fb2]
    refine ow3 _ fun wp wc wx wl wk h4 g4 w4 F4 => ?_
    obtain ⟨f1, f2, f3, f4, f5⟩ := F4.one
    obtain ⟨v', d, ea, fin⟩ := fin1 hb1 wp wc wx wl wk h4 g4 w4 F4
    simp only [chC] at ea fin
    simp [f1, f2, f3, f4, f5, ea]
    refine fin _ ?_ ?_
    ·simp [t0, t1, t14]
    ·simp
   ·have hb1 : bb = false := by rw [hbb, famB]; simp [hf0, hf1]
    have fb2 : (c.n.p.fam == fam) = false := by simpa using hf1
    simp [t1, fb, c6, fb2]
    refine fin0 hb1 _ ?_ ?_
    ·simp [t0, t1, t14]
    ·simp [t5]
 ·simp [t5]
  have full := vis.full mb.nd hall
  rw [mb.len, hl] at full
  have mp := zdS full
  have kL := srt.keys
  have kF : zaB ((metL L dn).filter (famB fam)) := zeC List.filter_sublist (zdP mp kL)
  have lf : LfP h' (fun j => h1.next ≤ j) w ((metL L dn).filter (famB fam)) fs := ⟨gl.fr.p.mono fun j _ hj => hj.1, ar⟩
  have ml : ((metL L dn).filter (famB fam)).length ≤ D.length := by
   refine Nat.le_trans (List.length_filter_le _ _) ?_
   rw [mp.length_eq, LD]; exact Nat.le_refl _
  refine zhZ lf kF (by omega) fun D' es' h5 s5 n5 w5 o5 _ l5 => ?_
  simp
  have hD : D' = D.filter (famB fam) := by
   refine Srt.uniq s5 ⟨?_, zba _ srt.rise⟩
   exact (mp.filter _).trans (srt.perm.filter _)
  rw [hD] at l5
  refine q _ _ h5 ⟨by omega, fun j hj => ?_⟩ w5 (l5.mono fun j _ hj => by omega)
  rw [o5 j (by omega)]; exact kb j hj
end Go.Am

namespace Go.Am
open Go.Proofs

set_option maxRecDepth 100000
theorem zjV {h : H} {c : Chg} {vp vc vx vl vk : V} (o1 : vp.one = true) (o2 : vc.one = true) (o3 : vx.one = true) (o4 : vl.one = true) (o5 : vk.one = true) : Pure Tryz.prog 45 [.agg (chC c vp vc vx vl vk)] h (kyV (zae c)) := by
 refine zah Tryz.func45 S.a13c S.a13e rfl (Nat.le_of_ble_eq_true rfl) fun wf => ?_; simp only [S.a13]
 have n01 : ¬ h.next = h.next + 1 := by omega
 simp [chC, o1, o2, o3, o4, o5, kyV, zae]
 repeat' (first | exact Ge.refl _ | refine Ge.push ?_ _ | refine Ge.set ?_ (by omega) _)
theorem zhW {k : V} : ∀ (es : List (V × V)) (i0 : Nat) {j : Nat} {e : V}, zbT kyD k es i0 = some (some (j, e)) -> i0 ≤ j ∧ ∃ x, es[j - i0]? = some (x, e)
 | [], _, _, _, h => by simp [zbT] at h
 | (x, y) :: es, i0, j, e, h => by
  by_cases hx : zbD kyD x = true
  ·rw [kyD, zdW hx] at h
   split at h
   ·simp only [Option.some.injEq, Prod.mk.injEq] at h
    obtain ⟨rfl, rfl⟩ := h
    exact ⟨Nat.le_refl _, x, by simp⟩
   ·obtain ⟨a, z, b⟩ := zhW es (i0 + 1) h
    refine ⟨by omega, z, ?_⟩
    obtain ⟨d, hd⟩ : ∃ d, j - i0 = d + 1 := ⟨j - i0 - 1, by omega⟩
    rw [hd, List.getElem?_cons_succ, show d = j - (i0 + 1) by omega]; exact b
   ·cases h
  ·exfalso
   have : zbT kyD k ((x, y) :: es) i0 = none := by
    show (if zbD kyD x = true then _ else none) = none
    rw [if_neg hx]
   rw [this] at h; cases h
theorem HeldAt.find {h : H} {R : Nat -> Prop} {m : Nat} {D : List Chg} (x : HeldAt h R m D) (k : Ky) (zero : V) :
  (∃ c e, c ∈ D ∧ zae c = k ∧ ChP h R c e ∧ zcn h.get kyD zero true (.map m) (kyV k) = some (.tup [.agg e, .bool true])) ∨ ((∀ c ∈ D, zae c ≠ k) ∧ zcn h.get kyD zero true (.map m) (kyV k) = some (.tup [zero, .bool false])) := by
 obtain ⟨es, bs, tk, L, hm, mb, srt, hl, he⟩ := x
 have ent : zct h.get (.map m) = some es := by simp [zct, hm]
 rcases zev es L 0 hl (fun i c' hi => by obtain ⟨e', a, _⟩ := he i c' hi; exact ⟨_, a⟩) k with ⟨j, hj, e', a1, a2, a3⟩ | ⟨a1, a2⟩
 ·refine .inl ?_
  obtain ⟨e, b1, b2⟩ := he j _ (List.getElem?_eq_getElem hj)
  have fe : e' = .agg e := by
   obtain ⟨_, z, b⟩ := zhW es 0 a3
   simp only [Nat.zero_add, Nat.sub_zero] at b
   rw [b1] at b
   simp only [Option.some.injEq, Prod.mk.injEq] at b
   exact b.2.symm
  refine ⟨L[j], e, srt.perm.mem_iff.1 (List.getElem_mem hj), a1, b2, ?_⟩
  unfold zcn
  rw [if_pos (ziA _), ent]
  simp only [a3, fe, if_true]
 ·refine .inr ⟨fun c hc => a1 c (srt.perm.mem_iff.2 hc), ?_⟩
  unfold zcn
  rw [if_pos (ziA _), ent]
  simp only [a2, if_true]
theorem zj2 {L D : List Chg} (s : Srt L D) {j : Nat} (hj : j < L.length) : Srt (L.eraseIdx j) (D.filter fun d => !decide (zae d = zae L[j])) := by
 have kL := s.keys
 have h1 : L.eraseIdx j = L.filter fun d => !decide (zae d = zae L[j]) := by
  have hsp : L = L.take j ++ L[j] :: L.drop (j + 1) := by rw [<- List.drop_eq_getElem_cons hj, List.take_append_drop]
  have kk : (L.map zae).Nodup := kL
  rw [List.nodup_iff_pairwise_ne, List.pairwise_map, List.pairwise_iff_getElem] at kk
  have ha : ∀ x ∈ L.take j, zae x ≠ zae L[j] := fun x hx => by
   obtain ⟨i, hi, rfl⟩ := List.mem_iff_getElem.1 hx
   rw [List.length_take] at hi
   rw [List.getElem_take]
   exact kk i j (by omega) hj (by omega)
  have hb : ∀ x ∈ L.drop (j + 1), zae x ≠ zae L[j] := fun x hx => by
   obtain ⟨i, hi, rfl⟩ := List.mem_iff_getElem.1 hx
   rw [List.length_drop] at hi
   rw [List.getElem_drop]
   exact fun e => kk j (j + 1 + i) hj (by omega) (by omega) e.symm
  rw [List.eraseIdx_eq_take_drop_succ]
  obtain ⟨k, hk⟩ : ∃ k, k = zae L[j] := ⟨_, rfl⟩
  rw [<- hk] at ha hb ⊢
  conv => rhs; rw [hsp]
  rw [List.filter_append, List.filter_cons, if_neg (by simp [hk]), List.filter_eq_self.2 fun x hx => by simpa using ha x hx, List.filter_eq_self.2 fun x hx => by simpa using hb x hx]
 rw [h1]
 exact ⟨s.perm.filter _, zba _ s.rise⟩
theorem HeldAt.del {h : H} {R : Nat -> Prop} {m : Nat} {D : List Chg} (x : HeldAt h R m D) (k : Ky) :
  ∃ o, zb7 h.get kyD (.map m) (kyV k) = some (.set m o) ∧ HeldAt (h.set m o) R m (D.filter fun d => !decide (zae d = k)) := by
 obtain ⟨es, bs, tk, L, hm, mb, srt, hl, he⟩ := x
 have keepS : ∀ {o : O} {c : Chg} {e : List V}, ChP h R c e -> ChP (h.set m o) R c e := fun f => f.keep (by simp) fun j s' cs' _ _ hj => by rw [H.get_set, if_neg (fun e => by subst e; rw [hm] at hj; cases hj)]; exact hj
 rcases zev es L 0 hl (fun i c' hi => by obtain ⟨e', a, _⟩ := he i c' hi; exact ⟨_, a⟩) k with ⟨j, hj, e', a1, a2, a3⟩ | ⟨a1, a2⟩
 ·refine ⟨.mapo (es.eraseIdx j) (bs.eraseIdx j) tk, ?_, es.eraseIdx j, bs.eraseIdx j, tk, L.eraseIdx j, by simp, mb.erase, ?_, by rw [List.length_eraseIdx, List.length_eraseIdx, hl], fun i c hi => ?_⟩
  ·unfold zb7
   rw [if_pos (ziA _)]
   simp only [hm, a3, Nat.zero_add]
  ·rw [<- a1]; exact zj2 srt hj
  ·rw [List.getElem?_eraseIdx] at hi ⊢
   split at hi
   ·rename_i h1
    rw [if_pos h1]
    obtain ⟨e, b1, b2⟩ := he i c hi
    exact ⟨e, b1, keepS b2⟩
   ·rename_i h1
    rw [if_neg h1]
    obtain ⟨e, b1, b2⟩ := he _ c hi
    exact ⟨e, b1, keepS b2⟩
 ·refine ⟨.mapo es bs tk, ?_, es, bs, tk, L, by simp, mb, ?_, hl, fun i c hi => ?_⟩
  ·unfold zb7
   rw [if_pos (ziA _)]
   simp only [hm, a2]
  ·have : D.filter (fun d => !decide (zae d = k)) = D := List.filter_eq_self.2 fun d hd => by simpa using a1 d (srt.perm.mem_iff.2 hd)
   rw [this]; exact srt
  ·obtain ⟨e, b1, b2⟩ := he i c hi
   exact ⟨e, b1, keepS b2⟩
def okW (p : Pfx) (c : Chg) : Bool := !c.gone && decide (c.n.p = p) && mayN c.n && attB c.att
instance (L : List Chg) : Decidable (zaB L) := inferInstanceAs (Decidable (L.map zae).Nodup)
def zbP (p : Pfx) (L : List Chg) : Bool := L.all (okW p) && decide (zaB L)
def inP (p : Pfx) (c : Chg) : Bool := decide (c.n.p = p)
def za2 (c : Chg) : Chg := ⟨true, ⟨c.n.p, c.n.id, 0⟩, att0⟩
def zcj (p : Pfx) (L : List Chg) (c : Chg) : Bool := inP p c && !L.any fun d => decide (zae d = zae c)
def newB (D : List Chg) (c : Chg) : Bool := !decide (c ∈ D)
def zkd (p : Pfx) (D L : List Chg) : List Chg := L.foldl putC (D.filter fun c => !inP p c)
def zmH (p : Pfx) (D L : List Chg) : List Chg := ((D.filter (zcj p L)).map za2 ++ L.filter (newB D)).foldl putC []
def zdv (p : Pfx) (D L : List Chg) : Bool := decide (4096 < (D.filter fun c => !inP p c).length + L.length)
end Go.Am

namespace Go.Am
open Go.Proofs

set_option maxRecDepth 100000
theorem zj4 {body : (Exit -> Tm -> H -> Prop) -> Tm -> H -> Prop} {Q : Exit -> Tm -> H -> Prop} {t : Tm} {h : H} {id : Nat} (J : Tm -> H -> Prop) (ha : ∀ R : Exit -> Tm -> H -> Prop, (∀ t' h', J t' h' -> R .normal t' h') -> (∀ t' h', Q .ret t' h' -> R .ret t' h') -> zeT body (zcA id R) t h) (k : ∀ t' h', J t' h' -> Q .normal t' h') : zeT body (zcA id Q) t h := ha Q k fun _ _ h => h
theorem zgP {L : List Chg} {i : Nat} (hi : i < L.length) (kt : zaB (L.take i)) : zaB (L.take (i + 1)) ↔ ∀ d ∈ L.take i, zae d ≠ zae L[i] := by
 have e : L.take (i + 1) = L.take i ++ [L[i]] := by rw [List.take_add_one, List.getElem?_eq_getElem hi]; rfl
 unfold zaB at kt ⊢
 rw [e, List.map_append, List.nodup_append]
 constructor
 ·rintro ⟨_, _, h3⟩ d hd
  exact h3 _ (List.mem_map_of_mem hd) _ (by simp)
 ·intro h
  refine ⟨kt, by simp, fun a ha b hb => ?_⟩
  obtain ⟨d, hd, rfl⟩ := List.mem_map.1 ha
  simp only [List.map_cons, List.map_nil, List.mem_singleton] at hb
  subst hb
  exact h d hd
theorem zlz {D : List Chg} (k : zaB D) {c d : Chg} (hc : c ∈ D) (hd : d ∈ D) (e : zae c = zae d) : c = d := by
 obtain ⟨i, hi, rfl⟩ := List.mem_iff_getElem.1 hc
 obtain ⟨j, hj, rfl⟩ := List.mem_iff_getElem.1 hd
 have e2 : (D.map zae)[i]'(by simpa using hi) = (D.map zae)[j]'(by simpa using hj) := by simpa using e
 have := (List.getElem_inj (h₀ := by simpa using hi) (h₁ := by simpa using hj) k).1 e2
 subst this; rfl
theorem zdN : ∀ (l S : List Chg), Rise cmpC S -> zaB l -> (∀ c ∈ l, ∀ d ∈ S, zae d ≠ zae c) -> ∀ x, x ∈ l.foldl putC S ↔ x ∈ S ∨ x ∈ l
 | [], S, _, _, _, x => by simp
 | c :: l, S, r, k, hd, x => by
  have k' : zae c ∉ l.map zae ∧ (l.map zae).Nodup := by simpa [zaB] using k
  rw [List.foldl_cons, zdN l (putC S c) (zbJ r) k'.2 (fun d hdl e he => ?_), zco r, List.mem_cons]
  ·constructor
   ·rintro ((rfl | ⟨h, _⟩) | h)
    ·exact .inr (.inl rfl)
    ·exact .inl h
    ·exact .inr (.inr h)
   ·rintro (h | rfl | h)
    ·exact .inl (.inr ⟨h, hd c (by simp) x h⟩)
    ·exact .inl (.inl rfl)
    ·exact .inr h
  ·rcases (zco r).1 he with rfl | ⟨h, _⟩
   ·exact fun e2 => k'.1 (by rw [e2]; exact List.mem_map_of_mem hdl)
   ·exact hd d (by simp [hdl]) e h
theorem zdC {l : List Chg} (k : zaB l) (x : Chg) : x ∈ l.foldl putC [] ↔ x ∈ l := by
 rw [zdN l [] List.Pairwise.nil k (by simp)]; simp
theorem zfz {l : List Chg} (k : zaB l) : Srt l (l.foldl putC []) := by
 have r := zcg l [] List.Pairwise.nil
 exact ⟨zeh k (zcS r) fun x => (zdC k x).symm, r⟩
theorem zb9 : ∀ (l S : List Chg), Rise cmpC S -> zaB l -> ∀ x, x ∈ l.foldl putC S ↔ x ∈ l ∨ (x ∈ S ∧ ∀ c ∈ l, zae x ≠ zae c)
 | [], S, _, _, x => by simp
 | c :: l, S, r, k, x => by
  have k' : zae c ∉ l.map zae ∧ (l.map zae).Nodup := by simpa [zaB] using k
  rw [List.foldl_cons, zb9 l (putC S c) (zbJ r) k'.2, zco r, List.mem_cons]
  constructor
  ·rintro (h | ⟨rfl | ⟨h1, h2⟩, h3⟩)
   ·exact .inl (.inr h)
   ·exact .inl (.inl rfl)
   ·exact .inr ⟨h1, fun d hd => (List.mem_cons.1 hd).elim (fun e => e ▸ h2) (h3 d)⟩
  ·rintro ((rfl | h) | ⟨h1, h2⟩)
   ·exact .inr ⟨.inl rfl, fun d hd e => k'.1 (by rw [e]; exact List.mem_map_of_mem hd)⟩
   ·exact .inl h
   ·exact .inr ⟨.inr ⟨h1, h2 c (by simp)⟩, fun d hd => h2 d (by simp [hd])⟩
theorem zi4 (c : Chg) : zae (za2 c) = zae c := rfl
theorem zjM {p : Pfx} {D L M N M8 : List Chg} (rD : Rise cmpC D) (hD : ∀ d ∈ D, d.gone = false) (kL : zaB L) (okL : ∀ c ∈ L, okW p c = true) (mM : M.Perm (D.filter (zcj p L))) (mN : N.Perm (L.filter (newB D))) (m8 : M8.Perm L) :
  M8.foldl putC (D.filter fun d => !(M.map za2 ++ N).any fun c => c.gone && decide (zae c = zae d)) = zkd p D L := by
 have k8 : zaB M8 := zdP m8 kL
 have gN : ∀ c ∈ N, c.gone = false := fun c hc => by
  have := okL c (List.mem_filter.1 (mN.mem_iff.1 hc)).1
  simp only [okW, Bool.and_eq_true, Bool.not_eq_true'] at this
  exact this.1.1.1
 have pL : ∀ c ∈ L, c.n.p = p := fun c hc => by
  have := okL c hc
  simp only [okW, Bool.and_eq_true, decide_eq_true_eq] at this
  exact this.1.1.2
 have r1 := zcg M8 _ (zba (fun d => !(M.map za2 ++ N).any fun c => c.gone && decide (zae c = zae d)) rD)
 have r2 := zcg L _ (zba (fun c => !inP p c) rD)
 refine zfT ordr_c r1 r2 fun x => ?_
 rw [zkd, zb9 _ _ (zba _ rD) k8, zb9 _ _ (zba _ rD) kL]
 have e8 : (∀ c ∈ M8, zae x ≠ zae c) ↔ ∀ c ∈ L, zae x ≠ zae c := by
  constructor <;> intro h c hc
  ·exact h c (m8.mem_iff.2 hc)
  ·exact h c (m8.mem_iff.1 hc)
 rw [m8.mem_iff, e8, List.mem_filter, List.mem_filter]
 refine or_congr Iff.rfl ?_
 constructor
 ·rintro ⟨⟨h1, h2⟩, h3⟩
  refine ⟨⟨h1, ?_⟩, h3⟩
  cases hp : inP p x with
  | false => rfl
  | true =>
   exfalso
   have gx : zcj p L x = true := by
    rw [zcj, hp, Bool.true_and, Bool.not_eq_true', List.any_eq_false]
    intro d hd
    simp only [decide_eq_true_eq]
    exact fun e => h3 d hd e.symm
   have : ((M.map za2 ++ N).any fun c => c.gone && decide (zae c = zae x)) = true := List.any_eq_true.2 ⟨za2 x, by simp only [List.mem_append, List.mem_map]; exact .inl ⟨x, mM.mem_iff.2 (List.mem_filter.2 ⟨h1, gx⟩), rfl⟩, by show (true && decide (zae x = zae x)) = true; simp⟩
   rw [this] at h2; cases h2
 ·rintro ⟨⟨h1, h2⟩, h3⟩
  refine ⟨⟨h1, ?_⟩, h3⟩
  have hp : inP p x = false := by simpa using h2
  rw [Bool.not_eq_true', List.any_eq_false]
  intro c hc
  rcases List.mem_append.1 hc with hc | hc
  ·obtain ⟨d, hd, rfl⟩ := List.mem_map.1 hc
   have := (List.mem_filter.1 (mM.mem_iff.1 hd)).2
   simp only [zcj, Bool.and_eq_true, inP, decide_eq_true_eq] at this
   simp only [zi4, Bool.and_eq_true, not_and]
   intro _ e
   have e2 : d.n.p = x.n.p := congrArg Ky.p (show zae d = zae x from of_decide_eq_true e)
   rw [inP, <- e2, this.1] at hp
   simp at hp
  ·simp [gN c hc]
theorem zgn {p : Pfx} {D L M N : List Chg} (rD : Rise cmpC D) (kL : zaB L) (mM : M.Perm (D.filter (zcj p L))) (mN : N.Perm (L.filter (newB D))) : zaB (M.map za2 ++ N) := by
 have kM : zaB M := zdP mM (zeC List.filter_sublist (zcS rD))
 have kN : zaB N := zdP mN (zeC List.filter_sublist kL)
 unfold zaB at kM kN ⊢
 rw [List.map_append, List.map_map, show zae ∘ za2 = zae from rfl, List.nodup_append]
 refine ⟨kM, kN, fun a ha b hb e => ?_⟩
 obtain ⟨c, hc, rfl⟩ := List.mem_map.1 ha
 obtain ⟨d, hd, rfl⟩ := List.mem_map.1 hb
 have h1 := (List.mem_filter.1 (mM.mem_iff.1 hc)).2
 have h2 := (List.mem_filter.1 (mN.mem_iff.1 hd)).1
 simp only [zcj, Bool.and_eq_true, Bool.not_eq_true', List.any_eq_false, decide_eq_true_eq] at h1
 exact h1.2 d h2 e.symm
theorem zkt {p : Pfx} {D L M N S' : List Chg} (rD : Rise cmpC D) (kL : zaB L) (mM : M.Perm (D.filter (zcj p L))) (mN : N.Perm (L.filter (newB D))) (s : Srt (M.map za2 ++ N) S') : S' = zmH p D L := by
 have k := zgn (p := p) rD kL (List.Perm.refl _) (List.Perm.refl _)
 have s2 := zfz k
 exact Srt.uniq s ⟨((mM.map za2).append mN).trans s2.perm, s2.rise⟩
def zq5 (Q : V -> H -> Prop) (h : H) (R : Nat -> Prop) (p m : Nat) (px : Pfx) (D L : List Chg) : Prop :=
 ((mayP px && zbP px L) = false -> ∀ h', Ge h h' -> h'.WF -> Q (.tup [.nilsl, .int .i64 2]) h') ∧
 (mayP px = true -> zbP px L = true -> zdv px D L = true -> ∀ h', Ge h h' -> h'.WF -> Q (.tup [.nilsl, .int .i64 7]) h') ∧
 (mayP px = true -> zbP px L = true -> zdv px D L = false -> ∀ w es h' n1, But h h' p m -> h'.WF -> h.next ≤ n1 -> OutAt h' (fun j => R j ∨ (h.next ≤ j ∧ j < n1)) p m (zkd px D L) -> LfP h' (fun j => n1 ≤ j) w (zmH px D L) es -> Q (.tup [w, .int .i64 0]) h')
theorem znl {h : H} {R : Nat -> Prop} {p m : Nat} {px : Pfx} {D L : List Chg} {v : V} {es : List (List V)} (x : OutAt h R p m D) (hD : ∀ d ∈ D, d.gone = false) (lk : ∀ h', But h h' p m -> CsAt h'.get v L es) (zL : ∀ c ∈ L, AttSz c.att) (hb : D.length ≤ 4096) (hl : L.length ≤ 10000) {Q : V -> H -> Prop} (q : zq5 Q h R p m px D L) : Acalls Tryz.prog 12 [.ptr p 1 0, .agg (pfxC px), v] h Q := by
 obtain ⟨q1, q2, q3⟩ := q
 refine zay Tryz.func12 S.a2c S.a2e (Nat.le_of_ble_eq_true rfl) fun wf => ?_; simp only [S.a2]
 obtain ⟨hp, hm, hpm⟩ := x.lt wf
 obtain ⟨h1, hh1⟩ : ∃ h1, h1 = h.push (.row (pfxC px)) := ⟨_, rfl⟩
 have g1 : Ge h h1 := by rw [hh1]; exact (Ge.refl _).push _
 have w1 : h1.WF := by rw [hh1]; exact wf.push _
 have n1 : h1.next = h.next + 1 := by rw [hh1]; simp
 have x0 : OutAt h (fun j => R j ∧ j < h.next) p m D := x.mono fun j hj hr => ⟨hr, hj⟩
 have x1 := x0.ge wf g1
 have c4 : zab h1.get h.next 4 = some (pfxC px) := by rw [hh1]; simp [pfxC]
 have pc := zgs (h := h1) (p := px)
 simp only [pfxC] at hh1 c4 pc
 simp [pfxC]
 rw [<- hh1]
 refine zf5 x1 _ ?_
 simp [c4]
 refine pc _ ?_
 cases hmp : mayP px with
 | false =>
  simp
  exact q1 (by rw [hmp]; rfl) h1 g1 w1
 | true =>
  simp
  obtain ⟨m8, hm8⟩ : ∃ k, k = h1.next := ⟨_, rfl⟩
  obtain ⟨h2, hh2⟩ : ∃ h2, h2 = h1.push (.mapo [] [] 0) := ⟨_, rfl⟩
  have g2 : Ge h1 h2 := by rw [hh2]; exact (Ge.refl _).push _
  have w2 : h2.WF := by rw [hh2]; exact w1.push _
  have n2 : h2.next = h1.next + 1 := by rw [hh2]; simp
  have gh2 : Ge h h2 := g1.trans g2
  have hd2 : HeldAt h2 (fun j => h.next ≤ j) m8 [] := ⟨[], [], 0, [], by rw [hh2, hm8]; simp, MapB.nil _, ⟨List.Perm.refl _, List.Pairwise.nil⟩, rfl, by simp⟩
  have x4 : h2.get h.next = some (.row (pfxC px)) := by rw [g2.2 _ (by omega), hh1]; simp [pfxC]
  have hlen := (lk h2 (gh2.but p m)).sls.len
  rw [(lk h2 (gh2.but p m)).len] at hlen
  rw [<- hh2, <- hm8]
  simp [hlen]
  -- what is wanted
  refine zj4 (id := 1) (fun t h' => (t 0 = .ptr p 1 0 ∧ t 4 = .ptr h.next 4 0 ∧ t 8 = .map m8) ∧ Ge h h' ∧ h'.WF ∧ h2.next ≤ h'.next ∧ zbP px L = true ∧ h'.get h.next = some (.row (pfxC px)) ∧ HeldAt h' (fun j => h.next ≤ j) m8 (L.foldl putC [])) (fun Rn hR hRet => ?_) ?_
  ·refine zaK (fun i t h' => (t 0 = .ptr p 1 0 ∧ t 4 = .ptr h.next 4 0 ∧ t 8 = .map m8 ∧ t 35 = v ∧ t 36 = .int .i64 (L.length : Nat) ∧ t 37 = .int .i64 (i : Nat)) ∧ Ge h h' ∧ h'.WF ∧ h2.next ≤ h'.next ∧ h'.get h.next = some (.row (pfxC px)) ∧ (L.take i).all (okW px) = true ∧ zaB (L.take i) ∧ HeldAt h' (fun j => h.next ≤ j) m8 ((L.take i).foldl putC [])) L.length
    ⟨by simp, gh2, w2, Nat.le_refl _, x4, by simp, by simp [zaB], hd2⟩ ?_
   rintro i t h' hi ⟨⟨t0, t4, t8, t35, t36, t37⟩, gb, wb, nb, y4, ha, hk, hw8⟩ K hK
   have m8lt : m8 < h'.next := by omega
   by_cases hlt : i < L.length
   ·have hw := za4 hlt (by omega : L.length < 9223372036854775808)
    obtain ⟨pp, qq, o, cs, vp, vc, vx, vl, vk, e1, _, e2, e3, e4, A, _, _⟩ := (lk h' (gb.but p m)).atG wb hlt
    have e2' := e2 h' (Ge.refl _)
    obtain ⟨c, hc⟩ : ∃ c, c = L[i] := ⟨_, rfl⟩
    rw [<- hc] at e4 A
    obtain ⟨o1, o2, o3, o4, o5⟩ := A.one
    obtain ⟨h3, hh3⟩ : ∃ h3, h3 = h'.push (.row (chC c vp vc vx vl vk)) := ⟨_, rfl⟩
    have g3 : Ge h' h3 := by rw [hh3]; exact (Ge.refl _).push _
    have w3 : h3.WF := by rw [hh3]; exact wb.push _
    have n3 : h3.next = h'.next + 1 := by rw [hh3]; simp
    have c3 : zab h3.get h'.next 23 = some (chC c vp vc vx vl vk) := by rw [hh3]; simp [chC]
    have of3 := zjV (h := h3) (c := c) o1 o2 o3 o4 o5
    simp only [chC] at e4 hh3 c3 of3
    simp [t8, t35, t36, t37, hlt, e1, e2', e3, e4, o1, o2, o3, o4, o5]
    rw [zaN _ _ _ rfl, <- hh3]
    refine of3 _ ?_
    have hw3 : HeldAt h3 (fun j => h.next ≤ j) m8 ((L.take i).foldl putC []) := hw8.keep g3.1 (g3.2 m8 m8lt) fun j s cs _ hj e => (g3.2 j hj).trans e
    have fnd := hw3.find (zae c) (.agg chZ)
    simp only [kyD, kyT, kyV, zae, chZ] at fnd
    rcases fnd with ⟨d, e, f1, f2, f3, f4⟩ | ⟨f1, f2⟩
    ·obtain ⟨dp, dc, dx, dl, dk, rfl, B⟩ := f3
     obtain ⟨p1, p2, p3, p4, p5⟩ := B.at.one
     have dm : d ∈ L.take i := (zdC hk d).1 f1
     have bad : zbP px L = false := by
      rw [zbP, Bool.and_eq_false_iff]
      right
      refine decide_eq_false fun kL => ?_
      have kt : zaB (L.take (i + 1)) := zeC (List.take_sublist _ _) kL
      exact (zgP hlt hk).1 kt d dm (by rw [<- hc]; exact f2)
     simp only [chC] at f4
     simp [kyV, zae, f4, p1, p2, p3, p4, p5]
     refine hRet _ _ ?_
     simp
     refine q1 (by rw [hmp, bad]; rfl) _ ?_ ?_
     ·refine Ge.trans gb (Ge.trans g3 ?_)
      repeat' (first | exact Ge.refl _ | refine Ge.push ?_ _ | refine Ge.set ?_ (by omega) _)
     ·repeat' (first | exact w3 | refine H.WF.push ?_ _ | refine H.WF.set ?_ (by simp) _)
    ·have a0 : ¬ h'.next = h3.next := by omega
     obtain ⟨h4, hh4⟩ : ∃ h4, h4 = h3.push (.row chZ) := ⟨_, rfl⟩
     have g4 : Ge h3 h4 := by rw [hh4]; exact (Ge.refl _).push _
     have w4 : h4.WF := by rw [hh4]; exact w3.push _
     have n4 : h4.next = h3.next + 1 := by rw [hh4]; simp
     have c10 : zab h4.get h'.next 23 = some (chC c vp vc vx vl vk) := by rw [g4.cells (by omega)]; simpa [chC] using c3
     have g34 := g3.trans g4
     have A4 := A.ge wb g34
     have y44 : zab h4.get h.next 4 = some (pfxC px) := (zag (n := 4) ((g34.2 h.next (by omega)).trans y4) rfl).trans rfl
     have nc := zjO (h := h4) (n := c.n)
     have ck := zjX A4
     have ep := zks c.n.p px
     simp only [chZ] at hh4
     simp only [chC] at c10
     simp only [nlC, pfxC] at nc y44 ep
     simp only [attC] at ck
     have retE : okW px c = false -> ∀ G, Ge h4 G -> G.WF -> Q (.tup [.nilsl, .int .i64 2]) G := fun e G gG wG => q1 (by
      have : zbP px L = false := by
       rw [zbP, Bool.and_eq_false_iff]
       left
       cases hA : L.all (okW px) with
       | false => rfl
       | true => have := List.all_eq_true.1 hA c (by rw [hc]; exact List.getElem_mem hlt); rw [e] at this; cases this
      rw [this, Bool.and_false]) G (gb.trans (g34.trans gG)) wG
     simp [kyV, zae, f2]
     rw [zaN _ _ _ rfl, <- hh4]
     simp [a0, c3]
     cases hgn : c.gone with
     | true =>
      simp
      refine hRet _ _ ?_
      simp
      exact retE (by simp [okW, hgn]) h4 (Ge.refl _) w4
     | false =>
      cases hpx : decide (c.n.p = px) with
      | false =>
       rw [hpx] at ep
       simp [c10, y44, t4, ep]
       refine hRet _ _ ?_
       simp
       exact retE (by simp [okW, of_decide_eq_false hpx]) h4 (Ge.refl _) w4
      | true =>
       rw [hpx] at ep
       have hpx' := of_decide_eq_true hpx
       simp [c10, y44, t4, ep]
       refine nc _ ?_
       cases hmn : mayN c.n with
       | false =>
        simp
        refine hRet _ _ ?_
        simp
        exact retE (by simp [okW, hmn]) h4 (Ge.refl _) w4
       | true =>
        simp [c10]
        refine ck _ ?_
        cases hat : attB c.att with
        | false =>
         simp
         refine hRet _ _ ?_
         simp
         exact retE (by simp [okW, hat]) h4 (Ge.refl _) w4
        | true =>
         simp
         have okc : okW px c = true := by simp [okW, hgn, hpx', hmn, hat]
         have zc : AttSz c.att := zjp hat
         have of4 := zjV (h := h4) (c := c) o1 o2 o3 o4 o5
         have ow4 := fun Q q => zfL (h := h4) (Q := Q) A4 zc q
         obtain ⟨yp, yc, yx, yl, yk, hy, gy, wy, fy⟩ := zhF w4 zc
         have lt10 : h'.next < h4.next := by omega
         simp only [chC] at of4 ow4
         refine zb0 [h'.next] [0, 0, 1, 2, 0, 0] rfl (by rfl) ?_
         simp [t8, c10, I.foot, zaT]
         refine zbv of4 (by decide) (fun _ => fun k hk => rfl) ?_
         simp [c10, I.foot, zaT]
         refine ⟨by decide, fun w g => ∃ wp wc wx wl wk, w = .agg (chC c wp wc wx wl wk) ∧ Ge h4 g ∧ g.WF ∧ AttFr g h4.next c.att wp wc wx wl wk, ⟨_, hy, yp, yc, yx, yl, yk, rfl, gy, wy, fy⟩, ow4 _ fun wp wc wx wl wk g a b f => ⟨wp, wc, wx, wl, wk, rfl, a, b, f⟩, ?_⟩
         rintro _ g ⟨wp, wc, wx, wl, wk, rfl, gg, wg, F⟩
         refine ⟨fun e => (by cases e), ?_⟩
         have ng := gg.1
         have gg' : Ge h' g := g34.trans gg
         have hwg : HeldAt g (fun j => h.next ≤ j) m8 ((L.take i).foldl putC []) := hw8.keep gg'.1 (gg'.2 m8 m8lt) fun j s cs _ hj e => (gg'.2 j hj).trans e
         have hch : ChP g (fun j => h.next ≤ j) c (chC c wp wc wx wl wk) := ⟨wp, wc, wx, wl, wk, rfl, F.p.mono fun j _ hj => by have := gb.1; omega⟩
         obtain ⟨ob, hset, hld⟩ := hwg.set c hch
         simp only [kyD, kyT] at hset
         simp [hset, t37, hw]
         have gbn := gb.1
         refine hK _ _ hlt ?_
         refine ⟨by simp [t0, t4, t8, t35, t36], ((gb.trans gg').set (by omega) _), wg.set (by omega) _, by simp; omega, ?_, ?_, ?_, ?_⟩
         ·rw [H.get_set, if_neg (by omega), gg'.2 _ (by omega)]; exact y4
         ·rw [List.take_add_one, List.getElem?_eq_getElem hlt, List.all_append, ha, <- hc]; simp [okc]
         ·exact (zgP hlt hk).2 fun d hd e2 => f1 d ((zdC hk d).2 hd) (by rw [<- hc] at e2; exact e2)
         ·rw [List.take_add_one, List.getElem?_eq_getElem hlt, <- hc, List.foldl_append]; exact hld
   ·have hi2 : i = L.length := by omega
    rw [hi2, List.take_length] at ha hk hw8
    simp [t36, t37, hi2]
    refine hR _ _ ⟨by simp [t0, t4, t8], gb, wb, nb, by rw [zbP, ha, Bool.true_and]; exact decide_eq_true hk, y4, hw8⟩
  ·rintro t h5 ⟨⟨t0, t4, t8⟩, g5, w5, n5, hwb, y4, hw8⟩
   have kL : zaB L := by
    rw [zbP, Bool.and_eq_true] at hwb
    exact of_decide_eq_true hwb.2
   have x5 := x0.ge wf g5
   replace hw8 : HeldAt h5 (fun j => h.next ≤ j ∧ j < h5.next) m8 (L.foldl putC []) := hw8.mono fun j hj hr => ⟨hr, hj⟩
   obtain ⟨es0, bs0, tk0, L0, a1, mb, srt, hl0, hent⟩ := x5.held
   have LD : L0.length = D.length := srt.perm.length_eq
   obtain ⟨hp5, hm5, _⟩ := x5.lt w5
   have m8lt : m8 < h5.next := by omega
   simp [t0, x5.cell]
   refine ⟨m, es0, bs0, tk0, rfl, a1, ?_⟩
   simp
   obtain ⟨it, hit⟩ : ∃ it, it = h5.next := ⟨_, rfl⟩
   obtain ⟨h6, hh6⟩ : ∃ h6, h6 = h5.push (.miter m tk0 [] tk0) := ⟨_, rfl⟩
   have g6 : Ge h5 h6 := by rw [hh6]; exact (Ge.refl _).push _
   have w6 : h6.WF := by rw [hh6]; exact w5.push _
   have n6 : h6.next = h5.next + 1 := by rw [hh6]; simp
   rw [<- hh6, <- hit]
   -- what is told no more
   refine zcE (id := 3) (fun t h' => (t 0 = .ptr p 1 0 ∧ t 8 = .map m8) ∧ h'.WF ∧ (∀ j, j < h5.next -> h'.get j = h5.get j) ∧ h6.next ≤ h'.next ∧ ∃ (w : V) (fs : List (List V)) (M : List Chg), t 13 = w ∧ t 14 = .int .i64 ((D.filter (inP px)).length : Nat) ∧ M.Perm (D.filter (zcj px L)) ∧ Gl h' h6.next 23 w fs ∧ AtR (ChP h' fun j => h6.next ≤ j) (M.map za2) fs) (fun Rn hR => ?_) ?_
   ·refine zaK (fun k t h' => (t 0 = .ptr p 1 0 ∧ t 4 = .ptr h.next 4 0 ∧ t 8 = .map m8 ∧ t 82 = .ptr it 0 0) ∧ h'.WF ∧ (∀ j, j < h5.next -> h'.get j = h5.get j) ∧ h6.next ≤ h'.next ∧ ∃ w fs dn seen st, t 13 = w ∧ t 14 = .int .i64 (((metL L0 dn).filter (inP px)).length : Nat) ∧ Vis bs0 seen dn ∧ dn.length = k ∧ h'.get it = some (.miter m tk0 seen st) ∧ Gl h' h6.next 23 w fs ∧ AtR (ChP h' fun j => h6.next ≤ j) (((metL L0 dn).filter (zcj px L)).map za2) fs) bs0.length
     ⟨by simp [t0, t4, t8], w6, fun j hj => g6.2 j hj, Nat.le_refl _, .nilsl, [], [], [], tk0, by simp, by simp [metL], Vis.nil _, rfl, by rw [hh6, hit]; simp, Gl.nil _ _ _, AtR.nil _⟩ ?_
    rintro k t h' hk ⟨⟨t0, t4, t8, t82⟩, wb, kb, nb, w, fs, dn, seen, st, t13, t14, vis, hdn, hi, gl, ar⟩ K hK
    have hm' : h'.get m = some (.mapo es0 bs0 tk0) := (kb m hm5).trans a1
    have ow := gl.one
    simp [t82]
    refine ⟨it, m, tk0, seen, st, es0, bs0, rfl, hi, hm', fun i e b' he hb' hbs => ?_, fun hall => ?_⟩
    ·simp [t82]
     obtain ⟨h7, hh7⟩ : ∃ h7, h7 = h'.set it (.miter m tk0 (seen ++ [b']) tk0) := ⟨_, rfl⟩
     have n7 : h7.next = h'.next := by rw [hh7]; simp
     have w7 : h7.WF := by rw [hh7]; exact wb.set (by omega) _
     have k7 : ∀ j, j ≠ it -> h7.get j = h'.get j := fun j hj => by rw [hh7, H.get_set, if_neg hj]
     have i7 : h7.get it = some (.miter m tk0 (seen ++ [b']) tk0) := by rw [hh7]; simp
     refine ⟨it, m, tk0, tk0, seen, b', es0, bs0, i, e, rfl, by simp, by simp [show ¬ m = it by omega, hm'], he, hb', ?_⟩
     have v7 := vis.snoc hb' hbs
     have hlen7 : dn.length < bs0.length := by have := v7.le; simp at this; omega
     have hil : i < L0.length := by rw [<- hl0]; exact (List.getElem?_eq_some_iff.1 he).1
     obtain ⟨c, hc⟩ : ∃ c, c = L0[i] := ⟨_, rfl⟩
     have hci : L0[i]? = some c := by rw [hc]; exact List.getElem?_eq_getElem hil
     obtain ⟨e', he', vp, vc, vx, vl, vk, hee, A⟩ := hent i c hci
     rw [he, Option.some.injEq] at he'
     subst hee
     obtain ⟨o1, o2, o3, o4, o5⟩ := A.one
     have met := zdK (dn := dn) hci
     have b7 : ∀ j, j < h5.next -> h7.get j = h5.get j := fun j hj => by rw [k7 j (by omega)]; exact kb j hj
     rw [<- hh7, he']
     simp only [chC, kyV]
     simp [zae, o1, o2, o3, o4, o5]
     rw [zdG _ _ _ _ _ rfl rfl]
     obtain ⟨h8, hh8⟩ : ∃ h8, h8 = (h7.push (.row [.int .i64 c.n.p.fam, .int .u64 (c.n.p.rd : Nat), .str c.n.p.addr, .int .i64 c.n.p.len, .int .u32 (c.n.id : Nat)])).push (.row (chC c vp vc vx vl vk)) := ⟨_, rfl⟩
     have g8 : Ge h7 h8 := by rw [hh8]; exact ((Ge.refl _).push _).push _
     have w8 : h8.WF := by rw [hh8]; exact (w7.push _).push _
     have n8 : h8.next = h7.next + 2 := by rw [hh8]; simp
     have cA : zab h8.get h7.next 5 = some [.int .i64 c.n.p.fam, .int .u64 (c.n.p.rd : Nat), .str c.n.p.addr, .int .i64 c.n.p.len, .int .u32 (c.n.id : Nat)] := by rw [hh8]; simp
     have cB : zab h8.get (h7.next + 1) 23 = some (chC c vp vc vx vl vk) := by rw [hh8]; simp [chC]
     have xB : h8.get (h7.next + 1) = some (.row (chC c vp vc vx vl vk)) := by rw [hh8]; simp
     have i8 : h8.get it = some (.miter m tk0 (seen ++ [b']) tk0) := (g8.2 it (by omega)).trans i7
     have b8 : ∀ j, j < h5.next -> h8.get j = h5.get j := fun j hj => by rw [g8.2 j (by omega)]; exact b7 j hj
     have gl8 : Gl h8 h6.next 23 w fs := (gl.keep (by omega) fun j hj => k7 j (by have := gl.lo j hj; omega)).keep (by omega) fun j hj => g8.2 j (by have := (gl.lo j hj).2; omega)
     have ar8 : AtR (ChP h8 fun j => h6.next ≤ j) (((metL L0 dn).filter (zcj px L)).map za2) fs := ar.mono fun c e f => (f.keep (by omega) fun j s cs _ _ e => by rw [k7 j (fun e2 => by subst e2; rw [hi] at e; cases e)]; exact e).ge g8
     have y48 : zab h8.get h.next 4 = some (pfxC px) := (zag (n := 4) ((b8 h.next (by omega)).trans y4) rfl).trans rfl
     have ep := zks c.n.p px
     have hw88 : HeldAt h8 (fun j => h.next ≤ j ∧ j < h5.next) m8 (L.foldl putC []) := hw8.keep (by omega) (b8 m8 m8lt) fun j s cs _ hj e => (b8 j hj).trans e
     simp only [chC] at hh8 cB
     simp only [pfxC] at y48 ep
     rw [<- hh8]
     -- a round that tells nothing
     have quiet : zcj px L c = false -> ∀ G : H, Ge h8 G -> G.WF -> ∀ tt : Tm, (tt 0 = .ptr p 1 0 ∧ tt 4 = .ptr h.next 4 0 ∧ tt 8 = .map m8 ∧ tt 82 = .ptr it 0 0) -> tt 13 = w -> tt 14 = .int .i64 (((metL L0 (dn ++ [i])).filter (inP px)).length : Nat) -> K tt G := fun e G gG wG tt r5 e13 e14 => by
      have nG := gG.1
      refine hK _ _ (by omega) ⟨r5, wG, fun j hj => by rw [gG.2 j (by omega)]; exact b8 j hj, by omega, w, fs, dn ++ [i], seen ++ [b'], tk0, e13, e14, v7, by simp [hdn], (gG.2 it (by omega)).trans i8, gl8.keep gG.1 fun j hj => gG.2 j (gl8.lo j hj).2, ?_⟩
      rw [met, List.filter_append]
      have e1 : [c].filter (zcj px L) = [] := by simp [e]
      rw [e1, List.append_nil]
      exact ar8.mono fun _ _ f => f.ge gG
     cases hpx : decide (c.n.p = px) with
     | false =>
      rw [hpx] at ep
      have e1 : inP px c = false := hpx
      simp [y48, t4, ep]
      refine quiet (by rw [zcj, e1]; rfl) h8 (Ge.refl _) w8 _ ?_ ?_ ?_
      ·simp [t0, t4, t8, t82]
      ·simp [t13]
      ·simp [t14, met, List.filter_append, e1]
     | true =>
      rw [hpx] at ep
      have e1 : inP px c = true := hpx
      have ml : ((metL L0 dn).filter (inP px)).length ≤ 4096 := by
       refine Nat.le_trans (List.length_filter_le _ _) ?_
       simp only [metL, List.length_map]
       have := vis.le
       rw [mb.len, hl0] at this
       omega
      obtain ⟨cn, hcn⟩ : ∃ cn, cn = ((metL L0 dn).filter (inP px)).length := ⟨_, rfl⟩
      rw [<- hcn] at t14 ml
      have wc : IntKind.i64.wrap ((cn : Int) + 1) = (cn : Int) + 1 := zap (by omega) (by omega)
      have cn2 : ((metL L0 (dn ++ [i])).filter (inP px)).length = cn + 1 := by rw [met, List.filter_append, List.length_append, <- hcn]; simp [e1]
      have fnd := hw88.find (zae c) (.agg chZ)
      simp only [kyD, kyT, kyV, zae, chZ] at fnd
      rcases fnd with ⟨d, e, f1, f2, f3, f4⟩ | ⟨f1, f2⟩
      ·have gb0 : zcj px L c = false := by
        rw [zcj, Bool.and_eq_false_iff]
        right
        have : L.any (fun d => decide (zae d = zae c)) = true := List.any_eq_true.2 ⟨d, (zdC kL d).1 f1, decide_eq_true f2⟩
        rw [this]; rfl
       obtain ⟨dp, dc, dx, dl, dk, rfl, B⟩ := f3
       obtain ⟨p1, p2, p3, p4, p5⟩ := B.at.one
       simp only [chC] at f4
       simp [cA, y48, t4, ep, t14, wc, t8, f4, p1, p2, p3, p4, p5]
       rw [zaN _ _ _ rfl]
       refine quiet gb0 _ ((Ge.refl _).push _) (w8.push _) _ ?_ ?_ ?_
       ·simp [t0, t4, t8, t82]
       ·simp [t13]
       ·simp [cn2]
      ·have gb1 : zcj px L c = true := by
        rw [zcj, e1, Bool.true_and, Bool.not_eq_true', List.any_eq_false]
        intro d hd
        simp only [decide_eq_true_eq]
        exact f1 d ((zdC kL d).2 hd)
       simp [cA, y48, t4, ep, t14, wc, t8, f2]
       rw [zaN _ _ _ rfl]
       have a0 : ¬ h7.next + 1 = h8.next := by omega
       have xB' := xB
       simp only [chC] at xB'
       simp [a0, xB']
       obtain ⟨h9, hh9⟩ : ∃ h9, h9 = (h8.push (.row chZ)).set (h7.next + 1) (.row (chC ⟨c.gone, ⟨c.n.p, c.n.id, 0⟩, c.att⟩ vp vc vx vl vk)) := ⟨_, rfl⟩
       have n9 : h9.next = h8.next + 1 := by rw [hh9]; simp
       have w9 : h9.WF := by rw [hh9]; exact (w8.push _).set (by simp; omega) _
       have k9 : ∀ j, j < h8.next -> j ≠ h7.next + 1 -> h9.get j = h8.get j := fun j hj hne => by rw [hh9, H.get_set, if_neg hne, H.get_push, if_neg (by omega)]
       have cC : zab h9.get (h7.next + 1) 23 = some (chC ⟨c.gone, ⟨c.n.p, c.n.id, 0⟩, c.att⟩ vp vc vx vl vk) := by rw [hh9]; simp [chC]
       have gl9 : Gl h9 h6.next 23 w fs := gl8.keep (by omega) fun j hj => k9 j (gl8.lo j hj).2 (fun e2 => by
        rcases gl8 with ⟨_, rfl⟩ | ⟨_, j2, _, _, rfl, a3⟩
        ·simp [V.ids] at hj
        ·simp [V.ids] at hj
         subst hj
         rw [e2, xB] at a3
         cases a3)
       have f23 : ∀ e ∈ fs, e.length = 23 := fun e he => by obtain ⟨_, _, f⟩ := ar8.mem e he; exact f.at.len
       have fl : fs.length ≤ 4096 := by
        rw [ar8.1, List.length_map]
        refine Nat.le_trans (List.length_filter_le _ _) ?_
        simp only [metL, List.length_map]
        have := vis.le
        rw [mb.len, hl0] at this
        omega
       obtain ⟨v', d, ea, gl10, n10, k10, w10, _⟩ := zfN (bytes := 240) (chC (za2 c) .nilsl .nilsl .nilsl .nilsl .nilsl) gl9 (by omega) f23 rfl (by simp [chC]) (by decide) (by omega) (by omega)
       have fin : ∀ tt : Tm, (tt 0 = .ptr p 1 0 ∧ tt 4 = .ptr h.next 4 0 ∧ tt 8 = .map m8 ∧ tt 82 = .ptr it 0 0) -> tt 13 = v' -> tt 14 = .int .i64 ((cn + 1 : Nat) : Nat) -> K tt ((h9.push (.row (chC (za2 c) .nilsl .nilsl .nilsl .nilsl .nilsl))).app d) := fun tt r5 e13 e14 => by
        have keepA : ∀ j s cs, s ≠ 23 -> j < h8.next -> h8.get j = some (.grow s cs) -> ((h9.push (.row (chC (za2 c) .nilsl .nilsl .nilsl .nilsl .nilsl))).app d).get j = some (.grow s cs) := fun j s cs hs hj e => by
         have e9 : h9.get j = some (.grow s cs) := by rw [k9 j hj (fun e2 => by rw [e2, xB] at e; cases e)]; exact e
         by_cases hv : j ∈ w.ids
         ·rcases gl9 with ⟨_, rfl⟩ | ⟨_, j2, _, _, rfl, a3⟩
          ·simp [V.ids] at hv
          ·simp [V.ids] at hv
           subst hv
           rw [a3] at e9
           cases e9
           exact absurd rfl hs
         ·rw [k10 j hv (by omega)]; exact e9
        have outA : ∀ j, j < h6.next -> ((h9.push (.row (chC (za2 c) .nilsl .nilsl .nilsl .nilsl .nilsl))).app d).get j = h8.get j := fun j hj => by
         rw [k10 j (fun hv => by have := (gl9.lo j hv).1; omega) (by omega), k9 j (by omega) (by omega)]
        refine hK _ _ (by omega) ⟨r5, w10 w9, fun j hj => by rw [outA j (by omega)]; exact b8 j hj, by omega, v', fs ++ [chC (za2 c) .nilsl .nilsl .nilsl .nilsl .nilsl], dn ++ [i], seen ++ [b'], tk0, e13, by rw [cn2]; exact e14, v7, by simp [hdn], by rw [outA it (by omega)]; exact i8, gl10, ?_⟩
        rw [met, List.filter_append]
        have e2 : [c].filter (zcj px L) = [c] := by simp [gb1]
        rw [e2, List.map_append]
        refine AtR.append (ar8.mono fun _ _ f => f.keep3 (by omega) fun j s cs hs _ hj e => keepA j s cs (by omega) hj e) (AtR.single ⟨.nilsl, .nilsl, .nilsl, .nilsl, .nilsl, rfl, zji _ _⟩)
       have z0 : ((0 : Nat) : Int) = 0 := rfl
       rw [n9] at ea
       simp only [chC, za2, att0, chZ, z0] at hh9 cC ea fin
       rw [<- hh9]
       simp [t13, ea]
       refine fin _ ?_ ?_ ?_
       ·simp [t0, t4, t8, t82]
       ·simp
       ·simp
    ·simp
     have full := vis.full mb.nd hall
     rw [mb.len, hl0] at full
     have mp := (zdS full).trans srt.perm
     refine hR _ _ ⟨by simp [t0, t8], wb, kb, nb, w, fs, (metL L0 dn).filter (zcj px L), by simp [t13], ?_, mp.filter _, gl, ar⟩
     simp [t14, (mp.filter (inP px)).length_eq]
   ·rintro t h7 ⟨⟨t0, t8⟩, w7, k7, n7, w, fs, M, t13, t14, mM, gl, ar⟩
    have x7 : OutAt h7 (fun j => R j ∧ j < h.next) p m D := x5.keep (by omega) (k7 p hp5) (k7 m hm5) fun j s cs _ hj e => (k7 j hj).trans e
    have hw87 : HeldAt h7 (fun j => h.next ≤ j ∧ j < h5.next) m8 (L.foldl putC []) := hw8.keep (by omega) (k7 m8 m8lt) fun j s cs _ hj e => (k7 j hj).trans e
    have lm8 := hw87.len h7.get rfl
    have sL := (zfz kL).perm.length_eq
    rw [<- sL] at lm8
    have fle : (D.filter (inP px)).length ≤ D.length := List.length_filter_le _ _
    have fsum : (D.filter (inP px)).length + (D.filter fun c => !inP px c).length = D.length := by
     have := List.length_eq_countP_add_countP (p := inP px) (l := D)
     rw [List.countP_eq_length_filter, List.countP_eq_length_filter] at this
     simpa using this.symm
    obtain ⟨off, hoff⟩ : ∃ off, off = (D.filter fun c => !inP px c).length := ⟨_, rfl⟩
    obtain ⟨onn, honn⟩ : ∃ onn, onn = (D.filter (inP px)).length := ⟨_, rfl⟩
    rw [<- honn] at t14 fle fsum
    rw [<- hoff] at fsum
    have ws : IntKind.i64.wrap ((D.length : Int) - (onn : Int)) = (off : Int) := by rw [show (D.length : Int) - (onn : Int) = (off : Int) by omega]; exact zap (by omega) (by omega)
    have wa : IntKind.i64.wrap ((off : Int) + (L.length : Int)) = ((off + L.length : Nat) : Int) := by rw [<- Int.natCast_add]; exact zap (by omega) (by omega)
    have lD := x7.len
    by_cases hfull : 4096 < off + L.length
    ·have hf2 : zdv px D L = true := by rw [zdv, <- hoff]; exact decide_eq_true hfull
     have hf3 : (4096 : Int) < (off : Int) + (L.length : Int) := by omega
     have hf4 : (4096 : Int) < ((off + L.length : Nat) : Int) := by omega
     simp [t0, t8, t14, x7.cell, lD, lm8, ws, wa, hf3]
     exact q2 hmp hwb hf2 h7 ⟨by omega, fun j hj => by rw [k7 j (by omega)]; exact g5.2 j hj⟩ w7
    ·have hf2 : zdv px D L = false := by rw [zdv, <- hoff]; exact decide_eq_false hfull
     have hf3 : ¬ (4096 : Int) < (off : Int) + (L.length : Int) := by omega
     have hf4 : ¬ (4096 : Int) < ((off + L.length : Nat) : Int) := by omega
     simp [t0, t8, t14, x7.cell, lD, lm8, ws, wa, hf3]
     obtain ⟨es8, bs8, tk8, L8, a8, mb8, srt8, hl8, hent8⟩ := hw87
     have LD8 : L8.length = L.length := srt8.perm.length_eq.trans sL.symm
     have p8L : L8.Perm L := srt8.perm.trans (zfz kL).perm.symm
     have okL : ∀ c ∈ L, okW px c = true := fun c hc => by
      rw [zbP, Bool.and_eq_true] at hwb
      exact List.all_eq_true.1 hwb.1 c hc
     refine ⟨m8, es8, bs8, tk8, rfl, a8, ?_⟩
     simp
     obtain ⟨it3, hit3⟩ : ∃ it, it = h7.next := ⟨_, rfl⟩
     obtain ⟨h8, hh8⟩ : ∃ h8, h8 = h7.push (.miter m8 tk8 [] tk8) := ⟨_, rfl⟩
     have g8 : Ge h7 h8 := by rw [hh8]; exact (Ge.refl _).push _
     have w8 : h8.WF := by rw [hh8]; exact w7.push _
     have n8 : h8.next = h7.next + 1 := by rw [hh8]; simp
     rw [<- hh8, <- hit3]
     have Mlen : M.length ≤ D.length := by rw [mM.length_eq]; exact List.length_filter_le _ _
     -- what is to be told
     refine zcE (id := 5) (fun t h' => (t 0 = .ptr p 1 0 ∧ t 8 = .map m8) ∧ h'.WF ∧ (∀ j, j < h6.next -> h'.get j = h7.get j) ∧ h8.next ≤ h'.next ∧ ∃ (w : V) (fs : List (List V)) (N : List Chg), t 13 = w ∧ N.Perm (L.filter (newB D)) ∧ Gl h' h6.next 23 w fs ∧ AtR (ChP h' fun j => h6.next ≤ j) (M.map za2 ++ N) fs) (fun Rn hR => ?_) ?_
     ·refine zaK (fun k t h' => (t 0 = .ptr p 1 0 ∧ t 8 = .map m8 ∧ t 122 = .ptr it3 0 0) ∧ h'.WF ∧ (∀ j, j < h6.next -> h'.get j = h7.get j) ∧ h8.next ≤ h'.next ∧ ∃ (w : V) (fs : List (List V)) (dn seen : List Nat) (st : Nat), t 13 = w ∧ Vis bs8 seen dn ∧ dn.length = k ∧ h'.get it3 = some (.miter m8 tk8 seen st) ∧ Gl h' h6.next 23 w fs ∧ AtR (ChP h' fun j => h6.next ≤ j) (M.map za2 ++ (metL L8 dn).filter (newB D)) fs) bs8.length
       ⟨by simp [t0, t8], w8, fun j hj => g8.2 j (by omega), Nat.le_refl _, w, fs, [], [], tk8, by simp [t13], Vis.nil _, rfl, by rw [hh8, hit3]; simp, gl.keep g8.1 fun j hj => g8.2 j (gl.lo j hj).2, by simpa [metL] using ar.mono fun _ _ f => f.ge g8⟩ ?_
      rintro k t h' hk ⟨⟨t0, t8, t122⟩, wb, kb, nb, w, fs, dn, seen, st, t13, vis, hdn, hi, gl, ar⟩ K hK
      have hm' : h'.get m8 = some (.mapo es8 bs8 tk8) := (kb m8 (by omega)).trans a8
      have ow := gl.one
      simp [t122]
      refine ⟨it3, m8, tk8, seen, st, es8, bs8, rfl, hi, hm', fun i e b' he hb' hbs => ?_, fun hall => ?_⟩
      ·simp [t122]
       obtain ⟨h9, hh9⟩ : ∃ h9, h9 = h'.set it3 (.miter m8 tk8 (seen ++ [b']) tk8) := ⟨_, rfl⟩
       have n9 : h9.next = h'.next := by rw [hh9]; simp
       have w9 : h9.WF := by rw [hh9]; exact wb.set (by omega) _
       have k9 : ∀ j, j ≠ it3 -> h9.get j = h'.get j := fun j hj => by rw [hh9, H.get_set, if_neg hj]
       have i9 : h9.get it3 = some (.miter m8 tk8 (seen ++ [b']) tk8) := by rw [hh9]; simp
       refine ⟨it3, m8, tk8, tk8, seen, b', es8, bs8, i, e, rfl, by simp, by simp [show ¬ m8 = it3 by omega, hm'], he, hb', ?_⟩
       have v9 := vis.snoc hb' hbs
       have hlen9 : dn.length < bs8.length := by have := v9.le; simp at this; omega
       have hil : i < L8.length := by rw [<- hl8]; exact (List.getElem?_eq_some_iff.1 he).1
       obtain ⟨c, hc⟩ : ∃ c, c = L8[i] := ⟨_, rfl⟩
       have hci : L8[i]? = some c := by rw [hc]; exact List.getElem?_eq_getElem hil
       have hcL : c ∈ L := p8L.mem_iff.1 (by rw [hc]; exact List.getElem_mem hil)
       obtain ⟨e', he', vp, vc, vx, vl, vk, hee, A⟩ := hent8 i c hci
       rw [he, Option.some.injEq] at he'
       subst hee
       obtain ⟨o1, o2, o3, o4, o5⟩ := A.one
       have zc := A.sz
       have met := zdK (dn := dn) hci
       have b9 : ∀ j, j < h6.next -> h9.get j = h7.get j := fun j hj => by rw [k9 j (by omega)]; exact kb j hj
       rw [<- hh9, he']
       simp only [chC, kyV]
       simp [zae, o1, o2, o3, o4, o5]
       rw [zdG _ _ _ _ _ rfl rfl]
       obtain ⟨hA, hhA⟩ : ∃ hA, hA = (h9.push (.row [.int .i64 c.n.p.fam, .int .u64 (c.n.p.rd : Nat), .str c.n.p.addr, .int .i64 c.n.p.len, .int .u32 (c.n.id : Nat)])).push (.row (chC c vp vc vx vl vk)) := ⟨_, rfl⟩
       have gA : Ge h9 hA := by rw [hhA]; exact ((Ge.refl _).push _).push _
       have wA : hA.WF := by rw [hhA]; exact (w9.push _).push _
       have nA : hA.next = h9.next + 2 := by rw [hhA]; simp
       have cA : zab hA.get h9.next 5 = some [.int .i64 c.n.p.fam, .int .u64 (c.n.p.rd : Nat), .str c.n.p.addr, .int .i64 c.n.p.len, .int .u32 (c.n.id : Nat)] := by rw [hhA]; simp
       have cB : zab hA.get (h9.next + 1) 23 = some (chC c vp vc vx vl vk) := by rw [hhA]; simp [chC]
       have iA : hA.get it3 = some (.miter m8 tk8 (seen ++ [b']) tk8) := (gA.2 it3 (by omega)).trans i9
       have bA : ∀ j, j < h6.next -> hA.get j = h7.get j := fun j hj => by rw [gA.2 j (by omega)]; exact b9 j hj
       have glA : Gl hA h6.next 23 w fs := (gl.keep (by omega) fun j hj => k9 j (fun e2 => by
        rcases gl with ⟨_, rfl⟩ | ⟨_, j2, _, _, rfl, a3⟩
        ·simp [V.ids] at hj
        ·simp [V.ids] at hj
         subst hj
         rw [e2, hi] at a3
         cases a3)).keep (by omega) fun j hj => gA.2 j (by have := (gl.lo j hj).2; omega)
       have arA : AtR (ChP hA fun j => h6.next ≤ j) (M.map za2 ++ (metL L8 dn).filter (newB D)) fs := ar.mono fun c e f => (f.keep (by omega) fun j s cs _ _ e => by rw [k9 j (fun e2 => by subst e2; rw [hi] at e; cases e)]; exact e).ge gA
       have g5n := g5.1
       have xA : OutAt hA (fun j => R j ∧ j < h.next) p m D := x7.keep (by omega) (bA p (by omega)) (bA m (by omega)) fun j s cs hr hj e => (bA j (by omega)).trans e
       have A7 : AttP hA (fun j => h.next ≤ j ∧ j < h5.next) c.att vp vc vx vl vk := A.keep (by omega) fun j s cs hr hj e => (bA j (by omega)).trans e
       have cP := xA.cell
       have fnd := xA.held.find (zae c) (.agg chZ)
       have okc := okL c hcL
       have gc0 : c.gone = false := by
        simp only [okW, Bool.and_eq_true, Bool.not_eq_true'] at okc
        exact okc.1.1.1
       have frm : [p, h9.next, m].all (· < hA.next) = true := by simp; omega
       -- a round that tells nothing
       have quiet : newB D c = false -> ∀ G : H, Ge hA G -> G.WF -> ∀ tt : Tm, (tt 0 = .ptr p 1 0 ∧ tt 8 = .map m8 ∧ tt 122 = .ptr it3 0 0) -> tt 13 = w -> K tt G := fun e G gG wG tt r5 e13 => by
        have nG := gG.1
        refine hK _ _ (by omega) ⟨r5, wG, fun j hj => by rw [gG.2 j (by omega)]; exact bA j hj, by omega, w, fs, dn ++ [i], seen ++ [b'], tk8, e13, v9, by simp [hdn], (gG.2 it3 (by omega)).trans iA, glA.keep gG.1 fun j hj => gG.2 j (glA.lo j hj).2, ?_⟩
        rw [met, List.filter_append]
        have e1 : [c].filter (newB D) = [] := by simp [e]
        rw [e1, List.append_nil]
        exact arA.mono fun _ _ f => f.ge gG
       have f23 : ∀ e ∈ fs, e.length = 23 := fun e he => by obtain ⟨_, _, f⟩ := arA.mem e he; exact f.at.len
       have fl : fs.length ≤ 20000 := by
        rw [arA.1, List.length_append, List.length_map]
        have h1 : ((metL L8 dn).filter (newB D)).length ≤ L8.length := by
         refine Nat.le_trans (List.length_filter_le _ _) ?_
         simp only [metL, List.length_map]
         have := vis.le
         rw [mb8.len, hl8] at this
         exact this
        omega
       -- one that is told
       have tells : newB D c = true -> ∀ (G G2 : H) (wp wc wx wl wk : V), Ge hA G -> Ge G G2 -> G2.WF -> AttFr G2 G.next c.att wp wc wx wl wk -> ∃ v' d, zax (G2.push (.row (chC c wp wc wx wl wk))).get (G2.next + 1) 23 240 w (.sl G2.next 23 0 1 (some 1)) = some (v', d) ∧
         ∀ tt : Tm, (tt 0 = .ptr p 1 0 ∧ tt 8 = .map m8 ∧ tt 122 = .ptr it3 0 0) -> tt 13 = v' -> K tt ((G2.push (.row (chC c wp wc wx wl wk))).app d) := fun e G G2 wp wc wx wl wk gG gG2 wG2 F => by
        obtain ⟨f1, f2, f3, f4, f5⟩ := F.one
        have g2' := gG.trans gG2
        have nG := gG.1
        have nG2 := gG2.1
        have gl4 : Gl G2 h6.next 23 w fs := glA.keep g2'.1 fun j hj => g2'.2 j (glA.lo j hj).2
        obtain ⟨v', d, ea, gl5, n5, k5', w5', _⟩ := zfN (bytes := 240) (chC c wp wc wx wl wk) gl4 (by omega) f23 rfl (by simp [chC, f1, f2, f3, f4, f5]) (by decide) (by omega) (by omega)
        refine ⟨v', d, ea, fun tt r5 e5 => ?_⟩
        have keep5 : ∀ j s cs, s ≠ 23 -> j < G2.next -> G2.get j = some (.grow s cs) -> ((G2.push (.row (chC c wp wc wx wl wk))).app d).get j = some (.grow s cs) := fun j s cs hs hj e => by
         by_cases hv : j ∈ w.ids
         ·rcases gl4 with ⟨_, rfl⟩ | ⟨_, j2, _, _, rfl, a3⟩
          ·simp [V.ids] at hv
          ·simp [V.ids] at hv
           subst hv
           rw [a3] at e
           cases e
           exact absurd rfl hs
         ·rw [k5' j hv hj]; exact e
        have out5 : ∀ j, j < h6.next -> ((G2.push (.row (chC c wp wc wx wl wk))).app d).get j = G2.get j := fun j hlt => k5' j (fun hv => by have := (gl4.lo j hv).1; omega) (by omega)
        have oit : ((G2.push (.row (chC c wp wc wx wl wk))).app d).get it3 = G2.get it3 := k5' it3 (fun hv => by
         rcases gl4 with ⟨_, rfl⟩ | ⟨_, j2, _, _, rfl, a3⟩
         ·simp [V.ids] at hv
         ·simp [V.ids] at hv
          subst hv
          rw [g2'.2 _ (by omega), iA] at a3
          cases a3) (by omega)
        refine hK _ _ (by omega) ⟨r5, w5' wG2, fun j hj => ?_, by omega, v', fs ++ [chC c wp wc wx wl wk], dn ++ [i], seen ++ [b'], tk8, e5, v9, by simp [hdn], ?_, gl5, ?_⟩
        ·rw [out5 j hj, g2'.2 j (by omega)]; exact bA j hj
        ·rw [oit, g2'.2 it3 (by omega)]; exact iA
        ·rw [met, List.filter_append]
         have e1 : [c].filter (newB D) = [c] := by simp [e]
         rw [e1, <- List.append_assoc]
         refine AtR.append ?_ (AtR.single ⟨wp, wc, wx, wl, wk, rfl, ?_⟩)
         ·exact arA.mono fun _ _ f => (f.ge g2').keep3 (by omega) fun j s cs hs _ hj e => keep5 j s cs (by omega) hj e
         ·exact (F.p.keep3 (by omega) fun j s cs hs _ hj e => keep5 j s cs (by omega) hj e).mono fun j _ hj => by omega
       have refs : True := trivial
       simp only [chC] at hhA cB
       simp only [kyD, kyT, kyV, zae, chZ] at fnd
       rw [<- hhA]
       refine zb0 [p, h9.next, m] [0, 0, 0, 2, 2, 2, 0, 0, 0, 1, 0, 0] rfl (by rfl) ?_
       rcases fnd with ⟨d, e, f1, f2, f3, f4⟩ | ⟨f1, f2⟩
       ·obtain ⟨dp, dc, dx, dl, dk, rfl, B⟩ := f3
        obtain ⟨p1, p2, p3, p4, p5⟩ := B.at.one
        have hdc : newB D c = !decide (d = c) := by
         rw [newB]
         congr 1
         rw [decide_eq_decide]
         constructor
         ·intro hcD
          exact zlz (zcS srt.rise) f1 hcD f2
         ·rintro rfl; exact f1
        have dg0 := hD d f1
        have dex : d = c ↔ d.n = c.n ∧ d.att = c.att := by
         constructor
         ·rintro rfl; exact ⟨rfl, rfl⟩
         ·rintro ⟨h1, h2⟩
          cases d; cases c
          simp only at dg0 gc0 h1 h2
          simp [dg0, gc0, h1, h2]
        have a0 : ¬ h9.next + 1 = hA.next := by omega
        obtain ⟨hB, hhB⟩ : ∃ hB, hB = hA.push (.row (chC d dp dc dx dl dk)) := ⟨_, rfl⟩
        have gB : Ge hA hB := by rw [hhB]; exact (Ge.refl _).push _
        have wB : hB.WF := by rw [hhB]; exact wA.push _
        have nB : hB.next = hA.next + 1 := by rw [hhB]; simp
        have A8 := A7.at.ge wA gB
        have B8 := B.at.ge wA gB
        have ow8 := fun Q q => zfL (h := hB) (Q := Q) A8 zc q
        have as8 := zkW B8 A8
        have en := zo8 d.n c.n
        have cD : zab hB.get hA.next 23 = some (chC d dp dc dx dl dk) := by rw [hhB]; simp [chC]
        have cBB : zab hB.get (h9.next + 1) 23 = some (chC c vp vc vx vl vk) := by rw [gB.cells (by omega)]; simpa [chC] using cB
        simp only [chC] at hhB ow8 f4 cD cBB
        simp only [attC] at as8
        simp only [nlC] at en
        simp [t0, cP, cA, f4, I.foot, zaT, p1, p2, p3, p4, p5]
        refine ⟨fun k hk => ?_, ?_⟩
        ·simp only [List.mem_cons, List.not_mem_nil, or_false] at hk
         rw [H.get_push, if_neg (by omega)]
        rw [zaN _ _ _ rfl, <- hhB]
        have tell : newB D c = true -> True := fun _ => trivial
        cases hn : decide (d.n = c.n) with
        | false =>
         rw [hn] at en
         have new1 : newB D c = true := by rw [hdc, Bool.not_eq_true']; exact decide_eq_false fun e => of_decide_eq_false hn (dex.1 e).1
         simp [a0, cB, cBB, en, t13]
         refine ow8 _ fun wp wc wx wl wk hC gC wC FC => ?_
         obtain ⟨r1, r2, r3, r4, r5⟩ := FC.one
         obtain ⟨v', dd, ea, fin⟩ := tells new1 hB hC wp wc wx wl wk gB gC wC FC
         simp only [chC] at ea fin
         simp [r1, r2, r3, r4, r5, ea]
         refine fin _ ?_ ?_
         ·simp [t0, t8, t122]
         ·simp
        | true =>
         rw [hn] at en
         simp [a0, cB, cBB, cD, en]
         refine as8 _ ?_
         cases hat : decide (d.att = c.att) with
         | false =>
          have new1 : newB D c = true := by rw [hdc, Bool.not_eq_true']; exact decide_eq_false fun e => of_decide_eq_false hat (dex.1 e).2
          simp [cBB, t13]
          refine ow8 _ fun wp wc wx wl wk hC gC wC FC => ?_
          obtain ⟨r1, r2, r3, r4, r5⟩ := FC.one
          obtain ⟨v', dd, ea, fin⟩ := tells new1 hB hC wp wc wx wl wk gB gC wC FC
          simp only [chC] at ea fin
          simp [r1, r2, r3, r4, r5, ea]
          refine fin _ ?_ ?_
          ·simp [t0, t8, t122]
          ·simp
         | true =>
          have new0 : newB D c = false := by rw [hdc, Bool.not_eq_false']; exact decide_eq_true (dex.2 ⟨of_decide_eq_true hn, of_decide_eq_true hat⟩)
          simp
          refine quiet new0 hB gB wB _ ?_ ?_
          ·simp [t0, t8, t122]
          ·simp [t13]
       ·have new1 : newB D c = true := by
         rw [newB, Bool.not_eq_true']
         exact decide_eq_false fun hcD => f1 c hcD rfl
        have a0 : ¬ h9.next + 1 = hA.next := by omega
        obtain ⟨hB, hhB⟩ : ∃ hB, hB = hA.push (.row chZ) := ⟨_, rfl⟩
        have gB : Ge hA hB := by rw [hhB]; exact (Ge.refl _).push _
        have wB : hB.WF := by rw [hhB]; exact wA.push _
        have A8 := A7.at.ge wA gB
        have ow8 := fun Q q => zfL (h := hB) (Q := Q) A8 zc q
        simp only [chZ] at hhB
        simp only [chC] at ow8
        simp [t0, cP, cA, f2, I.foot, zaT, a0, cB, t13]
        refine ⟨fun k hk => ?_, ?_⟩
        ·simp only [List.mem_cons, List.not_mem_nil, or_false] at hk
         rw [H.get_push, if_neg (by omega)]
        rw [zaN _ _ _ rfl, <- hhB]
        refine ow8 _ fun wp wc wx wl wk hC gC wC FC => ?_
        obtain ⟨p1, p2, p3, p4, p5⟩ := FC.one
        obtain ⟨v', d, ea, fin⟩ := tells new1 hB hC wp wc wx wl wk gB gC wC FC
        simp only [chC] at ea fin
        simp [p1, p2, p3, p4, p5, ea]
        refine fin _ ?_ ?_
        ·simp [t0, t8, t122]
        ·simp
      ·simp
       have full := vis.full mb8.nd hall
       rw [mb8.len, hl8] at full
       have mp := (zdS full).trans p8L
       exact hR _ _ ⟨by simp [t0, t8], wb, kb, nb, w, fs, (metL L8 dn).filter (newB D), by simp [t13], mp.filter _, gl, ar⟩
     ·rintro t h9 ⟨⟨t0, t8⟩, w9, k9, n9, w, fs, N, t13, mN, gl, ar⟩
      have x9 : OutAt h9 (fun j => R j ∧ j < h.next) p m D := x7.keep (by omega) (k9 p (by omega)) (k9 m (by omega)) fun j s cs hr hj e => (k9 j (by have := g5.1; omega)).trans e
      have hw9 : HeldAt h9 (fun j => h.next ≤ j ∧ j < h5.next) m8 (L.foldl putC []) := ⟨es8, bs8, tk8, L8, (k9 m8 (by omega)).trans a8, mb8, srt8, hl8, fun i c hi => by
       obtain ⟨e, b1, b2⟩ := hent8 i c hi
       exact ⟨e, b1, b2.keep (by omega) fun j s cs hr hj e => (k9 j (by omega)).trans e⟩⟩
      obtain ⟨E, hE⟩ : ∃ E, E = M.map za2 ++ N := ⟨_, rfl⟩
      rw [<- hE] at ar
      have lf : LfP h9 (fun j => h6.next ≤ j) w E fs := ⟨gl.fr.p.mono fun j _ hj => hj.1, ar⟩
      have El : E.length ≤ 20000 := by
       rw [hE, List.length_append, List.length_map, mN.length_eq]
       have := List.length_filter_le (newB D) L
       omega
      have lenE := lf.len h9.get
      have ft : D.filter (fun _ => true) = D := List.filter_eq_self.2 (by simp)
      simp [t13, lenE]
      -- what is gone is taken out
      refine zcE (id := 7) (fun t h' => (t 0 = .ptr p 1 0 ∧ t 8 = .map m8 ∧ t 13 = w) ∧ h'.WF ∧ (∀ j, j < h9.next -> j ≠ m -> h'.get j = h9.get j) ∧ h9.next ≤ h'.next ∧ OutAt h' (fun j => R j ∧ j < h.next) p m (D.filter fun d => !E.any fun c => c.gone && decide (zae c = zae d))) (fun Rn hR => ?_) ?_
      ·refine zaK (fun i t h' => (t 0 = .ptr p 1 0 ∧ t 8 = .map m8 ∧ t 13 = w ∧ t 159 = w ∧ t 160 = .int .i64 (E.length : Nat) ∧ t 161 = .int .i64 (i : Nat)) ∧ h'.WF ∧ (∀ j, j < h9.next -> j ≠ m -> h'.get j = h9.get j) ∧ h9.next ≤ h'.next ∧ OutAt h' (fun j => R j ∧ j < h.next) p m (D.filter fun d => !(E.take i).any fun c => c.gone && decide (zae c = zae d))) E.length
        ⟨by simp [t0, t8, t13], w9, fun _ _ _ => rfl, Nat.le_refl _, by simpa [ft] using x9⟩ ?_
       rintro i t h' hi ⟨⟨t0, t8, t13, t159, t160, t161⟩, wb, kb, nb, xb⟩ K hK
       obtain ⟨xp, xm, _⟩ := xb.lt wb
       by_cases hlt : i < E.length
       ·have hw := za4 hlt (by omega : E.length < 9223372036854775808)
        have lfb : LfP h' (fun j => h6.next ≤ j) w E fs := lf.keep nb fun j hj hl => kb j hl (by omega)
        obtain ⟨pp, qq, o, cs, vp, vc, vx, vl, vk, e1, _, e2, e3, e4, A, _, _⟩ := (lfb.ls.at (by omega)).atG wb hlt
        have e2' := e2 h' (Ge.refl _)
        obtain ⟨c, hc⟩ : ∃ c, c = E[i] := ⟨_, rfl⟩
        rw [<- hc] at e4 A
        obtain ⟨o1, o2, o3, o4, o5⟩ := A.one
        obtain ⟨hA, hhA⟩ : ∃ hA, hA = h'.push (.row (chC c vp vc vx vl vk)) := ⟨_, rfl⟩
        have gA : Ge h' hA := by rw [hhA]; exact (Ge.refl _).push _
        have wA : hA.WF := by rw [hhA]; exact wb.push _
        have nA : hA.next = h'.next + 1 := by rw [hhA]; simp
        have cA : zab hA.get h'.next 23 = some (chC c vp vc vx vl vk) := by rw [hhA]; simp [chC]
        have ofA := zjV (h := hA) (c := c) o1 o2 o3 o4 o5
        have xA := xb.ge wb gA
        have cP := xA.cell
        have tk1 : E.take (i + 1) = E.take i ++ [c] := by rw [List.take_add_one, List.getElem?_eq_getElem hlt, <- hc]; rfl
        simp only [chC] at e4 hhA cA ofA
        simp [t159, t160, t161, hlt, e1, e2', e3, e4, o1, o2, o3, o4, o5]
        rw [zaN _ _ _ rfl, <- hhA]
        cases hgn : c.gone with
        | false =>
         simp [t161, hw]
         refine hK _ _ hlt ⟨by simp [t0, t8, t13, t159, t160], wA, fun j hj hne => by rw [gA.2 j (by omega)]; exact kb j hj hne, by omega, ?_⟩
         have e9 : (D.filter fun d => !(E.take (i + 1)).any fun c => c.gone && decide (zae c = zae d)) = D.filter fun d => !(E.take i).any fun c => c.gone && decide (zae c = zae d) := by
          rw [tk1]
          refine List.filter_congr fun d _ => ?_
          simp [hgn]
         rw [e9]; exact xA
        | true =>
         simp
         refine zb0 [p] [0, 0, 0, 2, 0, 1, 0] rfl (by rfl) ?_
         simp [t0, cP, cA, I.foot, zaT]
         refine zbv ofA (by decide) (fun _ => fun k hk => rfl) ?_
         obtain ⟨ob, hdel, hld⟩ := xA.held.del (zae c)
         simp only [kyD, kyT] at hdel
         simp [hdel, t161, hw]
         have e9 : (D.filter fun d => !(E.take (i + 1)).any fun c => c.gone && decide (zae c = zae d)) = (D.filter fun d => !(E.take i).any fun c => c.gone && decide (zae c = zae d)).filter fun d => !decide (zae d = zae c) := by
          rw [tk1, List.filter_filter]
          refine List.filter_congr fun d _ => ?_
          have : decide (zae c = zae d) = decide (zae d = zae c) := by rw [decide_eq_decide]; exact eq_comm
          simp [hgn, this, Bool.and_comm]
         refine hK _ _ hlt ⟨by simp [t0, t8, t13, t159, t160], wA.set (by omega) _, fun j hj hne => by rw [H.get_set, if_neg hne, gA.2 j (by omega)]; exact kb j hj hne, by simp; omega, ?_⟩
         rw [e9]
         refine ⟨?_, hld⟩
         rw [H.get_set, if_neg (by omega)]; exact xA.row
       ·have hi2 : i = E.length := by omega
        rw [hi2, List.take_length] at xb
        simp [t160, t161, hi2]
        exact hR _ _ ⟨by simp [t0, t8, t13], wb, kb, nb, xb⟩
      ·rintro t hF ⟨⟨t0, t8, t13⟩, wF, kF, nF, xF⟩
       obtain ⟨D1, hD1⟩ : ∃ D1, D1 = D.filter fun d => !E.any fun c => c.gone && decide (zae c = zae d) := ⟨_, rfl⟩
       rw [<- hD1] at xF
       have aF : hF.get m8 = some (.mapo es8 bs8 tk8) := (kF m8 (by omega) (by omega)).trans ((k9 m8 (by omega)).trans a8)
       have lfF : LfP hF (fun j => h6.next ≤ j) w E fs := lf.keep nF fun j hj hl => kF j hl (by omega)
       simp [t8]
       refine ⟨m8, es8, bs8, tk8, rfl, aF, ?_⟩
       simp
       obtain ⟨it5, hit5⟩ : ∃ it, it = hF.next := ⟨_, rfl⟩
       obtain ⟨hG, hhG⟩ : ∃ hG, hG = hF.push (.miter m8 tk8 [] tk8) := ⟨_, rfl⟩
       have gG : Ge hF hG := by rw [hhG]; exact (Ge.refl _).push _
       have wG : hG.WF := by rw [hhG]; exact wF.push _
       have nG : hG.next = hF.next + 1 := by rw [hhG]; simp
       rw [<- hhG, <- hit5]
       have g5n := g5.1
       refine zcE (id := 9) (fun t h' => (t 13 = w) ∧ h'.WF ∧ (∀ j, j < hF.next -> j ≠ m -> h'.get j = hF.get j) ∧ hG.next ≤ h'.next ∧ OutAt h' (fun j => (R j ∧ j < h.next) ∨ (h.next ≤ j ∧ j < h5.next)) p m (zkd px D L)) (fun Rn hR => ?_) ?_
       ·refine zaK (fun k t h' => (t 0 = .ptr p 1 0 ∧ t 13 = w ∧ t 175 = .ptr it5 0 0) ∧ h'.WF ∧ (∀ j, j < hF.next -> j ≠ m -> h'.get j = hF.get j) ∧ hG.next ≤ h'.next ∧ ∃ (dn seen : List Nat) (st : Nat), Vis bs8 seen dn ∧ dn.length = k ∧ h'.get it5 = some (.miter m8 tk8 seen st) ∧ OutAt h' (fun j => (R j ∧ j < h.next) ∨ (h.next ≤ j ∧ j < h5.next)) p m ((metL L8 dn).foldl putC D1)) bs8.length
         ⟨by simp [t0, t13], wG, fun j hj _ => gG.2 j hj, Nat.le_refl _, [], [], tk8, Vis.nil _, rfl, by rw [hhG, hit5]; simp, (xF.mono fun j _ hr => .inl hr).ge wF gG⟩ ?_
        rintro k t h' hk ⟨⟨t0, t13, t175⟩, wb, kb, nb, dn, seen, st, vis, hdn, hi, xb⟩ K hK
        have hm' : h'.get m8 = some (.mapo es8 bs8 tk8) := (kb m8 (by omega) (by omega)).trans aF
        simp [t175]
        refine ⟨it5, m8, tk8, seen, st, es8, bs8, rfl, hi, hm', fun i e b' he hb' hbs => ?_, fun hall => ?_⟩
        ·simp [t175]
         obtain ⟨hA, hhA⟩ : ∃ hA, hA = h'.set it5 (.miter m8 tk8 (seen ++ [b']) tk8) := ⟨_, rfl⟩
         have nA : hA.next = h'.next := by rw [hhA]; simp
         have wA : hA.WF := by rw [hhA]; exact wb.set (by omega) _
         have kA : ∀ j, j ≠ it5 -> hA.get j = h'.get j := fun j hj => by rw [hhA, H.get_set, if_neg hj]
         have iA : hA.get it5 = some (.miter m8 tk8 (seen ++ [b']) tk8) := by rw [hhA]; simp
         refine ⟨it5, m8, tk8, tk8, seen, b', es8, bs8, i, e, rfl, by simp, by simp [show ¬ m8 = it5 by omega, hm'], he, hb', ?_⟩
         have vA := vis.snoc hb' hbs
         have hlenA : dn.length < bs8.length := by have := vA.le; simp at this; omega
         have hil : i < L8.length := by rw [<- hl8]; exact (List.getElem?_eq_some_iff.1 he).1
         obtain ⟨c, hc⟩ : ∃ c, c = L8[i] := ⟨_, rfl⟩
         have hci : L8[i]? = some c := by rw [hc]; exact List.getElem?_eq_getElem hil
         obtain ⟨e', he', vp, vc, vx, vl, vk, hee, A⟩ := hent8 i c hci
         rw [he, Option.some.injEq] at he'
         subst hee
         obtain ⟨o1, o2, o3, o4, o5⟩ := A.one
         have met := zdK (dn := dn) hci
         rw [<- hhA, he']
         simp only [chC, kyV]
         simp [zae, o1, o2, o3, o4, o5]
         rw [zdG _ _ _ _ _ rfl rfl]
         obtain ⟨hB, hhB⟩ : ∃ hB, hB = (hA.push (.row [.int .i64 c.n.p.fam, .int .u64 (c.n.p.rd : Nat), .str c.n.p.addr, .int .i64 c.n.p.len, .int .u32 (c.n.id : Nat)])).push (.row (chC c vp vc vx vl vk)) := ⟨_, rfl⟩
         have gB : Ge hA hB := by rw [hhB]; exact ((Ge.refl _).push _).push _
         have wB : hB.WF := by rw [hhB]; exact (wA.push _).push _
         have nB : hB.next = hA.next + 2 := by rw [hhB]; simp
         have cK : zab hB.get hA.next 5 = some [.int .i64 c.n.p.fam, .int .u64 (c.n.p.rd : Nat), .str c.n.p.addr, .int .i64 c.n.p.len, .int .u32 (c.n.id : Nat)] := by rw [hhB]; simp
         have cB : zab hB.get (hA.next + 1) 23 = some (chC c vp vc vx vl vk) := by rw [hhB]; simp [chC]
         have kB : ∀ j, j < hF.next -> j ≠ m -> hB.get j = hF.get j := fun j hj hne => by rw [gB.2 j (by omega), kA j (by omega)]; exact kb j hj hne
         have xB : OutAt hB (fun j => (R j ∧ j < h.next) ∨ (h.next ≤ j ∧ j < h5.next)) p m ((metL L8 dn).foldl putC D1) := (xb.keep (by omega) (kA p (by omega)) (kA m (by omega)) fun j s cs hr hj e => by rw [kA j (by omega)]; exact e).ge wA gB
         have chB : ChP hB (fun j => (R j ∧ j < h.next) ∨ (h.next ≤ j ∧ j < h5.next)) c (chC c vp vc vx vl vk) := ⟨vp, vc, vx, vl, vk, rfl, (A.keep (by omega) fun j s cs hr hj e => by rw [kB j (by omega) (by omega), kF j (by omega) (by omega), k9 j (by omega)]; exact e).mono fun j _ hr => .inr hr⟩
         obtain ⟨ob, hset, hld⟩ := xB.held.set c chB
         have cP := xB.cell
         simp only [chC] at hhB cB hset
         simp only [kyD, kyT, kyV, zae] at hset
         rw [<- hhB]
         refine zcD ?_
         simp [t0, cP, cK, cB, hset]
         refine hK _ _ (by omega) ⟨by simp [t0, t13, t175], wB.set (by omega) _, fun j hj hne => by rw [H.get_set, if_neg hne]; exact kB j hj hne, by simp; omega, dn ++ [i], seen ++ [b'], tk8, vA, by simp [hdn], ?_, ?_⟩
         ·rw [H.get_set, if_neg (by omega), gB.2 _ (by omega)]; exact iA
         ·rw [met, List.foldl_append]
          refine ⟨?_, hld⟩
          rw [H.get_set, if_neg (by omega)]; exact xB.row
        ·simp
         have full := vis.full mb8.nd hall
         rw [mb8.len, hl8] at full
         have mp := (zdS full).trans p8L
         have ev := zjM srt.rise hD kL okL mM mN mp
         rw [<- hE, <- hD1] at ev
         rw [ev] at xb
         exact hR _ _ ⟨by simp [t13], wb, kb, nb, xb⟩
       ·rintro t hH ⟨t13, wH, kH, nH, xH⟩
        have lfH : LfP hH (fun j => h6.next ≤ j) w E fs := lfF.keep (by omega) fun j hj hl => kH j hl (by omega)
        have kE : zaB E := by rw [hE]; exact zgn srt.rise kL mM mN
        simp [t13]
        refine zhZ lfH kE (by omega) fun S' es' hZ sZ nZ wZ oZ _ lZ => ?_
        rw [hE] at sZ
        have hS' := zkt srt.rise kL mM mN sZ
        rw [hS'] at lZ
        simp
        refine q3 hmp hwb hf2 w es' hZ h6.next ⟨by omega, fun j hj hp' hm' => ?_⟩ wZ (by omega) ?_ lZ
        ·rw [oZ j (by omega), kH j (by omega) hm', kF j (by omega) hm', k9 j (by omega), k7 j (by omega)]
         exact g5.2 j hj
        ·refine (xH.keep (by omega) (oZ p (by omega)) (oZ m (by omega)) fun j s cs hr hj e => by rw [oZ j (by omega)]; exact e).mono fun j _ hr => ?_
         rcases hr with hr | hr
         ·exact .inl hr.1
         ·exact .inr ⟨hr.1, by omega⟩
end Go.Am

namespace Go.Am
open Go.Proofs

set_option maxRecDepth 100000
theorem zm5 {cs e : List V} {o a n : Nat} (h : (cs.drop o).take 23 = e) (ha : a + n ≤ 23) : (cs.drop (o + a)).take n = (e.drop a).take n := by
 rw [<- h, List.drop_take, List.take_take, List.drop_drop, Nat.min_eq_left (by omega)]
end Go.Am

namespace Go.Am
open Go.Proofs

set_option maxRecDepth 100000
end Go.Am

namespace Go.Am
open Go.Proofs

set_option maxRecDepth 100000
def zb8 (p : Pfx) (D L : List Chg) : Int := if (zbP p L && mayP p) = true then (if zdv p D L = true then 7 else 0) else 2
def zaZ (p : Pfx) (D L : List Chg) : List Chg := if (zbP p L && mayP p) = true then (if zdv p D L = true then D else zkd p D L) else D
def zbg (p : Pfx) (D L : List Chg) : List Chg := if (zbP p L && mayP p) = true then (if zdv p D L = true then [] else zmH p D L) else []
end Go.Am

namespace Go.Am
open Go.Proofs

set_option maxRecDepth 100000
end Go.Am

namespace Go.Am
open Go.Proofs

set_option maxRecDepth 100000
theorem p_no : Fr.KnownOk Tryz.prog [] := fun _ h => by cases h
theorem ziO : Fr.plainRun (Fr.runO8 [] Fr.q.tab 100000 60) 63 [.str [118, 52, 32, 49, 48, 46, 48, 46, 48, 46, 48, 47, 56]] = some (.tup [.agg [.int .i64 1, .int .u64 0, .str [10, 0, 0, 0], .int .i64 8], .int .i64 0]) := by kernel_rfl
theorem zja (h : H) : Pure Tryz.prog 63 [.str [118, 52, 32, 49, 48, 46, 48, 46, 48, 46, 48, 47, 56]] h (.tup [.agg [.int .i64 1, .int .u64 0, .str [10, 0, 0, 0], .int .i64 8], .int .i64 0]) := zgr p_no Fr.q.tab_ok ziO h
theorem zi0 (g : Nat -> Option O) {a : Att} (h1 : a.path = []) (h2 : a.comms = []) (h3 : a.exts = []) (h4 : a.larges = []) (h5 : a.clus = []) : AttAt g a .nilsl .nilsl .nilsl .nilsl .nilsl := by
 refine ⟨⟨[], zdw _ _, by rw [h1]; rfl, by simp [h1]⟩, ?_, ?_, ?_, ?_⟩
 ·rw [h2]; exact zdw _ _
 ·rw [h3]; exact zdw _ _
 ·rw [h4]; exact zdw _ _
 ·rw [h5]; exact zdw _ _
def chN (c : Chg) : List V := chC c .nilsl .nilsl .nilsl .nilsl .nilsl
def NoL (a : Att) : Prop := a.path = [] ∧ a.comms = [] ∧ a.exts = [] ∧ a.larges = [] ∧ a.clus = []
theorem zd0 (i : Nat) : NoL (attM i) := ⟨rfl, rfl, rfl, rfl, rfl⟩
theorem zh6 {g : Nat -> Option O} {j : Nat} {c : Chg} (hc : NoL c.att) (hj : g j = some (.row (chN c))) : CsAt g (.sl j 23 0 1 (some 1)) [c] [chN c] := by
 refine ⟨⟨.inr ⟨j, 23, 0, some 1, rfl⟩, by simp [chN, chC], ?_, by simp⟩, rfl, fun i c' hi => ?_⟩
 ·rw [zaE, if_neg (by simp), zag (n := 23) hj rfl]
  simp [chN, chC]
 ·cases i with
  | zero =>
   simp at hi; subst hi
   exact ⟨chN c, rfl, _, _, _, _, _, rfl, zi0 _ hc.1 hc.2.1 hc.2.2.1 hc.2.2.2.1 hc.2.2.2.2⟩
  | succ i => simp at hi
def zac (id med : Nat) : Chg := ⟨false, ⟨⟨1, 0, [10, 0, 0, 0], 8⟩, id, 0⟩, attM med⟩
theorem zjd (i : Nat) : attB (attM i) = true := by simp [attB, attM, zek, risB, adjB]
theorem LsP.lenV {h : H} {R : Nat -> Prop} {v : V} {L : List Chg} {es : List (List V)} (s : LsP h R v L es) (g : Nat -> Option O) : lenV 1 g v = some (.int .i64 (L.length : Nat)) := by
 rw [<- s.len]
 rcases s.fc with ⟨rfl, rfl | ⟨k, rfl⟩⟩ | ⟨_, j, ca, o, _, _, rfl, _⟩ <;> simp
end Go.Am

namespace Go.Am
open Go.Proofs

set_option maxRecDepth 100000
def zcC (P : Program) (F : List Nat) (K : Tm -> H -> Prop) (w : Bool) (d : Option Nat) (x : X) (m : Nat) (is : List (SI × Nat)) (t : Tm) (h : H) (g : V) : Prop :=
 match g with
 | .bool b => if (b == w) = true then Awp P F K ((⟨d, none, x⟩, m) :: is) t h else Awp P F K is (t.put d .undef) h
 | _ => False
section
variable {P : Program} (F : List Nat) (K : Tm -> H -> Prop) (d : Option Nat) (x : X) (m : Nat) (is : List (SI × Nat)) (t : Tm) (h : H)
@[simp] theorem zn8 : zcC P F K true d x m is t h (.bool true) = Awp P F K ((⟨d, none, x⟩, m) :: is) t h := by simp [zcC]
@[simp] theorem znR : zcC P F K false d x m is t h (.bool false) = Awp P F K ((⟨d, none, x⟩, m) :: is) t h := by simp [zcC]
@[simp] theorem znP : zcC P F K false d x m is t h (.bool true) = Awp P F K is (t.put d .undef) h := by simp [zcC]
@[simp] theorem znV : zcC P F K true d x m is t h (.bool false) = Awp P F K is (t.put d .undef) h := by simp [zcC]
end
def zij (R : Nat -> Prop) (h : H) (p m : Nat) (D' out : List Chg) (err : Int) (r : V) (h' : H) : Prop :=
 ∃ nk wa ea, r = .tup [wa, .int .i64 err] ∧ But h h' p m ∧ h'.WF ∧ h.next ≤ nk ∧ nk ≤ h'.next ∧ OutAt h' (fun j => R j ∨ (h.next ≤ j ∧ j < nk)) p m D' ∧ LfP h' (fun j => nk ≤ j) wa out ea
theorem zb4 {h : H} {R : Nat -> Prop} {p m : Nat} {px : Pfx} {D L : List Chg} {v : V} {es : List (List V)} (wf : h.WF) (x : OutAt h R p m D) (hD : ∀ d ∈ D, d.gone = false) (lk : ∀ h', But h h' p m -> CsAt h'.get v L es) (zL : ∀ c ∈ L, AttSz c.att) (hb : D.length ≤ 4096) (hl : L.length ≤ 10000) : Acalls Tryz.prog 12 [.ptr p 1 0, .agg (pfxC px), v] h (zij R h p m (zaZ px D L) (zbg px D L) (zb8 px D L)) := by
 refine znl x hD lk zL hb hl ⟨fun e h' g w => ?_, fun e1 e2 e3 h' g w => ?_, fun e1 e2 e3 w es' h' n1 bt wf' hn ox ls => ?_⟩
 ·have e' : (zbP px L && mayP px) = false := by rw [Bool.and_comm]; exact e
  rw [zaZ, zbg, zb8, e']
  simp
  exact ⟨h'.next, .nilsl, [], rfl, g.but p m, w, g.1, Nat.le_refl _, (x.ge wf g).mono fun j _ hr => .inl hr, LfP.nil _ _⟩
 ·rw [zaZ, zbg, zb8, e1, e2, e3]
  simp
  exact ⟨h'.next, .nilsl, [], rfl, g.but p m, w, g.1, Nat.le_refl _, (x.ge wf g).mono fun j _ hr => .inl hr, LfP.nil _ _⟩
 ·rw [zaZ, zbg, zb8, e1, e2, e3]
  simp
  by_cases hn2 : n1 ≤ h'.next
  ·exact ⟨n1, w, es', rfl, bt, wf', hn, hn2, ox, ls⟩
  ·refine ⟨h'.next, w, es', rfl, bt, wf', bt.next, Nat.le_refl _, ox.mono fun j hj hr => ?_, ls.mono fun j hj hr => by omega⟩
   rcases hr with hr | hr
   ·exact .inl hr
   ·exact .inr ⟨hr.1, hj⟩
theorem zbO {h : H} {id med : Nat} : Pure Tryz.prog 22 [.str [118, 52, 32, 49, 48, 46, 48, 46, 48, 46, 48, 47, 56], .int .u32 (id : Nat), .int .u32 (med : Nat)] h (.agg (chN (zac id med))) := by
 refine zah Tryz.func22 S.a9c S.a9e rfl (Nat.le_of_ble_eq_true rfl) fun wf => ?_; simp only [S.a9]
 simp
 refine zja _ _ ?_
 simp [chN, chC, zac, attM]
 exact ((((Ge.refl _).push _).push _).set (by omega) _).set (Nat.le_refl _) _
end Go.Am

namespace Go.Am
open Go.Proofs

set_option maxRecDepth 100000
def x29 : Chg := zac 0 5
theorem zka : NoL x29.att := zd0 5
theorem zbb : mayP x29.n.p = true := by decide +kernel
theorem ziT : zbP x29.n.p [x29] = true := by
 have h1 : mayN x29.n = true := by decide +kernel
 have h2 : attB x29.att = true := zjd 5
 simp [zbP, okW, h1, h2, zaB, show x29.gone = false from rfl]
theorem zjC : zbP x29.n.p [] = true := by simp [zbP, zaB]
theorem zoI : zaZ x29.n.p [] [x29] = [x29] ∧ zbg x29.n.p [] [x29] = [x29] ∧ zb8 x29.n.p [] [x29] = 0 := by
 have hf : zdv x29.n.p [] [x29] = false := by decide +kernel
 refine ⟨?_, ?_, ?_⟩
 ·rw [zaZ, ziT, zbb, hf]; decide +kernel
 ·rw [zbg, ziT, zbb, hf]; decide +kernel
 ·rw [zb8, ziT, zbb, hf]; rfl
theorem zqM : zaZ x29.n.p [x29] [x29] = [x29] ∧ zbg x29.n.p [x29] [x29] = [] ∧ zb8 x29.n.p [x29] [x29] = 0 := by
 have hf : zdv x29.n.p [x29] [x29] = false := by decide +kernel
 refine ⟨?_, ?_, ?_⟩
 ·rw [zaZ, ziT, zbb, hf]; decide +kernel
 ·rw [zbg, ziT, zbb, hf]; decide +kernel
 ·rw [zb8, ziT, zbb, hf]; rfl
theorem zq8 : zaZ x29.n.p [x29] [] = [] ∧ zbg x29.n.p [x29] [] = [za2 x29] ∧ zb8 x29.n.p [x29] [] = 0 := by
 have hf : zdv x29.n.p [x29] [] = false := by decide +kernel
 refine ⟨?_, ?_, ?_⟩
 ·rw [zaZ, zjC, zbb, hf]; decide +kernel
 ·rw [zbg, zjC, zbb, hf]; decide +kernel
 ·rw [zb8, zjC, zbb, hf]; rfl
theorem zit (h : H) : Pure Tryz.prog 18 [] h (.bool true) := by
 refine zah Tryz.func18 S.a6c S.a6e rfl (Nat.le_of_ble_eq_true rfl) fun wf => ?_; simp only [S.a6]
 simp
 refine zjw fun h1 g1 w1 x1 => ?_
 obtain ⟨p, hp⟩ : ∃ p, p = h.next + 1 := ⟨_, rfl⟩
 obtain ⟨m, hm⟩ : ∃ m, m = h.next := ⟨_, rfl⟩
 rw [<- hp, <- hm] at x1
 rw [<- hp]
 simp [zjZ]
 refine zbO (id := 0) (med := 5) _ ?_
 have lt1 := x1.lt w1
 have hg1 := g1.1
 have zx : AttSz x29.att := zjp (zjd 5)
 have W : ∀ (H : H) (D : List Chg) (j : Nat), H.WF -> OutAt H (fun _ => True) p m D -> (∀ d ∈ D, d.gone = false) -> D.length ≤ 1 -> H.get j = some (.row (chN x29)) -> j ≠ p -> j ≠ m -> Acalls Tryz.prog 12 [.ptr p 1 0, .agg [.int .i64 1, .int .u64 0, .str [10, 0, 0, 0], .int .i64 8], .sl j 23 0 1 (some 1)] H (zij (fun _ => True) H p m (zaZ x29.n.p D [x29]) (zbg x29.n.p D [x29]) (zb8 x29.n.p D [x29])) := fun H D j w x hD hl hj j1 j2 =>
  zb4 (L := [x29]) (es := [chN x29]) (v := .sl j 23 0 1 (some 1)) (px := x29.n.p) w x hD (fun h9 bt => zh6 zka (by rw [bt.keep j (w.lt hj) j1 j2]; exact hj)) (by simpa using zx) (by omega) (by simp)
 have W0 : ∀ (H : H) (D : List Chg), H.WF -> OutAt H (fun _ => True) p m D -> (∀ d ∈ D, d.gone = false) -> D.length ≤ 1 -> Acalls Tryz.prog 12 [.ptr p 1 0, .agg [.int .i64 1, .int .u64 0, .str [10, 0, 0, 0], .int .i64 8], .nilsl] H (zij (fun _ => True) H p m (zaZ x29.n.p D []) (zbg x29.n.p D []) (zb8 x29.n.p D [])) := fun H D w x hD hl =>
  zb4 (L := []) (es := []) (v := .nilsl) (px := x29.n.p) w x hD (fun h9 bt => ⟨zdw _ _, rfl, by simp⟩) (by simp) (by omega) (by simp)
 simp [chN, chC, zac, attM]
 refine zc0 (fun H => H.WF ∧ H.next = h1.next + 2 ∧ Ge h1 H ∧ H.get h1.next = some (.row (chN x29)) ∧ H.get (h1.next + 1) = some (.row (chN x29))) ⟨?_, ?_, ?_, ?_, ?_⟩ fun h2 ⟨w2, n2, g2, b2, s2⟩ => ?_
 ·repeat' (first | exact w1 | refine H.WF.push ?_ _ | refine H.WF.set ?_ (by simp) _)
 ·simp
 ·repeat' (first | exact Ge.refl _ | refine Ge.push ?_ _ | refine Ge.set ?_ (by omega) _)
 ·simp [chN, chC, x29, zac, attM]
 ·simp [chN, chC, x29, zac, attM]
 have x2 := x1.ge w1 g2
 obtain ⟨r1, r2, r3⟩ := zoI
 have W1 := W h2 [] (h1.next + 1) w2 x2 (by simp) (by simp) s2 (by omega) (by omega)
 rw [r1, r2, r3] at W1
 refine W1.mono ?_
 rintro _ h3 ⟨k3, a3, e3, rfl, bt3, w3, m3, l3, x3, ls3⟩
 have n3 := bt3.next
 have b3 : h3.get h1.next = some (.row (chN x29)) := by rw [bt3.keep _ (by omega) (by omega) (by omega)]; exact b2
 have c3 : zab h3.get h1.next 23 = some (chN x29) := (zag (n := 23) b3 rfl).trans rfl
 have x3' : OutAt h3 (fun _ => True) p m [x29] := x3.mono fun _ _ _ => trivial
 simp only [chN, chC, x29, zac, attM] at c3
 simp [c3]
 refine zc0 (fun H => H.WF ∧ H.next = h3.next + 1 ∧ Ge h3 H ∧ H.get h3.next = some (.row (chN x29))) ⟨w3.push _, by simp, (Ge.refl _).push _, by simp [chN, chC, x29, zac, attM]⟩ fun h4 ⟨w4, n4, g4, s4⟩ => ?_
 have x4 := x3'.ge w3 g4
 obtain ⟨r4, r5, r6⟩ := zqM
 have W2 := W h4 [x29] h3.next w4 x4 (by simp [x29, zac]) (by simp) s4 (by omega) (by omega)
 rw [r4, r5, r6] at W2
 refine W2.mono ?_
 rintro _ h5 ⟨k5, a5, e5, rfl, bt5, w5, m5, l5, x5, ls5⟩
 have n5 := bt5.next
 have b5 : h5.get h1.next = some (.row (chN x29)) := by rw [bt5.keep _ (by omega) (by omega) (by omega), g4.2 _ (by omega)]; exact b3
 have c5 : zab h5.get h1.next 23 = some (chN x29) := (zag (n := 23) b5 rfl).trans rfl
 have x5' : OutAt h5 (fun _ => True) p m [x29] := x5.mono fun _ _ _ => trivial
 simp only [chN, chC, x29, zac, attM] at c5
 simp [c5]
 obtain ⟨r7, r8, r9⟩ := zq8
 have W3 := W0 h5 [x29] w5 x5' (by simp [x29, zac]) (by simp)
 rw [r7, r8, r9] at W3
 refine W3.mono ?_
 rintro _ h6 ⟨k6, a6, e6, rfl, bt6, w6, m6, l6, x6, ls6⟩
 have n6 := bt6.next
 have b6 : h6.get h1.next = some (.row (chN x29)) := by rw [bt6.keep _ (by omega) (by omega) (by omega)]; exact b5
 have c6 : zab h6.get h1.next 23 = some (chN x29) := (zag (n := 23) b6 rfl).trans rfl
 have la : LfP h6 (fun j => k3 ≤ j) a3 [x29] e3 := (((ls3.ge g4).keep bt5.next fun j hj hl => bt5.keep j hl (by omega) (by omega))).keep bt6.next fun j hj hl => bt6.keep j hl (by omega) (by omega)
 have lb : LfP h6 (fun j => k5 ≤ j) a5 [] e5 := ls5.keep bt6.next fun j hj hl => bt6.keep j hl (by omega) (by omega)
 obtain ⟨pp, qq, o, cs, vp, vc, vx, vl, vk, i1, _, i2, i3, i4, _, _, i5⟩ := (la.ls.at (by simp)).atG w6 (k := 0) (by simp)
 obtain ⟨pp', qq', o', cs', vp', vc', vx', vl', vk', j1, _, j2, j3, j4, _, _, j5⟩ := (ls6.ls.at (by simp)).atG w6 (k := 0) (by simp)
 have i2' := i2 h6 (Ge.refl _)
 have j2' := j2 h6 (Ge.refl _)
 have i6 := i5 0 (by omega)
 have i7 := i5 11 (by omega)
 have j6 := j5 0 (by omega)
 have j7 : (cs'.drop (o' + 1)).take 6 = nlC (za2 x29).n := (zm5 (a := 1) (n := 6) j4 (by omega)).trans rfl
 have o7 : o' + 1 + 6 ≤ cs'.length := by omega
 have en := zo8 (za2 x29).n x29.n
 have en2 : decide ((za2 x29).n = x29.n) = true := by decide +kernel
 rw [en2] at en
 simp [chC, x29, zac, attM] at i6 i7
 simp [chC, za2] at j6
 have i1' := i1 .i64
 have j1' := j1 .i64
 simp at i1' j1'
 have c1 := la.len h6.get
 have c2 := lb.len h6.get
 have c4 := ls6.len h6.get
 simp only [List.length_cons, List.length_nil, Nat.zero_add] at c1 c2 c4
 have z0 : ((0 : Nat) : Int) = 0 := rfl
 simp only [nlC, za2, x29, zac, z0] at j7 en
 simp only [chN, chC, x29, zac, attM] at c6
 simp
 refine zcD ?_
 simp [c1, c2, c4, i1', i2', i6, i7, j1', j2', j6, j7, o7, c6, en]
 refine zfJ (zfw x6) ?_
 simp
 have := g1.1
 exact ⟨by omega, fun k hk => by rw [bt6.keep k (by omega) (by omega) (by omega), bt5.keep k (by omega) (by omega) (by omega), g4.2 k (by omega), bt3.keep k (by omega) (by omega) (by omega), g2.2 k (by omega), g1.2 k hk]⟩
end Go.Am

namespace Go.Am
open Go.Proofs

set_option maxRecDepth 100000
structure Stq where
 at' : Nat
 ids : Nat
 med : Nat
end Go.Am

namespace Go.Am
open Go.Proofs

set_option maxRecDepth 100000
theorem OutAt.rise {h : H} {R : Nat -> Prop} {p m : Nat} {D : List Chg} (x : OutAt h R p m D) : Rise cmpC D := x.held.rise
theorem zj8 {h : H} {m : Nat} {es : List (V × V)} {bs : List Nat} {tk : Nat} (o : O) (e : h.get m = some (.mapo es bs tk)) : ∀ (j s : Nat) (cs : List V), h.get j = some (.grow s cs) -> (h.set m o).get j = some (.grow s cs) := fun j s cs hj => by
 have : j ≠ m := fun e2 => by subst e2; rw [e] at hj; cases hj
 simp [this, hj]
theorem zjh {h : H} {R : Nat -> Prop} {p m : Nat} {D0 : List Chg} (wf : h.WF) (x : OutAt h R p m D0) {D : List Chg} (r : Rise cmpC D) (z : ∀ c ∈ D, AttSz c.att) : ∃ g, But h g p m ∧ g.WF ∧ OutAt g (fun j => h.next ≤ j ∧ j < g.next) p m D := by
 obtain ⟨es0, bs0, tk0, L0, a0, _⟩ := x.held
 obtain ⟨lp, lm, lpm⟩ := x.lt wf
 obtain ⟨es, g, gg, w, ar⟩ := zfA D wf z
 have gm := (gg.2 m lm).trans a0
 have lmg := w.lt gm
 obtain ⟨ents, he⟩ : ∃ e : List (V × V), e = (List.range D.length).map fun i => (kyV (zae (D.getD i chg0)), V.agg (es.getD i [])) := ⟨_, rfl⟩
 obtain ⟨bs, hbs⟩ : ∃ b : List Nat, b = List.range D.length := ⟨_, rfl⟩
 refine ⟨g.set m (.mapo ents bs D.length), ⟨gg.1, fun j hj h1 h2 => ?_⟩, w.set lmg _, ⟨?_, ⟨ents, bs, D.length, D, by simp, ⟨by rw [he, hbs]; simp, by rw [hbs]; exact List.nodup_range, fun b hb => by rw [hbs] at hb; simpa using hb⟩, ⟨List.Perm.refl _, r⟩, by rw [he]; simp, fun i c hi => ?_⟩⟩⟩
 ·simp [h2]; exact gg.2 j hj
 ·simp [lpm]; exact (gg.2 p lp).trans x.row
 ·obtain ⟨e, e1, f⟩ := ar.2 i c hi
  have hl : i < D.length := (List.getElem?_eq_some_iff.1 hi).1
  refine ⟨e, ?_, (f.mono (R' := fun j => h.next ≤ j ∧ j < g.next) fun j hj hr => ⟨hr, hj⟩).keep (by simp) fun j s cs _ _ => zj8 _ gm j s cs⟩
  rw [he, List.getElem?_map, List.getElem?_range hl]
  simp [List.getD_eq_getElem?_getD, hi, e1]
theorem zfs {h : H} {R : Nat -> Prop} {p m : Nat} {D0 D out : List Chg} {err : Int} (wf : h.WF) (x : OutAt h R p m D0) (r : Rise cmpC D) (z : ∀ c ∈ D, AttSz c.att) (zo : ∀ c ∈ out, AttSz c.att) : ∃ v h', zij R h p m D out err v h' := by
 obtain ⟨g, b, w, y⟩ := zjh wf x r z
 obtain ⟨v, es, g2, a2, w2, f⟩ := zmD w zo
 have := b.next
 have := a2.1
 have yl := x.lt wf
 exact ⟨_, g2, g.next, v, es, rfl, ⟨by omega, fun j hj h1 h2 => by rw [a2.2 j (by omega)]; exact b.keep j hj h1 h2⟩, w2, b.next, a2.1, (y.ge w a2).mono fun j _ hj => .inr hj, f⟩
end Go.Am

namespace Go.Am
open Go.Proofs

set_option maxRecDepth 100000
theorem zgg {h h' : H} {R0 : Nat -> Prop} {p m : Nat} {D : List Chg} (x : OutAt h R0 p m D) (b : But h h' p m) {R : Nat -> Prop} {u : V} {M : List Chg} {gs : List (List V)} (l : LfP h R u M gs) : LfP h' R u M gs := by
 obtain ⟨es, bs, tk, L, a1, _⟩ := x.held
 exact l.keepG b.next fun j sz cs hr hj e => by
  rw [b.keep j hj (fun e2 => by subst e2; rw [x.row] at e; cases e) (fun e2 => by subst e2; rw [a1] at e; cases e)]; exact e
end Go.Am

namespace Go.Am
open Go.Proofs

set_option maxRecDepth 100000
theorem zir : Fr.plainRun (Fr.runO8 [] Fr.q.tab 100000 60) 63 [.str [118, 52, 32, 49, 49, 46, 48, 46, 48, 46, 48, 47, 56]] = some (.tup [.agg [.int .i64 1, .int .u64 0, .str [11, 0, 0, 0], .int .i64 8], .int .i64 0]) := by kernel_rfl
theorem zjj (h : H) : Pure Tryz.prog 63 [.str [118, 52, 32, 49, 49, 46, 48, 46, 48, 46, 48, 47, 56]] h (.tup [.agg [.int .i64 1, .int .u64 0, .str [11, 0, 0, 0], .int .i64 8], .int .i64 0]) := zgr p_no Fr.q.tab_ok zir h
def elK : Chg := ⟨false, ⟨⟨1, 0, [11, 0, 0, 0], 8⟩, 0, 0⟩, attM 1⟩
theorem ziM {h : H} : Pure Tryz.prog 22 [.str [118, 52, 32, 49, 49, 46, 48, 46, 48, 46, 48, 47, 56], .int .u32 0, .int .u32 1] h (.agg (chN elK)) := by
 refine zah Tryz.func22 S.a9c S.a9e rfl (Nat.le_of_ble_eq_true rfl) fun wf => ?_; simp only [S.a9]
 simp
 refine zjj _ _ ?_
 simp [chN, chC, elK, attM]
 exact ((((Ge.refl _).push _).push _).set (by omega) _).set (Nat.le_refl _) _
theorem zhD {g : Nat -> Option O} {j : Nat} {L : List Chg} (hL : ∀ c ∈ L, NoL c.att) (hj : g j = some (.row (L.map chN).flatten)) (hb : L.length < 1000) : CsAt g (.sl j (L.length * 23) 0 L.length (some L.length)) L (L.map chN) := by
 have hl : ∀ e ∈ L.map chN, e.length = 23 := fun e he => by
  obtain ⟨c, _, rfl⟩ := List.mem_map.1 he
  rfl
 have fl := zas hl
 rw [List.length_map] at fl
 refine ⟨⟨.inr ⟨j, L.length * 23, 0, some L.length, by simp⟩, hl, ?_, by simp; omega⟩, by simp, fun i c hi => ?_⟩
 ·rw [zaE]
  split
  ·rename_i h0
   have : L = [] := List.eq_nil_of_length_eq_zero h0
   subst this; rfl
  ·rw [zag hj (by simpa using fl)]
   simp only [zgh, Nat.zero_add]
   rw [if_pos (by rw [fl]; exact Nat.le_refl _), List.drop_zero, <- fl, List.take_length, List.length_map]
 ·refine ⟨chN c, by rw [List.getElem?_map, hi]; rfl, .nilsl, .nilsl, .nilsl, .nilsl, .nilsl, rfl, ?_⟩
  obtain ⟨a1, a2, a3, a4, a5⟩ := hL c (List.mem_of_getElem? hi)
  exact zi0 g a1 a2 a3 a4 a5
theorem zhx {h : H} : Pure Tryz.prog 43 [.nilptr] h (.bool true) := by
 refine zah Tryz.func43 S.a11c S.a11e rfl (Nat.le_of_ble_eq_true rfl) fun wf => ?_; simp only [S.a11]
 have eqp : eqV TS.ptr .nilptr .nilptr = some true := rfl
 simp [eqp]
theorem zpx {h : H} {j : Nat} (hj : h.get j = some (.row [.nilmap])) : Pure Tryz.prog 43 [.ptr j 1 0] h (.bool true) := by
 refine zah Tryz.func43 S.a11c S.a11e rfl (Nat.le_of_ble_eq_true rfl) fun wf => ?_; simp only [S.a11]
 have c : zab h.get j 1 = some [.nilmap] := (zag (n := 1) hj rfl).trans rfl
 have eqp : eqV TS.ptr (.ptr j 1 0) .nilptr = some false := rfl
 have eqm : eqV TS.map .nilmap .nilmap = some true := rfl
 simp [eqp, c, eqm]
theorem zoy {h : H} {p : Pfx} : Pure Tryz.prog 12 [.nilptr, .agg (pfxC p), .nilsl] h (.tup [.nilsl, .int .i64 1]) := by
 refine zah Tryz.func12 S.a2c S.a2e rfl (Nat.le_of_ble_eq_true rfl) fun wf => ?_; simp only [S.a2]
 simp [pfxC]
 refine zhx _ ?_
 simp
 repeat' (first | exact Ge.refl _ | refine Ge.push ?_ _ | refine Ge.set ?_ (by omega) _)
theorem ziu {h : H} {j : Nat} {p : Pfx} (hj : h.get j = some (.row [.nilmap])) : Pure Tryz.prog 12 [.ptr j 1 0, .agg (pfxC p), .nilsl] h (.tup [.nilsl, .int .i64 1]) := by
 refine zah Tryz.func12 S.a2c S.a2e rfl (Nat.le_of_ble_eq_true rfl) fun wf => ?_; simp only [S.a2]
 have hl := wf.lt hj
 simp [pfxC]
 refine zpx (j := j) (by simp [Nat.ne_of_lt hl, hj]) _ ?_
 simp
 repeat' (first | exact Ge.refl _ | refine Ge.push ?_ _ | refine Ge.set ?_ (by omega) _)
theorem zlF {h : H} : Pure Tryz.prog 17 [.nilptr] h (.int .i64 0) := by
 refine zah Tryz.func17 S.a5c S.a5e rfl (Nat.le_of_ble_eq_true rfl) fun wf => ?_; simp only [S.a5]
 simp
 refine zhx _ ?_
 simp
theorem zor {h : H} : Pure Tryz.prog 20 [.nilptr] h (.int .i64 0) := by
 refine zah Tryz.func20 S.a7c S.a7e rfl (Nat.le_of_ble_eq_true rfl) fun wf => ?_; simp only [S.a7]
 simp
 refine zlF _ ?_
 simp
theorem zoC {h : H} {fam : Int} : Pure Tryz.prog 15 [.nilptr, .int .i64 fam] h .nilsl := by
 refine zah Tryz.func15 S.a3c S.a3e rfl (Nat.le_of_ble_eq_true rfl) fun wf => ?_; simp only [S.a3]
 simp
 refine zhx _ ?_
 simp
theorem zne {h : H} : Pure Tryz.prog 23 [.nilptr] h .nilptr := by
 refine zah Tryz.func23 S.a10c S.a10e rfl (Nat.le_of_ble_eq_true rfl) fun wf => ?_; simp only [S.a10]
 simp
 refine zhx _ ?_
 simp
def goK : Chg := ⟨true, x29.n, attM 5⟩
def labK : Chg := ⟨false, ⟨x29.n.p, 0, 16⟩, att0⟩
def oriK : Chg := ⟨false, ⟨x29.n.p, 0, 0⟩, { att0 with origin := 3 }⟩
def zdX : List (List Chg) := [[goK], [elK], [x29, x29], [labK], [oriK]]
theorem zk5 : ∀ L ∈ zdX, zbP x29.n.p L = false ∧ L.length ≤ 2 ∧ ∀ c ∈ L, NoL c.att := by
 intro L hL
 simp only [zdX, List.mem_cons, List.not_mem_nil, or_false] at hL
 rcases hL with rfl | rfl | rfl | rfl | rfl
 ·exact ⟨by decide +kernel, by decide, fun c hc => by simp at hc; subst hc; exact zd0 _⟩
 ·exact ⟨by decide +kernel, by decide, fun c hc => by simp at hc; subst hc; exact zd0 _⟩
 ·exact ⟨by decide +kernel, by decide, fun c hc => by simp at hc; subst hc; exact zd0 _⟩
 ·exact ⟨by decide +kernel, by decide, fun c hc => by simp at hc; subst hc; exact ⟨rfl, rfl, rfl, rfl, rfl⟩⟩
 ·exact ⟨by decide +kernel, by decide, fun c hc => by simp at hc; subst hc; exact ⟨rfl, rfl, rfl, rfl, rfl⟩⟩
theorem zcP {a : Att} (h : NoL a) : AttSz a := by
 obtain ⟨a1, a2, a3, a4, a5⟩ := h
 exact ⟨by simp [a1], by simp [a1], by simp [a2], by simp [a3], by simp [a4], by simp [a5]⟩
def slK (j : Nat) : List V := [.sl j 23 0 1 (some 1), .sl (j + 1) 23 0 1 (some 1), .sl (j + 2) 46 0 2 (some 2), .sl (j + 3) 23 0 1 (some 1), .sl (j + 4) 23 0 1 (some 1)]
theorem zoT (j : Nat) : ∀ (i : Nat) (hi : i < 5), (slK j)[i]? = some (.sl (j + i) ((zdX[i]'hi).length * 23) 0 (zdX[i]'hi).length (some (zdX[i]'hi).length))
 | 0, _ => rfl
 | 1, _ => rfl
 | 2, _ => rfl
 | 3, _ => rfl
 | 4, _ => rfl
 | n + 5, h => absurd h (by omega)
end Go.Am

namespace Go.Am
open Go.Proofs

set_option maxRecDepth 100000
set_option pp.maxSteps 200000
theorem zjx {P : Program} {c : C} {Q : Exit -> Tm -> H -> Prop} {t : Tm} {h : H} (F : H -> Prop) (hF : F h) (k : ∀ h', F h' -> Cwp P c Q t h') : Cwp P c Q t h := k h hF
theorem zlt {body : (Exit -> Tm -> H -> Prop) -> Tm -> H -> Prop} {Q : Exit -> Tm -> H -> Prop} {t : Tm} {h : H} (F : H -> Prop) (hF : F h) (k : ∀ h', F h' -> zeT body Q t h') : zeT body Q t h := k h hF
theorem ev22 {h : H} {s : List UInt8} {id med : Nat} {c : Chg} {e k : Nat} (hc : ∀ h, Pure Tryz.prog 22 [.str s, .int .u32 (id : Nat), .int .u32 (med : Nat)] h (.agg (chN c))) : zee Tryz.prog (.func (.func 22) [] []) [.str s, .int .u32 (id : Nat), .int .u32 (med : Nat)] h.get k e (.agg (chN c)) [] [] := by
 refine ⟨by simp, by simp [chN, chC, V.ids, V.idss], by simp, fun h2 _ _ => ?_⟩
 simp
 refine hc h2 _ ⟨?_, rfl⟩
 simp [chN, chC, V.ren, V.rens]
def dK : List Chg := [zac 0 6, zac 1 5]
def eK : List Chg := [zac 0 6, zac 1 5, elK]
def fK : List Chg := [zac 1 5, elK]
theorem zoR : zaZ zgJ [] [] = [] ∧ zbg zgJ [] [] = [] ∧ zb8 zgJ [] [] = 2 := by decide +kernel
theorem zoN : mayP elK.n.p = true := by decide +kernel
theorem k_1 : zaZ x29.n.p [x29] [zac 1 5, zac 0 6] = dK ∧ zbg x29.n.p [x29] [zac 1 5, zac 0 6] = dK ∧ zb8 x29.n.p [x29] [zac 1 5, zac 0 6] = 0 := by
 have hb : zbP x29.n.p [zac 1 5, zac 0 6] = true := by decide +kernel
 have hf : zdv x29.n.p [x29] [zac 1 5, zac 0 6] = false := by decide +kernel
 refine ⟨?_, ?_, ?_⟩
 ·rw [zaZ, hb, zbb, hf]; decide +kernel
 ·rw [zbg, hb, zbb, hf]; decide +kernel
 ·rw [zb8, hb, zbb, hf]; rfl
theorem k_2 : zaZ elK.n.p dK [elK] = eK ∧ zb8 elK.n.p dK [elK] = 0 := by
 have hb : zbP elK.n.p [elK] = true := by decide +kernel
 have hf : zdv elK.n.p dK [elK] = false := by decide +kernel
 refine ⟨?_, ?_⟩
 ·rw [zaZ, hb, zoN, hf]; decide +kernel
 ·rw [zb8, hb, zoN, hf]; rfl
theorem k_3 : zaZ x29.n.p eK [zac 1 5] = fK ∧ zbg x29.n.p eK [zac 1 5] = [za2 (zac 0 6)] ∧ zb8 x29.n.p eK [zac 1 5] = 0 := by
 have hb : zbP x29.n.p [zac 1 5] = true := by decide +kernel
 have hf : zdv x29.n.p eK [zac 1 5] = false := by decide +kernel
 refine ⟨?_, ?_, ?_⟩
 ·rw [zaZ, hb, zbb, hf]; decide +kernel
 ·rw [zbg, hb, zbb, hf]; decide +kernel
 ·rw [zb8, hb, zbb, hf]; rfl
theorem zft {p : Pfx} {D L : List Chg} (r : Rise cmpC D) : Rise cmpC (zaZ p D L) := by
 unfold zaZ
 split
 ·split
  ·exact r
  ·exact zcg _ _ (zba _ r)
 ·exact r
theorem k_no : ∀ c ∈ [zac 1 5, zac 0 6, elK, x29, za2 (zac 0 6)], NoL c.att := by
 intro c hc
 simp only [List.mem_cons, List.not_mem_nil, or_false] at hc
 rcases hc with rfl | rfl | rfl | rfl | rfl <;> exact ⟨rfl, rfl, rfl, rfl, rfl⟩
theorem znD (h : H) : Pure Tryz.prog 5 [] h (.bool true) := by
 refine zah Tryz.func5 S.a0c S.a0e rfl (Nat.le_of_ble_eq_true rfl) fun wf => ?_; simp only [S.a0]
 simp
 refine zjw fun h1 g1 w1 x1 => ?_
 obtain ⟨p, hp⟩ : ∃ p, p = h.next + 1 := ⟨_, rfl⟩
 obtain ⟨m, hm⟩ : ∃ m, m = h.next := ⟨_, rfl⟩
 rw [<- hp, <- hm] at x1
 rw [<- hp]
 have lt1 := x1.lt w1
 have g1n := g1.1
 simp [zjZ]
 refine zbO (id := 0) (med := 5) _ ?_
 simp [chN, chC, zac, attM]
 refine zjx (fun H => H.WF ∧ H.next = h1.next + 2 ∧ Ge h1 H ∧ H.get h1.next = some (.row (chN x29)) ∧ H.get (h1.next + 1) = some (.row (pfxC x29.n.p))) ⟨?_, ?_, ?_, ?_, ?_⟩ fun h2 ⟨w2, n2, g2, b0, b1⟩ => ?_
 ·repeat' (first | exact w1 | refine H.WF.push ?_ _ | refine H.WF.set ?_ (by simp) _)
 ·simp
 ·repeat' (first | exact Ge.refl _ | refine Ge.push ?_ _ | refine Ge.set ?_ (by omega) _)
 ·simp [chN, chC, x29, zac, attM]
 ·simp [pfxC, x29, zac]
 obtain ⟨a, ha⟩ : ∃ a, a = h1.next := ⟨_, rfl⟩
 rw [<- ha] at n2 b0 b1 ⊢
 have cb0 : zab h2.get a 23 = some (chN x29) := (zag (n := 23) b0 rfl).trans rfl
 simp only [chN, chC, x29, zac, attM] at cb0
 refine zkp ?_
 simp [I.foot, zaT, cb0]
 have E := fun k e => ev22 (h := h2) (k := k) (e := e) (id := 0) (med := 1) (c := elK) fun h => ziM
 simp only [chN, chC, elK, attM] at E
 refine zlu (E _ _) ?_
 have rm : room = 16 := rfl
 have r1 : (h2.next + 2 * room = h2.next + 3 * room) = False := eq_false (by omega)
 have r2 : (3 * room = 2 * room) = False := eq_false (by omega)
 have r3 : (2 * room = 3 * room) = False := eq_false (by omega)
 simp [I.foot, zaT, za6, r2, r3]
 refine zni ?_ ?_
 ·simp [evAt, apart]
  omega
 refine zjx (fun H => H.WF ∧ a + 2 ≤ H.next ∧ Ge h2 H ∧ H.get (h2.next + 2 * room) = some (.row (chN x29)) ∧ H.get (h2.next + 3 * room) = some (.row (chN elK)) ∧ h2.next + 3 * room < H.next) ⟨?_, ?_, ?_, ?_, ?_, ?_⟩ fun h3 ⟨w3, n3, g3, b4, b5, n35⟩ => ?_
 ·intro k hk
  simp only at hk
  show upds _ _ k = none
  rw [za6, if_neg (by omega), za6, if_neg (by omega), za6, if_neg (by omega), za6, if_neg (by omega)]
  exact w2 k (by omega)
 ·simp only; omega
 ·refine ⟨by simp only; omega, fun k hk => ?_⟩
  show upds _ _ k = _
  rw [za6, if_neg (by omega), za6, if_neg (by omega), za6, if_neg (by omega), za6, if_neg (by omega)]
 ·simp [za6, r3, chN, chC, x29, zac, attM]
 ·simp [za6, chN, chC, elK, attM]
 ·simp only; omega
 obtain ⟨q4, hq4⟩ : ∃ q, q = h2.next + 2 * room := ⟨_, rfl⟩
 obtain ⟨q5, hq5⟩ : ∃ q, q = h2.next + 3 * room := ⟨_, rfl⟩
 rw [<- hq4, <- hq5]
 rw [<- hq4] at b4
 rw [<- hq5] at b5 n35
 have c4 : zab h3.get q4 23 = some (chN x29) := (zag (n := 23) b4 rfl).trans rfl
 have c5 : zab h3.get q5 23 = some (chN elK) := (zag (n := 23) b5 rfl).trans rfl
 have b03 := (g3.2 a (by omega)).trans b0
 have b13 := (g3.2 (a + 1) (by omega)).trans b1
 have c0 : zab h3.get a 23 = some (chN x29) := (zag (n := 23) b03 rfl).trans rfl
 have c1 : zab h3.get (a + 1) 4 = some (pfxC x29.n.p) := (zag (n := 4) b13 rfl).trans rfl
 simp only [chN, chC, x29, zac, attM, pfxC, elK] at c0 c1 c4 c5 b4
 have d45 : ¬ q5 = q4 := by omega
 have d04 : ¬ a = q4 := by omega
 have d14 : ¬ a + 1 = q4 := by omega
 have u1 : ∀ k, ¬ a = h3.next + k := fun k => by omega
 have u2 : ∀ k, ¬ q4 = h3.next + k := fun k => by omega
 have u3 : ∀ k, ¬ q5 = h3.next + k := fun k => by omega
 have u4 : ¬ a = h3.next := u1 0
 have u5 : ¬ q4 = h3.next := u2 0
 have u6 : ¬ q5 = h3.next := u3 0
 have sd : ∀ j a b c d, (V.sl j a b c d).solid = true := fun _ _ _ _ _ => rfl
 have u7 : ¬ a + 1 = h3.next := by omega
 simp [b4, c0, c1, c5, d45, d04, d14, u1, u4, u6, u7, zaq, sd]
 have e1 : h3.next + 1 + 1 = h3.next + 2 := rfl
 have e2 : h3.next + 2 + 1 = h3.next + 3 := rfl
 have e3 : h3.next + 3 + 1 = h3.next + 4 := rfl
 have e4 : h3.next + 4 + 1 = h3.next + 5 := rfl
 simp only [e1, e2, e3, e4]
 refine zlt (fun H => H.WF ∧ H.next = h3.next + 6 ∧ (∀ j, j < h3.next -> ¬ j = q4 -> H.get j = h3.get j) ∧ H.get (h3.next + 5) = some (.row (slK h3.next)) ∧ (∀ (i : Nat) (hi : i < 5), H.get (h3.next + i) = some (.row ((zdX[i]'hi).map chN).flatten))) ⟨?_, ?_, ?_, ?_, ?_⟩ fun h4 ⟨w4, n4, old, ys, yl⟩ => ?_
 ·repeat' (first | exact w3 | refine H.WF.push ?_ _ | refine H.WF.set ?_ (by first | omega | (simp; omega)) _)
 ·simp
 ·intro j hj hq
  have v1 : ∀ k, ¬ j = h3.next + k := fun k => by omega
  have v2 : ¬ j = h3.next := v1 0
  simp [v1, v2, hq]
  repeat rw [if_neg (by omega)]
 ·simp [slK]
 ·intro i hi
  have : i = 0 ∨ i = 1 ∨ i = 2 ∨ i = 3 ∨ i = 4 := by omega
  rcases this with rfl | rfl | rfl | rfl | rfl
  ·simp [zdX, goK, chN, chC, x29, zac, attM]
   repeat (first | rw [if_pos (by omega)] | rw [if_neg (by omega)])
  ·simp [zdX, elK, chN, chC, attM]
   repeat (first | rw [if_pos (by omega)] | rw [if_neg (by omega)])
  ·simp [zdX, chN, chC, x29, zac, attM]
   repeat (first | rw [if_pos (by omega)] | rw [if_neg (by omega)])
  ·simp [zdX, labK, chN, chC, x29, zac, att0]
   repeat (first | rw [if_pos (by omega)] | rw [if_neg (by omega)])
  ·simp [zdX, oriK, chN, chC, x29, zac, att0]
   repeat (first | rw [if_pos (by omega)] | rw [if_neg (by omega)])
 obtain ⟨b, hb⟩ : ∃ b, b = h3.next := ⟨_, rfl⟩
 rw [<- hb] at old ys yl n4 ⊢
 have gx1 : Ge h h3 := g1.trans (g2.trans g3)
 have x3 := (x1.ge w1 g2).ge w2 g3
 have gxn := gx1.1
 have lt3 := x3.lt w3
 have x4 : OutAt h4 (fun _ => True) p m [] := x3.keep (by omega) (old _ (by omega) (by omega)) (old _ (by omega) (by omega)) fun j s cs _ hj e => by
  rw [old j (by omega) (fun e2 => by subst e2; rw [b4] at e; cases e)]; exact e
 refine zcE (id := 0) (fun t h' => (t 1 = .ptr p 1 0 ∧ t 2 = .ptr a 23 0 ∧ t 3 = .ptr (a + 1) 4 0 ∧ t 5 = .ptr q5 23 0) ∧ h'.WF ∧ h3.next ≤ h'.next ∧ (∀ k, k < h.next -> h'.get k = h.get k) ∧ h'.get a = some (.row (chN x29)) ∧ h'.get (a + 1) = some (.row (pfxC x29.n.p)) ∧ h'.get q5 = some (.row (chN elK)) ∧ OutAt h' (fun _ => True) p m []) (fun Rn hRn => ?_) ?_
 ·refine zaK (fun i t h' => (t 1 = .ptr p 1 0 ∧ t 2 = .ptr a 23 0 ∧ t 3 = .ptr (a + 1) 4 0 ∧ t 5 = .ptr q5 23 0 ∧ t 45 = .sl (b + 5) 5 0 5 (some 5) ∧ t 46 = .int .i64 5 ∧ t 47 = .int .i64 (i : Nat)) ∧ h'.WF ∧ b + 6 ≤ h'.next ∧ (∀ k, k < h.next -> h'.get k = h.get k) ∧ h'.get a = some (.row (chN x29)) ∧ h'.get (a + 1) = some (.row (pfxC x29.n.p)) ∧ h'.get q5 = some (.row (chN elK)) ∧ h'.get (b + 5) = some (.row (slK b)) ∧ (∀ (i : Nat) (hi : i < 5), h'.get (b + i) = some (.row ((zdX[i]'hi).map chN).flatten)) ∧ OutAt h' (fun _ => True) p m []) 5
   ⟨by simp, w4, by omega, fun k hk => by rw [old k (by omega) (by omega)]; exact gx1.2 k hk, by rw [old a (by omega) (by omega)]; exact b03, by rw [old (a + 1) (by omega) (by omega)]; exact b13, by rw [old q5 (by omega) (by omega)]; exact b5, ys, yl, x4⟩ ?_
  clear ys yl x4 w4
  rintro i t h' hi ⟨⟨t1, t2, t3, t5, t45, t46, t47⟩, wb, nb, kb, y0, y1, y5, ys, yl, x⟩ K hK
  by_cases hlt : i < 5
  ·have hlt2 : (i : Int) < 5 := by omega
   obtain ⟨L, hL⟩ : ∃ L, L = zdX[i]'hlt := ⟨_, rfl⟩
   obtain ⟨f1, f2, f3⟩ := zk5 L (by rw [hL]; exact List.getElem_mem _)
   have yL := yl i hlt
   have sl := zoT b i hlt
   rw [<- hL] at yL sl
   have ix : zaz 1 (.sl (b + 5) 5 0 5 (some 5)) (.int .i64 (i : Nat)) = some (.ptr (b + 5) 5 i) := by
    simp [zaz, hlt2]
   have cS : zab h'.get (b + 5) 5 = some (slK b) := (zag (n := 5) ys rfl).trans rfl
   have cP : zab h'.get (a + 1) 4 = some (pfxC x29.n.p) := (zag (n := 4) y1 rfl).trans rfl
   have ltL := wb.lt yL
   have W := zb4 (px := x29.n.p) (L := L) (es := L.map chN) (v := .sl (b + i) (L.length * 23) 0 L.length (some L.length)) wb x (by simp) (fun h9 bt => zhD f3 (by rw [bt.keep _ ltL (by omega) (by omega)]; exact yL) (by omega)) (fun c hc => zcP (f3 c hc)) (by simp) (by omega)
   have d0 : zaZ x29.n.p [] L = [] := by rw [zaZ, f1]; rfl
   have o0 : zbg x29.n.p [] L = [] := by rw [zbg, f1]; rfl
   have er : zb8 x29.n.p [] L = 2 := by rw [zb8, f1]; rfl
   rw [d0, o0, er] at W
   simp only [pfxC, x29, zac] at cP W
   simp [t1, t3, t45, t46, t47, hlt2, ix, cS, sl, cP]
   refine W.mono ?_
   rintro _ h4 ⟨nk, wa, ea, rfl, bt, w4, hnk, hnk2, x4, la⟩
   have n4 := bt.next
   have wi : IntKind.i64.wrap ((i : Int) + 1) = (i : Int) + 1 := zap (by omega) (by omega)
   simp [t47, wi]
   have kp : ∀ {j : Nat} {o : O}, h'.get j = some o -> j ≠ p -> j ≠ m -> h4.get j = some o := fun hj e1 e2 => by rw [bt.keep _ (wb.lt hj) e1 e2]; exact hj
   refine hK _ _ hlt ⟨by simp [t1, t2, t3, t5, t45, t46], w4, by omega, fun k hk => ?_, kp y0 (by omega) (by omega), kp y1 (by omega) (by omega), kp y5 (by omega) (by omega), kp ys (by omega) (by omega), fun i hi => kp (yl i hi) (by omega) (by omega), x4.mono fun _ _ _ => trivial⟩
   have := gx1.1
   rw [bt.keep k (by omega) (by omega) (by omega)]; exact kb k hk
  ·have hi5 : i = 5 := by omega
   subst hi5
   simp [t46, t47]
   exact hRn _ _ ⟨by simp [t1, t2, t3, t5], wb, by omega, kb, y0, y1, y5, x⟩
 rintro t h5 ⟨⟨t1, t2, t3, t5⟩, w5, n5, k5, y0, y1, y5, x5⟩
 clear u1 u2 u3 u4 u5 u6 u7
 obtain ⟨z1, z2, z3⟩ := zoR
 have W0 := zb4 (px := zgJ) (L := []) (es := []) (v := .nilsl) w5 x5 (by simp) (fun h9 bt => ⟨zdw _ _, rfl, by simp⟩) (by simp) (by simp) (by simp)
 rw [z1, z2, z3] at W0
 simp only [pfxC, zgJ] at W0
 simp [t1]
 refine W0.mono ?_
 rintro _ h6 ⟨nk, wa, ea, rfl, bt, w6, hnk, hnk2, x6, la⟩
 have n6 := bt.next
 have o6 := la.one
 have pa := lt1
 have y06 : h6.get a = some (.row (chN x29)) := by rw [bt.keep _ (by omega) (by omega) (by omega)]; exact y0
 have y16 : h6.get (a + 1) = some (.row (pfxC x29.n.p)) := by rw [bt.keep _ (by omega) (by omega) (by omega)]; exact y1
 have y56 : h6.get q5 = some (.row (chN elK)) := by rw [bt.keep _ (by omega) (by omega) (by omega)]; exact y5
 have k6 : ∀ k, k < h.next -> h6.get k = h.get k := fun k hk => by
  have := gx1.1
  rw [bt.keep k (by omega) (by omega) (by omega)]; exact k5 k hk
 clear la
 have x6' : OutAt h6 (fun _ => True) p m [] := x6.mono fun _ _ _ => trivial
 have c06 : zab h6.get a 23 = some (chN x29) := (zag (n := 23) y06 rfl).trans rfl
 have c16 : zab h6.get (a + 1) 4 = some (pfxC x29.n.p) := (zag (n := 4) y16 rfl).trans rfl
 simp only [chN, chC, x29, zac, attM, pfxC] at c06 c16
 simp [t1, t2, t3, c06, c16]
 refine zc0 (fun H => H.WF ∧ H.next = h6.next + 1 ∧ Ge h6 H ∧ H.get h6.next = some (.row (chN x29))) ⟨w6.push _, by simp, (Ge.refl _).push _, by simp [chN, chC, x29, zac, attM]⟩ fun h7 ⟨w7, n7, g7, s7⟩ => ?_
 have x7 := x6'.ge w6 g7
 obtain ⟨r1, r2, r3⟩ := zoI
 have W1 := zb4 (L := [x29]) (es := [chN x29]) (v := .sl h6.next 23 0 1 (some 1)) (px := x29.n.p) w7 x7 (by simp) (fun h9 bt => zh6 zka (by rw [bt.keep _ (by omega) (by omega) (by omega)]; exact s7)) (fun c hc => zcP (by simp at hc; subst hc; exact zka)) (by simp) (by simp)
 rw [r1, r2, r3] at W1
 simp only [pfxC, x29, zac] at W1
 refine W1.mono ?_
 rintro _ h8 ⟨nk1, wa1, ea1, rfl, bt1, w8, hnk1, hnk3, x8, la1⟩
 have n8 := bt1.next
 have o8 := la1.one
 have y18 : h8.get (a + 1) = some (.row (pfxC x29.n.p)) := by rw [bt1.keep _ (by omega) (by omega) (by omega), g7.2 _ (by omega)]; exact y16
 have y58 : h8.get q5 = some (.row (chN elK)) := by rw [bt1.keep _ (by omega) (by omega) (by omega), g7.2 _ (by omega)]; exact y56
 have k8 : ∀ k, k < h.next -> h8.get k = h.get k := fun k hk => by
  have := gx1.1
  rw [bt1.keep k (by omega) (by omega) (by omega), g7.2 k (by omega)]; exact k6 k hk
 clear la1
 have x8' : OutAt h8 (fun _ => True) p m [x29] := x8.mono fun _ _ _ => trivial
 have c18 : zab h8.get (a + 1) 4 = some (pfxC x29.n.p) := (zag (n := 4) y18 rfl).trans rfl
 simp only [x29, zac, pfxC] at c18
 simp
 refine zb0 [a + 1] [0, 2, 1, 1, 1, 0, 0, 0, 0, 0, 0] rfl (by rfl) ?_
 simp [t1, t3, c18, I.foot, zaT]
 refine zbv (zbO (id := 1) (med := 5)) (by decide) (fun _ => fun k hk => rfl) ?_
 simp [chN, chC, zac, attM]
 refine zbv (zbO (id := 0) (med := 6)) (by decide) (fun _ => fun k hk => rfl) ?_
 simp [chN, chC, zac, attM, zaq]
 refine ⟨fun k hk => ?_, ?_⟩
 ·simp only [List.mem_cons, List.not_mem_nil, or_false] at hk
  subst hk
  rw [H.get_push, if_neg (by omega)]
 obtain ⟨h9, hh9⟩ : ∃ h9, h9 = h8.push (.row ([zac 1 5, zac 0 6].map chN).flatten) := ⟨_, rfl⟩
 have e9 := hh9
 simp [chN, chC, zac, attM] at e9
 rw [<- e9]
 have g9 : Ge h8 h9 := by rw [hh9]; exact (Ge.refl _).push _
 have w9 : h9.WF := by rw [hh9]; exact w8.push _
 have n9 : h9.next = h8.next + 1 := by rw [hh9]; simp
 have s9 : h9.get h8.next = some (.row ([zac 1 5, zac 0 6].map chN).flatten) := by rw [hh9]; simp
 have x9 := x8'.ge w8 g9
 obtain ⟨r4, r5, r6⟩ := k_1
 have no2 : ∀ c ∈ [zac 1 5, zac 0 6], NoL c.att := fun c hc => k_no c (by simp at hc ⊢; rcases hc with rfl | rfl <;> simp)
 have W2 := zb4 (L := [zac 1 5, zac 0 6]) (es := [zac 1 5, zac 0 6].map chN) (v := .sl h8.next 46 0 2 (some 2)) (px := x29.n.p) w9 x9 (by simp [x29, zac]) (fun h9 bt => zhD (L := [zac 1 5, zac 0 6]) no2 (by rw [bt.keep _ (by omega) (by omega) (by omega)]; exact s9) (by simp)) (fun c hc => zcP (no2 c hc)) (by simp) (by simp)
 rw [r4, r5, r6] at W2
 have dR : Rise cmpC dK := by
  have := r4 ▸ zft (p := x29.n.p) (L := [zac 1 5, zac 0 6]) x9.rise
  exact this
 have dZ : ∀ c ∈ dK, AttSz c.att := fun c hc => zcP (no2 c (by simp [dK] at hc ⊢; rcases hc with rfl | rfl <;> simp))
 have WS2 : ∃ v' g', zij (fun _ => True) h9 p m dK dK 0 v' g' := zfs w9 x9 dR dZ dZ
 simp only [pfxC, x29, zac] at W2
 refine ⟨by decide, _, WS2, W2, ?_⟩
 rintro _ h10 ⟨nk2, wc, ec, rfl, bt2, w10, hnk4, hnk5, x10, lc⟩
 refine ⟨fun e => (by cases e), ?_⟩
 have n10 := bt2.next
 have o10 := lc.one
 have y110 : h10.get (a + 1) = some (.row (pfxC x29.n.p)) := by rw [bt2.keep _ (by omega) (by omega) (by omega), g9.2 _ (by omega)]; exact y18
 have y510 : h10.get q5 = some (.row (chN elK)) := by rw [bt2.keep _ (by omega) (by omega) (by omega), g9.2 _ (by omega)]; exact y58
 have k10 : ∀ k, k < h.next -> h10.get k = h.get k := fun k hk => by
  have := gx1.1
  rw [bt2.keep k (by omega) (by omega) (by omega), g9.2 k (by omega)]; exact k8 k hk
 have x10' : OutAt h10 (fun _ => True) p m dK := x10.mono fun _ _ _ => trivial
 have c510 : zab h10.get q5 23 = some (chN elK) := (zag (n := 23) y510 rfl).trans rfl
 simp only [chN, chC, elK, attM] at c510
 simp [t1, t5, c510]
 refine zc0 (fun H => H.WF ∧ H.next = h10.next + 1 ∧ Ge h10 H ∧ H.get h10.next = some (.row (chN elK))) ⟨w10.push _, by simp, (Ge.refl _).push _, by simp [chN, chC, elK, attM]⟩ fun h11 ⟨w11, n11, g11, s11⟩ => ?_
 have x11 := x10'.ge w10 g11
 have lc11 := lc.ge g11
 obtain ⟨r7, r9⟩ := k_2
 have W3 := zb4 (L := [elK]) (es := [chN elK]) (v := .sl h10.next 23 0 1 (some 1)) (px := elK.n.p) w11 x11 (by simp [dK, zac]) (fun h9 bt => zh6 (zd0 1) (by rw [bt.keep _ (by omega) (by omega) (by omega)]; exact s11)) (fun c hc => zcP (by simp at hc; subst hc; exact zd0 1)) (by simp [dK]) (by simp)
 rw [r7, r9] at W3
 simp only [pfxC, elK] at W3
 refine W3.mono ?_
 rintro _ h12 ⟨nk3, wd, ed, rfl, bt3, w12, hnk6, hnk7, x12, ld⟩
 have n12 := bt3.next
 have o12 := ld.one
 have y112 : h12.get (a + 1) = some (.row (pfxC x29.n.p)) := by rw [bt3.keep _ (by omega) (by omega) (by omega), g11.2 _ (by omega)]; exact y110
 have k12 : ∀ k, k < h.next -> h12.get k = h.get k := fun k hk => by
  have := gx1.1
  rw [bt3.keep k (by omega) (by omega) (by omega), g11.2 k (by omega)]; exact k10 k hk
 have lc12 := zgg x11 bt3 lc11
 clear ld
 have x12' : OutAt h12 (fun _ => True) p m eK := x12.mono fun _ _ _ => trivial
 have c112 : zab h12.get (a + 1) 4 = some (pfxC x29.n.p) := (zag (n := 4) y112 rfl).trans rfl
 simp only [x29, zac, pfxC] at c112
 simp
 refine zb0 [a + 1] [0, 2, 1, 1, 0, 0, 0, 0, 0, 0] rfl (by rfl) ?_
 simp [t1, t3, c112, I.foot, zaT]
 refine zbv (zbO (id := 1) (med := 5)) (by decide) (fun _ => fun k hk => rfl) ?_
 simp [chN, chC, zac, attM, zaq]
 refine ⟨fun k hk => ?_, ?_⟩
 ·simp only [List.mem_cons, List.not_mem_nil, or_false] at hk
  subst hk
  rw [H.get_push, if_neg (by omega)]
 obtain ⟨h13, hh13⟩ : ∃ h13, h13 = h12.push (.row (chN (zac 1 5))) := ⟨_, rfl⟩
 have e13 := hh13
 simp [chN, chC, zac, attM] at e13
 rw [<- e13]
 have g13 : Ge h12 h13 := by rw [hh13]; exact (Ge.refl _).push _
 have w13 : h13.WF := by rw [hh13]; exact w12.push _
 have n13 : h13.next = h12.next + 1 := by rw [hh13]; simp
 have s13 : h13.get h12.next = some (.row (chN (zac 1 5))) := by rw [hh13]; simp
 have x13 := x12'.ge w12 g13
 obtain ⟨r10, r11, r12⟩ := k_3
 have no3 : NoL (zac 1 5).att := k_no _ (by simp)
 have W4 := zb4 (L := [zac 1 5]) (es := [chN (zac 1 5)]) (v := .sl h12.next 23 0 1 (some 1)) (px := x29.n.p) w13 x13 (by simp [eK, zac, elK]) (fun h9 bt => zh6 no3 (by rw [bt.keep _ (by omega) (by omega) (by omega)]; exact s13)) (fun c hc => zcP (by simp at hc; subst hc; exact no3)) (by simp [eK]) (by simp)
 rw [r10, r11, r12] at W4
 have fR : Rise cmpC fK := by
  have := r10 ▸ zft (p := x29.n.p) (L := [zac 1 5]) x13.rise
  exact this
 have fZ : ∀ c ∈ fK, AttSz c.att := fun c hc => zcP (k_no c (by simp [fK] at hc ⊢; rcases hc with rfl | rfl <;> simp))
 have WS4 : ∃ v' g', zij (fun _ => True) h13 p m fK [za2 (zac 0 6)] 0 v' g' := zfs w13 x13 fR fZ (fun c hc => zcP (by simp at hc; subst hc; exact k_no _ (by simp)))
 simp only [pfxC, x29, zac] at W4
 refine ⟨by decide, _, WS4, W4, ?_⟩
 rintro _ h14 ⟨nk4, we, ee, rfl, bt4, w14, hnk8, hnk9, x14, le⟩
 refine ⟨fun e => (by cases e), ?_⟩
 have n14 := bt4.next
 have o14 := le.one
 have y114 : h14.get (a + 1) = some (.row (pfxC x29.n.p)) := by rw [bt4.keep _ (by omega) (by omega) (by omega), g13.2 _ (by omega)]; exact y112
 have k14 : ∀ k, k < h.next -> h14.get k = h.get k := fun k hk => by
  have := gx1.1
  rw [bt4.keep k (by omega) (by omega) (by omega), g13.2 k (by omega)]; exact k12 k hk
 have lc14 := zgg x13 bt4 (lc12.ge g13)
 have x14' : OutAt h14 (fun _ => True) p m fK := x14.mono fun _ _ _ => trivial
 have lnc := lc14.len h14.get
 have lne := le.len h14.get
 simp only [dK, List.length_cons, List.length_nil] at lnc lne
 obtain ⟨pp, q, o, cs, vp, vc, vx, vl, vk, e1, _, e2, e3, e4, _, _, e5⟩ := (lc14.ls.at (by simp [dK])).atG w14 (k := 0) (by simp [dK])
 have z0 := e1 .i64
 have z1 := e2 h14 (Ge.refl _)
 have z2 := e5 5 (by omega)
 have z3 := e5 11 (by omega)
 obtain ⟨pp', q', o', cs', vp', vc', vx', vl', vk', e1', _, e2', e3', e4', _, _, e5'⟩ := (lc14.ls.at (by simp [dK])).atG w14 (k := 1) (by simp [dK])
 have z4 := e1' .i64
 have z5 := e2' h14 (Ge.refl _)
 have z6 := e5' 5 (by omega)
 obtain ⟨pq, qq, oq, cq, wp, wc', wx, wl, wk, f1, _, f2, f3, f4, _, _, f5⟩ := (le.ls.at (by simp)).atG w14 (k := 0) (by simp)
 have z7 := f1 .i64
 have z8 := f2 h14 (Ge.refl _)
 have z9 := f5 0 (by omega)
 have z10 := f5 5 (by omega)
 simp [dK, chC, zac, attM] at z0 z2 z3 z4 z6
 simp [chC, za2, zac] at z7 z9 z10
 simp [t1, lnc, lne, z0, z1, z2, z3, z4, z5, z6, z7, z8, z9, z10]
 have fl1 : (fK.filter (famB 1)).length = 2 := by decide +kernel
 have fl2 : (fK.filter (famB 2)).length = 0 := by decide +kernel
 refine ziW x14' (by simp [fK]) fun v1 l1 h15 g15 w15 a1 => ?_
 have m1 := a1.len h15.get
 rw [fl1] at m1
 have x15 := x14'.ge w14 g15
 have n15 := g15.1
 simp [m1, t1]
 refine ziW x15 (by simp [fK]) fun v2 l2 h16 g16 w16 a2 => ?_
 have m2 := a2.len h16.get
 rw [fl2] at m2
 have x16 := x15.ge w15 g16
 have n16 := g16.1
 simp [m2, t1]
 refine zfw x16 _ ?_
 have y116 : h16.get (a + 1) = some (.row (pfxC x29.n.p)) := by rw [g16.2 _ (by omega), g15.2 _ (by omega)]; exact y114
 have c116 : zab h16.get (a + 1) 4 = some (pfxC x29.n.p) := (zag (n := 4) y116 rfl).trans rfl
 simp only [x29, zac, pfxC] at c116
 simp [fK, t3, c116]
 have ow := zoy (h := h16) (p := x29.n.p)
 simp only [x29, zac, pfxC] at ow
 refine ow _ ?_
 simp
 have ow2 := ziu (h := h16.push (.row [.nilmap])) (j := h16.next) (p := zgJ) (by simp)
 simp only [zgJ, pfxC] at ow2
 refine ow2 _ ?_
 simp
 have gN : Ge h16 (h16.push (.row [.nilmap])) := (Ge.refl _).push _
 have wN : (h16.push (.row [.nilmap])).WF := w16.push _
 obtain ⟨h17, hh17⟩ : ∃ x, x = h16.push (.row [.nilmap]) := ⟨_, rfl⟩
 rw [<- hh17] at gN wN ⊢
 have x17 := x16.ge w16 gN
 refine zlF _ ?_
 simp
 refine zor _ ?_
 simp
 refine zne _ ?_
 have eqp : eqV TS.ptr .nilptr .nilptr = some true := rfl
 simp [eqp]
 refine zoC _ ?_
 simp [t1]
 refine zj0 x17 fun h18 b18 w18 x18 => ?_
 have n18 := b18.next
 have n17 := gN.1
 simp [fK, t1]
 refine zfw x18 _ ?_
 simp
 refine zit h18 _ ?_
 simp
 refine ⟨by omega, fun k hk => ?_⟩
 rw [b18.keep k (by omega) (by omega) (by omega), gN.2 k (by omega), g16.2 k (by omega), g15.2 k (by omega)]
 exact k14 k hk
end Go.Am
