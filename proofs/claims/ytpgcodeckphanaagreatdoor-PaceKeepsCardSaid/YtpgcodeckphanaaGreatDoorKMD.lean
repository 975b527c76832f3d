/-
 PC5, PL0, PC6, PC7, PC8, PC9, PF, PFD, PK0, PK1, in one text.
-/
import Derived.Test.YtpgcodeckphanaaGreatDoorKMC
import Derived.Test.YtpgcodeckphanaaGreatDoorKMA
import Derived.Test.YtpgcodeckphanaaGreatDoorKAm32
import Derived.Test.YtpgcodeckphanaaGreatDoorKShS
import Derived.Test.YtpgcodeckphanaaGreatDoorKAm40
import Derived.Test.YtpgcodeckphanaaGreatDoorKAm21
import Derived.Test.YtpgcodeckphanaaGreatDoorKAm36
import Derived.Test.YtpgcodeckphanaaGreatDoorKQwTab
import Derived.KernelRfl
import Derived.Test.YtpgcodeckphanaaGreatDoorKAm33
import Derived.Test.YtpgcodeckphanaaGreatDoorKMB
namespace Go.Am
open Go.Proofs

set_option maxRecDepth 100000
theorem zoC {h : H} {q : Nat} {a b : Int} (hq : h.get q = some (.row [.int .i64 a, .int .i64 b])) : Pure Tryz.prog 80 [.sl q 2 0 2 (some 2)] h (.int .i64 (orI a b)) := by
 refine zaf Tryz.func80 S.a37c S.a37e rfl (Nat.le_of_ble_eq_true rfl) fun wf => ?_; simp only [S.a37]
 have c1 : zac h.get q 2 = some [.int .i64 a, .int .i64 b] := by rw [zag hq (by rfl)]; rfl
 simp
 refine zaJ (fun i t h' => (t 3 = .int .i64 0 ∧ t 6 = .sl q 2 0 2 (some 2) ∧ t 7 = .int .i64 2 ∧ t 8 = .int .i64 (i : Nat)) ∧ h = h' ∧ (0 < i -> a = 0) ∧ (1 < i -> b = 0)) 2 ⟨by simp, rfl, by omega, by omega⟩ ?_
 rintro i t h' hi ⟨⟨t3, t6, t7, t8⟩, rfl, k1, k2⟩ K hK
 have w1 : IntKind.i64.wrap 1 = 1 := by decide
 have w2 : IntKind.i64.wrap 2 = 2 := by decide
 rcases (by omega : i = 0 ∨ i = 1 ∨ i = 2) with rfl | rfl | rfl
 ·by_cases hz : a = 0
  ·simp [t3, t6, t7, t8, c1, hz, w1]
   exact hK _ _ (by omega) ⟨by simp [t3, t6, t7], rfl, fun _ => hz, by omega⟩
  ·have hb : (a != 0) = true := by simpa using hz
   simp [t3, t6, t7, t8, c1, hb, zcq hz]
 ·have z1 := k1 (by omega)
  by_cases hz : b = 0
  ·simp [t3, t6, t7, t8, c1, hz, w2]
   exact hK _ _ (by omega) ⟨by simp [t3, t6, t7], rfl, fun _ => z1, fun _ => hz⟩
  ·have hb : (b != 0) = true := by simpa using hz
   simp [t3, t6, t7, t8, c1, hb, z1, zbb]
 ·have z1 := k1 (by omega)
  have z2 := k2 (by omega)
  simp [t3, t7, t8, z1, z2, zbb]
theorem zlo {h : H} {a b : Chg} {vp vc vx vl vk wp wc wx wl wk : V} (o1 : vp.one = true) (o2 : vc.one = true) (o3 : vx.one = true) (o4 : vl.one = true) (o5 : vk.one = true) (p1 : wp.one = true) (p2 : wc.one = true) (p3 : wx.one = true) (p4 : wl.one = true) (p5 : wk.one = true) :
  Pure Tryz.prog 79 [.agg (chC a vp vc vx vl vk), .agg (chC b wp wc wx wl wk)] h (.int .i64 (cmpC a b)) := by
 refine zaf Tryz.func79 S.a36c S.a36e rfl (Nat.le_of_ble_eq_true rfl) fun wf => ?_; simp only [S.a36]
 obtain ⟨h2, hh2⟩ : ∃ h2, h2 = (h.push (.row (chC a vp vc vx vl vk))).push (.row (chC b wp wc wx wl wk)) := ⟨_, rfl⟩
 have g2 : Ge h h2 := by rw [hh2]; exact ((Ge.refl _).push _).push _
 have n01 : ¬ h.next = h.next + 1 := by omega
 have c1 : zac h2.get h.next 23 = some (chC a vp vc vx vl vk) := by rw [hh2]; simp [chC]
 have c2 : zac h2.get (h.next + 1) 23 = some (chC b wp wc wx wl wk) := by rw [hh2]; simp [chC]
 simp only [chC] at hh2 c1 c2 ⊢
 simp [o1, o2, o3, o4, o5, p1, p2, p3, p4, p5]
 rw [<- hh2]
 have r2 : zak 2 [V.int .i64 0] = [.int .i64 0, .int .i64 0] := rfl
 refine zfh _ zmT (by rfl) ?_
 simp [List.lookup, c1, c2, zmq]
 refine zhB (zoC (q := h2.next) (a := cmp4 a.n.p.fam a.n.p.rd a.n.p.len b.n.p.fam b.n.p.rd b.n.p.len a.n.p.addr b.n.p.addr) (b := cmpI a.n.id b.n.id) (by simp [r2])) ?_
 simp [cmpC, zjr, zaF, zjo, cmp4]
 exact g2.push _
open Go.Sort in
theorem swo_c : SWO (ltOf cmpC) := by
 refine ⟨fun x => ?_, fun x y z h1 h2 => ?_, fun x y z h1 h2 => ?_⟩
 ·simp [ltOf, ordr_c.self x]
 ·simp only [ltOf, decide_eq_true_eq] at *
  exact ordr_c.down _ _ _ h1 h2
 ·simp only [ltOf, decide_eq_false_iff_not] at *
  intro h
  have a := ordr_c.anti x y
  rcases Int.lt_trichotomy (cmpC y x) 0 with k | k | k
  ·exact h2 (ordr_c.down y x z k h)
  ·have := ordr_c.same y x z k; omega
  ·omega
theorem ziX : ∀ {ds : List (List V)} {sz : Nat} (_ : ∀ e ∈ ds, e.length = sz) {k : Nat} (_ : k < ds.length) {e : List V} (_ : e.length = sz), ds.flatten.take (k * sz) ++ (e ++ ds.flatten.drop (k * sz + sz)) = (ds.set k e).flatten := by
 intro ds sz hs k hk e he
 have e1 := zex hs k
 have e2 := zeY hs (k + 1)
 rw [Nat.add_mul, Nat.one_mul] at e2
 rw [List.set_eq_take_append_cons_drop, if_pos hk, List.flatten_append, List.flatten_cons, e1, e2]
open Go.Sort in
theorem zlk {h : H} {j : Nat} {ca : Option Nat} {l : List (Chg × List V)} {o : O} (hg : h.get j = some o) (ho : o = .row (l.map Prod.snd).flatten ∨ o = .grow 23 (l.map Prod.snd).flatten) (he : ∀ x ∈ l, ∃ vp vc vx vl vk, x.2 = chC x.1 vp vc vx vl vk ∧ vp.one = true ∧ vc.one = true ∧ vx.one = true ∧ vl.one = true ∧ vk.one = true) (hl : l.length ≤ 1000000) (hne : l ≠ []) {g : FuncId} (heg : zaa Tryz.prog g = true)
  (hcmp : ∀ (a b : Chg) (h' : H), Pure Tryz.prog g [.agg (chC a .any .any .any .any .any), .agg (chC b .any .any .any .any .any)] h' (.int .i64 (cmpC a b))) {Q : V -> H -> Prop}
  (q : ∀ l' : List (Chg × List V), l'.Perm l -> l'.Pairwise (fun x y => ¬ cmpC y.1 x.1 < 0) -> Q (.tup []) (h.set j (match o with | .row _ => .row (l'.map Prod.snd).flatten | _ => .grow 23 (l'.map Prod.snd).flatten))) :
  Acalls Tryz.prog 78 [.sl j (l.length * 23) 0 l.length ca, .func (.func g) [] []] h Q := by
 have h23 : ∀ {m : List (Chg × List V)}, (∀ x ∈ m, x ∈ l) -> ∀ e ∈ m.map Prod.snd, e.length = 23 := fun hm e hx => by
  obtain ⟨x, hx1, rfl⟩ := List.mem_map.1 hx
  obtain ⟨_, _, _, _, _, e, _⟩ := he x (hm x hx1)
  rw [e]; rfl
 have hfl := zaz (h23 (m := l) fun x hx => hx)
 simp only [List.length_map] at hfl
 have hone : ∀ e ∈ l.map Prod.snd, e.all V.one = true := fun e hx => by
  obtain ⟨x, hx1, rfl⟩ := List.mem_map.1 hx
  obtain ⟨_, _, _, _, _, e, o1, o2, o3, o4, o5⟩ := he x hx1
  rw [e]; simp [chC, o1, o2, o3, o4, o5]
 have oc : o.cells = (l.map Prod.snd).flatten := by rcases ho with rfl | rfl <;> simp
 have orr : o.rowish = true := by rcases ho with rfl | rfl <;> rfl
 have ol : o.len = l.length * 23 := by rcases ho with rfl | rfl <;> simpa using hfl
 have S : SortIn h j (l.length * 23) 0 23 (l.map Prod.snd) o := ⟨hg, orr, ol, by rw [oc]; simp [hfl], by rw [oc]; simp only [List.drop_zero, List.length_map]; rw [<- hfl, List.take_length], h23 fun x hx => hx, hone⟩
 refine zld Tryz.sort78 (F := 78) (g := g) (k := 23) rfl (by kernel_rfl) Tryz.isAgg48 Tryz.sizeOf48 (by decide) S (encV := Prod.snd) (shV := fun x => chC x.1 .any .any .any .any .any) (cmpB := fun x y => cmpC x.1 y.1) ⟨fun x => swo_c.irrefl _, fun x y z => swo_c.trans _ _ _, fun x y z => swo_c.ntrans _ _ _⟩ (fun x hx => ?_) heg rfl (by omega) (List.length_pos_iff.2 hne) (fun x _ y _ h' => hcmp x.1 y.1 h') (fun l' o' hp hs hput => ?_)
 ·obtain ⟨vp, vc, vx, vl, vk, e, o1, o2, o3, o4, o5⟩ := he x hx
  rw [e]
  have nr : ∀ v : V, v.ids = [] -> Weak v v := fun v hv => .inr ⟨rfl, hv⟩
  have an : ∀ v : V, v.one = true -> Weak v .any := fun v hv => .inl ⟨rfl, hv⟩
  exact .cons (nr _ rfl) (.cons (nr _ rfl) (.cons (nr _ rfl) (.cons (nr _ rfl) (.cons (nr _ rfl) (.cons (nr _ rfl) (.cons (nr _ rfl) (.cons (nr _ rfl) (.cons (an _ o1) (.cons (nr _ rfl) (.cons (nr _ rfl) (.cons (nr _ rfl) (.cons (nr _ rfl) (.cons (nr _ rfl) (.cons (nr _ rfl) (.cons (nr _ rfl) (.cons (nr _ rfl) (.cons (an _ o2) (.cons (an _ o3) (.cons (an _ o4) (.cons (nr _ rfl) (.cons (nr _ rfl) (.cons (an _ o5) .nil))))))))))))))))))))))
 ·have hfl' := zaz (h23 (m := l') fun x hx => hp.mem_iff.1 hx)
  simp only [List.length_map] at hfl'
  have hle := hp.length_eq
  have hs' : l'.Pairwise (fun x y => ¬ cmpC y.1 x.1 < 0) := hs.imp fun {a b} h => by simpa [ltOf] using h
  have hQ := q l' hp hs'
  rcases ho with rfl | rfl
  ·have e : o' = .row (l'.map Prod.snd).flatten := by
    rw [zgS, if_pos (by rw [hfl', hfl, hle]; omega)] at hput
    cases hput
    unfold putCells
    rw [List.take_zero, List.nil_append, Nat.zero_add, hfl', hle, <- hfl, List.drop_length, List.append_nil]
   rw [e]; exact hQ
  ·have e : o' = .grow 23 (l'.map Prod.snd).flatten := by
    rw [zhN, if_pos (by rw [hfl', hfl, hle]; omega)] at hput
    cases hput
    unfold putCells
    rw [List.take_zero, List.nil_append, Nat.zero_add, hfl', hle, <- hfl, List.drop_length, List.append_nil]
   rw [e]; exact hQ
end Go.Am

namespace Go.Am

structure Pc where
 gap : Nat
 op : Nat
 last : Nat
 S : List Chg
def zaU (P : Pc) (now : Nat) : Bool := !(decide (now < P.op) || decide (P.S = []))
def zbj (P : Pc) (now : Nat) : Pc := if zaU P now = true then ⟨P.gap, now + P.gap, now, []⟩ else ⟨P.gap, P.op, now, P.S⟩
def zbB (P : Pc) (now : Nat) : List Chg := if zaU P now = true then P.S else []
def zcz (P : Pc) (l : List Chg) : Pc := ⟨P.gap, P.op, P.last, l.foldl putC P.S⟩
structure Stp where
 key : Nat
 wait : Nat
 gone : Bool
 fire : Bool
def attM (i : Nat) : Att := ⟨0, [], [], true, i, false, 0, false, 0, 0, [], [], [], false, 0, []⟩
def nlOf (k : Nat) : Nl := ⟨⟨1, 0, [UInt8.ofNat (10 + k % 4), 0, 0, 0], 8⟩, k % 8 / 4, 0⟩
def zcs (x : Stp) (i : Nat) : Chg := ⟨x.gone, nlOf x.key, if x.gone = true then att0 else attM i⟩
def ixOf (c : Chg) : Nat := ((c.n.p.addr.getD 0 0).toNat - 10) + 4 * c.n.id
theorem zhK (x : Stp) (i : Nat) : ixOf (zcs x i) = x.key % 8 := by
 have : (UInt8.ofNat (10 + x.key % 4)).toNat = 10 + x.key % 4 := by
  rw [UInt8.toNat_ofNat']; omega
 simp only [ixOf, zcs, nlOf, List.getD_cons_zero, this]
 omega
theorem zm1 {x y : Stp} {i j : Nat} (h : x.key % 8 = y.key % 8) : zaF (zcs x i) = zaF (zcs y j) := by
 have h1 : x.key % 4 = y.key % 4 := by omega
 simp only [zaF, zcs, nlOf, h, h1]
def zpq (l : List Stp) (put sent : Nat -> Nat) (c : Chg) : Prop := ∃ k x, k < 8 ∧ put k ≠ sent k ∧ l[put k - 1]? = some x ∧ x.key % 8 = k ∧ c = zcs x (put k - 1)
structure PInv (g : Nat) (l : List Stp) (i : Nat) (P : Pc) (put sent : Nat -> Nat) : Prop where
 gap : P.gap = g
 le : ∀ k, k < 8 -> sent k ≤ put k
 pl : ∀ k, k < 8 -> put k ≤ i
 pk : ∀ k, k < 8 -> 0 < put k -> ∃ x, l[put k - 1]? = some x ∧ x.key % 8 = k
 rise : Rise cmpC P.S
 mem : ∀ c, c ∈ P.S ↔ zpq l put sent c
theorem PInv.zero (g : Nat) (l : List Stp) (op last : Nat) : PInv g l 0 ⟨g, op, last, []⟩ (fun _ => 0) (fun _ => 0) :=
 ⟨rfl, fun _ _ => Nat.le_refl _, fun _ _ => Nat.le_refl _, fun _ _ h => by omega, List.Pairwise.nil, fun c => ⟨fun h => (by cases h), fun ⟨_, _, _, h, _⟩ => absurd rfl h⟩⟩
def upAt (f : Nat -> Nat) (j v : Nat) : Nat -> Nat := fun k => if k = j then v else f k
theorem zcc (f : Nat -> Nat) (j v : Nat) : upAt f j v j = v := by simp [upAt]
theorem zdj (f : Nat -> Nat) {j k : Nat} (v : Nat) (h : k ≠ j) : upAt f j v k = f k := by simp [upAt, h]
theorem PInv.put {g i : Nat} {l : List Stp} {P : Pc} {put sent : Nat -> Nat} (v : PInv g l i P put sent) {x : Stp} (hx : l[i]? = some x) :
  PInv g l (i + 1) (zcz P [zcs x i]) (upAt put (x.key % 8) (i + 1)) sent := by
 refine ⟨v.gap, fun k hk => ?_, fun k hk => ?_, fun k hk hp => ?_, zdw v.rise, fun c => ?_⟩
 ·have := v.le k hk
  have := v.pl k hk
  unfold upAt
  split <;> omega
 ·have := v.pl k hk
  unfold upAt
  split <;> omega
 ·by_cases e : k = x.key % 8
  ·subst e; rw [zcc]; exact ⟨x, by simpa using hx, rfl⟩
  ·rw [zdj _ _ e] at hp ⊢; exact v.pk k hk hp
 ·show c ∈ putC P.S (zcs x i) ↔ _
  rw [zd9 v.rise]
  constructor
  ·rintro (rfl | ⟨hc, hne⟩)
   ·refine ⟨x.key % 8, x, Nat.mod_lt _ (by decide), ?_, by rw [zcc]; simpa using hx, rfl, by rw [zcc]; simp⟩
    have := v.le (x.key % 8) (Nat.mod_lt _ (by decide))
    have := v.pl (x.key % 8) (Nat.mod_lt _ (by decide))
    rw [zcc]; omega
   ·obtain ⟨k, y, hk, h1, h2, h3, rfl⟩ := (v.mem c).1 hc
    have hkx : k ≠ x.key % 8 := fun e => hne (zm1 (h3.trans e))
    exact ⟨k, y, hk, by rw [zdj _ _ hkx]; exact h1, by rw [zdj _ _ hkx]; exact h2, h3, by rw [zdj _ _ hkx]⟩
  ·rintro ⟨k, y, hk, h1, h2, h3, rfl⟩
   by_cases e : k = x.key % 8
   ·subst e
    rw [zcc] at h2 ⊢
    simp only [Nat.add_sub_cancel, hx, Option.some.injEq] at h2
    subst h2
    exact .inl (by simp)
   ·rw [zdj _ _ e] at h1 h2 ⊢
    refine .inr ⟨(v.mem _).2 ⟨k, y, hk, h1, h2, h3, rfl⟩, fun e2 => e ?_⟩
    have a := zhK y (put k - 1)
    have b := zhK x i
    unfold ixOf at a b
    simp only [zaF, Ky.mk.injEq] at e2
    rw [e2.1, e2.2] at a
    omega
theorem PInv.up {g i : Nat} {l : List Stp} {P : Pc} {put sent : Nat -> Nat} (v : PInv g l i P put sent) : PInv g l (i + 1) P put sent :=
 ⟨v.gap, v.le, fun k hk => Nat.le_succ_of_le (v.pl k hk), v.pk, v.rise, v.mem⟩
def zbe (put : Nat -> Nat) (sent : Nat -> Nat) (m : List Chg) : Nat -> Nat := fun k => if k ∈ m.map ixOf then put k else sent k
theorem PInv.one {g i : Nat} {l : List Stp} {P : Pc} {put sent : Nat -> Nat} (v : PInv g l i P put sent) {c : Chg} (hc : c ∈ P.S) :
  ixOf c < 8 ∧ 0 < put (ixOf c) ∧ put (ixOf c) ≤ i ∧ put (ixOf c) ≠ sent (ixOf c) ∧ ∃ x, l[put (ixOf c) - 1]? = some x ∧ x.key % 8 = ixOf c ∧ c = zcs x (put (ixOf c) - 1) := by
 obtain ⟨k, x, hk, h1, h2, h3, rfl⟩ := (v.mem c).1 hc
 rw [zhK, h3]
 have := v.le k hk
 exact ⟨hk, by omega, v.pl k hk, h1, x, h2, h3, rfl⟩
theorem PInv.ix_nodup {g i : Nat} {l : List Stp} {P : Pc} {put sent : Nat -> Nat} (v : PInv g l i P put sent) : (P.S.map ixOf).Nodup := by
 unfold List.Nodup
 rw [List.pairwise_map]
 refine v.rise.imp_of_mem fun {a b} ha hb hab e => ?_
 obtain ⟨_, _, _, _, x, hx, _, ea⟩ := v.one ha
 obtain ⟨_, _, _, _, y, hy, _, eb⟩ := v.one hb
 rw [e, hy] at hx
 cases hx
 have : a = b := by rw [ea, eb, e]
 subst this
 have := ordr_c.self a
 omega
theorem PInv.ix_mem {g i : Nat} {l : List Stp} {P : Pc} {put sent : Nat -> Nat} (v : PInv g l i P put sent) {k : Nat} (hk : k < 8) : k ∈ P.S.map ixOf ↔ put k ≠ sent k := by
 constructor
 ·intro h
  obtain ⟨c, hc, rfl⟩ := List.mem_map.1 h
  exact (v.one hc).2.2.2.1
 ·intro h
  have h0 : 0 < put k := by have := v.le k hk; omega
  obtain ⟨x, hx, e⟩ := v.pk k hk h0
  refine List.mem_map.2 ⟨zcs x (put k - 1), (v.mem _).2 ⟨k, x, hk, h, hx, e, rfl⟩, ?_⟩
  rw [zhK, e]
theorem PInv.count {g i : Nat} {l : List Stp} {P : Pc} {put sent : Nat -> Nat} (v : PInv g l i P put sent) : P.S.length = ((List.range 8).filter fun k => decide (put k ≠ sent k)).length := by
 have : (P.S.map ixOf).Perm ((List.range 8).filter fun k => decide (put k ≠ sent k)) := by
  refine (List.perm_ext_iff_of_nodup v.ix_nodup (List.nodup_range.filter _)).2 fun k => ?_
  rw [List.mem_filter, decide_eq_true_eq, List.mem_range]
  constructor
  ·intro h
   obtain ⟨c, hc, rfl⟩ := List.mem_map.1 h
   have := v.one hc
   exact ⟨this.1, this.2.2.2.1⟩
  ·exact fun ⟨h1, h2⟩ => (v.ix_mem h1).2 h2
 rw [<- this.length_eq, List.length_map]
theorem PInv.gone {g i : Nat} {l : List Stp} {P : Pc} {put sent : Nat -> Nat} (v : PInv g l i P put sent) (op last : Nat) : PInv g l i ⟨P.gap, op, last, []⟩ put (zbe put sent P.S) := by
 refine ⟨v.gap, fun k hk => ?_, v.pl, v.pk, List.Pairwise.nil, fun c => ⟨fun h => (by cases h), ?_⟩⟩
 ·have := v.le k hk
  unfold zbe
  split <;> omega
 ·rintro ⟨k, x, hk, h1, _⟩
  unfold zbe at h1
  split at h1
  ·exact absurd rfl h1
  ·rename_i h2
   exact absurd ((v.ix_mem hk).2 h1) h2
theorem PInv.with {g i : Nat} {l : List Stp} {P : Pc} {put sent : Nat -> Nat} (v : PInv g l i P put sent) (op last : Nat) : PInv g l i ⟨P.gap, op, last, P.S⟩ put sent := ⟨v.gap, v.le, v.pl, v.pk, v.rise, v.mem⟩
theorem zg4 (put sent : Nat -> Nat) (m : List Chg) (c : Chg) (k : Nat) : zbe put sent (m ++ [c]) k = if k = ixOf c then put k else zbe put sent m k := by
 unfold zbe
 simp only [List.map_append, List.map_cons, List.map_nil, List.mem_append, List.mem_singleton]
 by_cases h1 : k = ixOf c
 ·rw [if_pos (.inr h1), if_pos h1]
 ·rw [if_neg h1]
  by_cases h2 : k ∈ m.map ixOf
  ·rw [if_pos (.inl h2), if_pos h2]
  ·rw [if_neg (fun h => h.elim h2 h1), if_neg h2]
end Go.Am

namespace Go.Am
open Go.Proofs

set_option maxRecDepth 100000
theorem zpt {h : H} : Pure Tryz.prog 149 [.int .u64 0] h (.int .i64 0) := by
 refine zaf Tryz.func149 S.a65c S.a65e rfl (Nat.le_of_ble_eq_true rfl) fun wf => ?_; simp only [S.a65]
 have w : IntKind.u8.wrap 0 = 0 := by decide
 have w2 : IntKind.i64.wrap 0 = 0 := by decide
 simp [w, w2]
theorem lenz {h : H} : Pure Tryz.prog 115 [.int .u64 0] h (.int .i64 0) := by
 refine zaf Tryz.func115 S.a57c S.a57e rfl (Nat.le_of_ble_eq_true rfl) fun wf => ?_; simp only [S.a57]
 simp
 refine zpt _ ?_
 simp
theorem zpg {h : H} {v c : V} : Pure Tryz.prog 140 [v, .int .i64 0, .int .i64 0, c] h (.tup []) := by
 refine zaf Tryz.func140 S.a64c S.a64e rfl (Nat.le_of_ble_eq_true rfl) fun wf => ?_; simp only [S.a64]
 have w : IntKind.i64.wrap 1 = 1 := by decide
 simp [w]
 refine zaJ (fun i t h' => (t 2 = .int .i64 0 ∧ t 8 = .int .i64 1) ∧ h' = h) 0 ⟨by simp, rfl⟩ ?_
 rintro i t h' hi ⟨⟨t2, t8⟩, rfl⟩ K hK
 simp [t2, t8]
theorem pdqz {h : H} {v lim c : V} : Pure Tryz.prog 114 [v, .int .i64 0, .int .i64 0, lim, c] h (.tup []) := by
 refine zaf Tryz.func114 S.a56c S.a56e rfl (Nat.le_of_ble_eq_true rfl) fun wf => ?_; simp only [S.a56]
 have w : IntKind.i64.wrap 0 = 0 := by decide
 simp
 refine zaJ (fun i t h' => (t 0 = v ∧ t 1 = .int .i64 0 ∧ t 2 = .int .i64 0 ∧ t 4 = c) ∧ h' = h) 0 ⟨by simp, rfl⟩ ?_
 rintro i t h' hi ⟨⟨t0, t1, t2, t4⟩, rfl⟩ K hK
 simp [t0, t1, t2, t4, w]
 refine zpg _ ?_
 simp
theorem zqJ {h : H} {v c : V} (hv : ∀ g, lenV 1 g v = some (.int .i64 0)) : Pure Tryz.prog 78 [v, c] h (.tup []) := by
 refine zaf Tryz.func78 S.a35c S.a35e rfl (Nat.le_of_ble_eq_true rfl) fun wf => ?_; simp only [S.a35]
 have w : IntKind.u64.wrap 0 = 0 := by decide
 simp [hv, w]
 refine lenz _ ?_
 simp
 refine pdqz _ ?_
 simp

theorem zgC {S : List Chg} (hk : zbJ S) (hw : S.Pairwise fun x y => ¬ cmpC y x < 0) : Rise cmpC S := by
 unfold zbJ List.Nodup at hk
 rw [List.pairwise_map] at hk
 refine (hk.and hw).imp fun {a b} h => ?_
 have h1 := ordr_c.anti a b
 have h2 : cmpC a b ≠ 0 := fun e => h.1 (zg3 e)
 have := h.2
 omega
def HeldAt (h : H) (R : Nat -> Prop) (m : Nat) (S : List Chg) : Prop := ∃ es bs tk L, h.get m = some (.mapo es bs tk) ∧ MapB es bs tk ∧ Srt L S ∧ es.length = L.length ∧ ∀ (i : Nat) (c : Chg), L[i]? = some c -> ∃ e, es[i]? = some (kyV (zaF c), .agg e) ∧ ChP h R c e
structure PaceAt (h : H) (R : Nat -> Prop) (p m : Nat) (P : Pc) : Prop where
 row : h.get p = some (.row [.int .i64 (P.gap : Nat), .int .u64 (P.op : Nat), .int .u64 (P.last : Nat), .map m])
 held : HeldAt h R m P.S
theorem HeldAt.keep {h h' : H} {R : Nat -> Prop} {m : Nat} {S : List Chg} (x : HeldAt h R m S) (hn : h.next ≤ h'.next) (hm : h'.get m = h.get m) (k : ∀ j s cs, R j -> j < h.next -> h.get j = some (.grow s cs) -> h'.get j = some (.grow s cs)) : HeldAt h' R m S := by
 obtain ⟨es, bs, tk, L, a, b, c, d, e⟩ := x
 exact ⟨es, bs, tk, L, hm.trans a, b, c, d, fun i q hi => by obtain ⟨e1, h1, h2⟩ := e i q hi; exact ⟨e1, h1, h2.keep hn k⟩⟩
theorem HeldAt.mono {h : H} {R R' : Nat -> Prop} {m : Nat} {S : List Chg} (x : HeldAt h R m S) (k : ∀ j, j < h.next -> R j -> R' j) : HeldAt h R' m S := by
 obtain ⟨es, bs, tk, L, a, b, c, d, e⟩ := x
 exact ⟨es, bs, tk, L, a, b, c, d, fun i q hi => by obtain ⟨e1, h1, h2⟩ := e i q hi; exact ⟨e1, h1, h2.mono k⟩⟩
theorem HeldAt.len {h : H} {R : Nat -> Prop} {m : Nat} {S : List Chg} (x : HeldAt h R m S) (g : Nat -> Option O) (hg : g m = h.get m) : lenV 2 g (.map m) = some (.int .i64 (S.length : Nat)) := by
 obtain ⟨es, bs, tk, L, a, b, c, d, e⟩ := x
 simp [lenV, hg, a, d, c.perm.length_eq]
theorem zfO {h : H} {R : Nat -> Prop} {p m : Nat} {P : Pc} (x : PaceAt h R p m P) : Pure Tryz.prog 75 [.ptr p 4 0] h (.bool false) := by
 refine zaf Tryz.func75 S.a32c S.a32e rfl (Nat.le_of_ble_eq_true rfl) fun wf => ?_; simp only [S.a32]
 have c : zac h.get p 4 = some [.int .i64 (P.gap : Nat), .int .u64 (P.op : Nat), .int .u64 (P.last : Nat), .map m] := (zag (n := 4) x.row rfl).trans rfl
 simp [c, eqV]
theorem zeM {ds : List (List V)} {n sz : Nat} (h1 : ds.length = n) (h2 : ∀ e ∈ ds, e.length = sz) : ds.flatten.length = n * sz := by rw [<- h1]; exact zaz h2
def chg0 : Chg := ⟨false, ⟨zqv, 0, 0⟩, att0⟩
theorem zfC {h : H} {R : Nat -> Prop} {p m : Nat} {P : Pc} (x : PaceAt h R p m P) (hb : P.S.length ≤ 100000) {Q : V -> H -> Prop} (q : ∀ w es h', Ge h h' -> h'.WF -> LsP h' (fun j => h.next ≤ j) w P.S es -> Q w h') : Acalls Tryz.prog 33 [.ptr p 4 0] h Q := by
 refine zao Tryz.func33 S.a7c S.a7e (Nat.le_of_ble_eq_true rfl) fun wf => ?_; simp only [S.a7]
 have c : zac h.get p 4 = some [.int .i64 (P.gap : Nat), .int .u64 (P.op : Nat), .int .u64 (P.last : Nat), .map m] := (zag (n := 4) x.row rfl).trans rfl
 obtain ⟨es, bs, tk, L, hm, mb, srt, hel, hent⟩ := x.held
 have hLl : L.length = P.S.length := srt.perm.length_eq
 simp
 refine zfO x _ ?_
 simp [c]
 refine zio fun _ => ?_
 obtain ⟨h1, hh1⟩ : ∃ h1, h1 = h.push (.row [.map m]) := ⟨_, rfl⟩
 have g1 : Ge h h1 := by rw [hh1]; exact (Ge.refl _).push _
 have w1 : h1.WF := by rw [hh1]; exact wf.push _
 have n1 : h1.next = h.next + 1 := by rw [hh1]; simp
 have b1 : h1.get h.next = some (.row [.map m]) := by rw [hh1]; simp
 have m1 : h1.get m = some (.mapo es bs tk) := (g1.2 _ (wf.lt hm)).trans hm
 rw [<- hh1]
 have hes : ∀ (i : Nat) (y : V × V), es[i]? = some y -> ∃ e, y.2 = .agg e ∧ ChO e := fun i y hy => by
  have hil := (List.getElem?_eq_some_iff.1 hy).1
  obtain ⟨e, e1, vp, vc, vx, vl, vk, e2, e3⟩ := hent i (L[i]'(by omega)) (List.getElem?_eq_getElem _)
  rw [hy, Option.some.injEq] at e1
  obtain ⟨o1, o2, o3, o4, o5⟩ := e3.one
  exact ⟨e, by rw [e1], _, vp, vc, vx, vl, vk, e2, o1, o2, o3, o4, o5⟩
 simp
 refine ziM b1 m1 mb hes (by omega) fun v1 dn h2 g2 w2 hp gl => ?_
 obtain ⟨n, hn⟩ : ∃ n, n = es.length := ⟨_, rfl⟩
 rw [<- hn] at hp
 have hdl : dn.length = n := by rw [hp.length_eq]; simp
 have hdi : ∀ k, k < n -> ∃ i, dn[k]? = some i ∧ i < n := fun k hk => by
  refine ⟨dn[k]'(by omega), List.getElem?_eq_getElem _, ?_⟩
  have := hp.mem_iff.1 (List.getElem_mem (l := dn) (n := k) (by omega))
  simpa using this
 obtain ⟨M, hM⟩ : ∃ M : List Chg, M = dn.map fun i => L.getD i chg0 := ⟨_, rfl⟩
 obtain ⟨cs, hcs⟩ : ∃ cs, cs = dn.map (zc8 es) := ⟨_, rfl⟩
 have hMl : M.length = n := by rw [hM]; simpa using hdl
 have hcl : cs.length = n := by rw [hcs]; simpa using hdl
 have hMp : M.Perm L := by rw [hM]; exact zjX hp (by omega) chg0
 have at1 : ∀ k, k < n -> ∃ c e, M[k]? = some c ∧ cs[k]? = some e ∧ ChP h R c e := fun k hk => by
  obtain ⟨i, hi, hin⟩ := hdi k hk
  obtain ⟨e, e1, e2⟩ := hent i (L[i]'(by omega)) (List.getElem?_eq_getElem _)
  refine ⟨L[i]'(by omega), e, ?_, ?_, e2⟩
  ·simp [hM, List.getElem?_map, hi, List.getElem?_eq_getElem (show i < L.length by omega)]
  ·simp [hcs, List.getElem?_map, hi, zgu e1]
 have c23 : ∀ e ∈ cs, e.length = 23 := fun e he => by
  obtain ⟨k, hk, rfl⟩ := List.mem_iff_getElem.1 he
  obtain ⟨_, e, _, e2, e3⟩ := at1 k (by omega)
  rw [List.getElem?_eq_getElem hk, Option.some.injEq] at e2
  rw [e2]; exact e3.at.len
 have cO : ∀ e ∈ cs, e.all V.one = true := fun e he => by
  obtain ⟨k, hk, rfl⟩ := List.mem_iff_getElem.1 he
  obtain ⟨_, e, _, e2, e3⟩ := at1 k (by omega)
  rw [List.getElem?_eq_getElem hk, Option.some.injEq] at e2
  rw [e2]; exact e3.at.ones
 rw [<- hcs] at gl
 have sl := gl.sls c23 (by omega)
 have hlen := sl.len
 rw [hcl] at hlen
 have hmk : za9 h2.next 23 240 chZ (.int .i64 (n : Nat)) (.int .i64 (n : Nat)) = some (.sl h2.next (n * 23) 0 n (some n), .push (.row (zak n chZ))) := by
  have hc : (0 : Int) ≤ (n : Nat) ∧ ((n : Nat) : Int) ≤ (n : Nat) ∧ ((240 : Nat) : Int) * (n : Nat) ≤ 140737488355328 ∧ ((n : Nat) : Int) ≤ 9223372036854775807 := by omega
  simp only [za9, if_pos hc, Int.toNat_natCast]
 simp only [chZ] at hmk
 simp [hlen, hmk]
 obtain ⟨h3, hh3⟩ : ∃ h3, h3 = h2.push (.row (zak n chZ)) := ⟨_, rfl⟩
 have g3 : Ge h2 h3 := by rw [hh3]; exact (Ge.refl _).push _
 have w3 : h3.WF := by rw [hh3]; exact w2.push _
 have n3 : h3.next = h2.next + 1 := by rw [hh3]; simp
 have hfl := zeM hcl c23
 have hrl : (zak n chZ).length = n * 23 := by simp [zak, chZ]
 have x3 : h3.get h2.next = some (.row (zak n chZ)) := by rw [hh3]; simp
 obtain ⟨D, hD, x4, k4, n4, w4⟩ : ∃ D, ze2 h3.get 23 (.sl h2.next (n * 23) 0 n (some n)) v1 = some (.int .i64 (n : Nat), D) ∧ (h3.app D).get h2.next = some (.row cs.flatten) ∧ (∀ k, k ≠ h2.next -> (h3.app D).get k = h3.get k) ∧ (h3.app D).next = h3.next ∧ (h3.app D).WF := by
  have rd := (sl.ge w2 g3).read
  rw [hcl] at rd
  by_cases h0 : n = 0
  ·have hc0 : cs = [] := List.length_eq_zero_iff.1 (by omega)
   refine ⟨.keep, ?_, ?_, fun _ _ => rfl, rfl, w3⟩
   ·unfold ze2; rw [rd]; simp [h0]
   ·show h3.get h2.next = _
    rw [x3, hc0, h0]; simp [zak]
  ·refine ⟨.set h2.next (.row cs.flatten), ?_, by simp, fun k hk => by simp [hk], by simp, w3.set (by omega) _⟩
   unfold ze2
   rw [rd]
   have hall : (cs.flatten.take (n * 23)).all V.one = true := by
    rw [<- hfl, List.take_length, List.all_flatten]
    exact List.all_eq_true.2 fun e he => cO e he
   simp only [Nat.min_self]
   rw [if_neg h0, if_pos hall, x3]
   simp only [zjB, hrl, if_true, zgS]
   rw [if_pos (by rw [<- hfl, List.take_length]; omega)]
   simp only [Option.map_some, Option.some.injEq, Prod.mk.injEq, true_and]
   congr 2
   unfold putCells
   rw [<- hfl, List.take_length, List.take_zero, List.nil_append, Nat.zero_add, hfl, <- hrl, List.drop_length, List.append_nil]
 obtain ⟨h4, hh4⟩ : ∃ h4, h4 = h3.app D := ⟨_, rfl⟩
 rw [<- hh4] at x4 k4 n4 w4
 simp only [chZ] at hh3
 rw [<- hh3]
 simp [hD]
 rw [<- hh4]
 have nlt : n < 9223372036854775808 := by omega
 obtain ⟨j, hj⟩ : ∃ j, j = h2.next := ⟨_, rfl⟩
 rw [<- hj] at x4 k4 n3 x3 ⊢
 have hn2 := g2.1
 have base : ∀ k, k < h2.next -> h4.get k = h2.get k := fun k hk => (k4 k (by omega)).trans (g3.2 k hk)
 have gh2 : Ge h h2 := g1.trans g2
 refine zaJ (fun i t h' => (t 4 = .sl j (n * 23) 0 n (some n) ∧ t 21 = .int .i64 (n : Nat) ∧ t 22 = .int .i64 (i : Nat)) ∧ h'.WF ∧ h4.next ≤ h'.next ∧ (∀ k, k < h2.next -> h'.get k = h2.get k) ∧ ∃ ds, h'.get j = some (.row ds.flatten) ∧ ds.length = n ∧ (∀ e ∈ ds, e.length = 23) ∧ (∀ k, k < n -> k < i -> ∃ c e, M[k]? = some c ∧ ds[k]? = some e ∧ ChP h' (fun y => h.next ≤ y) c e) ∧ ∀ k, i ≤ k -> ds[k]? = cs[k]?) n
  ⟨by simp, w4, Nat.le_refl _, base, cs, x4, hcl, c23, fun k _ hk => by omega, fun _ _ => rfl⟩ ?_
 rintro i t h' hi ⟨⟨t4, t21, t22⟩, wb, nb, kb, ds, xd, dl, d23, da, db⟩ K hK
 have dfl := zeM dl d23
 have hjn : j < h'.next := by omega
 have gh' : Ge h h' := ⟨by have := gh2.1; omega, fun k hk => (kb k (by have := gh2.1; omega)).trans (gh2.2 k hk)⟩
 by_cases hlt : i < n
 ·have hw := zaS hlt nlt
  obtain ⟨c, e, m1', m2, m3⟩ := at1 i hlt
  obtain ⟨vp, vc, vx, vl, vk, rfl, ap⟩ := m3
  have hde : ds[i]? = some (chC c vp vc vx vl vk) := (db i (Nat.le_refl _)).trans m2
  have hdi' : ds[i]'(by omega) = chC c vp vc vx vl vk := by rw [List.getElem?_eq_getElem (by omega), Option.some.injEq] at hde; exact hde
  have hld : (ds.flatten.drop (i * 23)).take 23 = chC c vp vc vx vl vk := by rw [zeG d23 (by omega), hdi']
  have cd : zac h'.get j (n * 23) = some ds.flatten := by rw [zag xd (by simpa using dfl)]; simp
  have hi23 : i * 23 + 23 ≤ n * 23 := by omega
  have hix : ∀ kd, zaw 23 (.sl j (n * 23) 0 n (some n)) (.int kd (i : Int)) = some (.ptr j (n * 23) (i * 23)) := fun kd => by
   simp only [zbF, Int.toNat_natCast]
   rw [if_pos ⟨by omega, by omega⟩]; simp
  have A' := ap.at.ge wf gh'
  have ow := fun Q q => zjJ (Q := Q) A' ap.sz q
  simp only [chC] at hld ow
  simp [t4, t21, t22, hlt, hix, cd, hld, dfl, hi23]
  refine ow _ fun wp wc wx wl wk h5 g5 w5 F5 => ?_
  obtain ⟨f1, f2, f3, f4, f5⟩ := F5.one
  have x5 : h5.get j = some (.row ds.flatten) := (g5.2 j hjn).trans xd
  simp [hix, x5, dfl, hi23, f1, f2, f3, f4, f5]
  simp [t22, hw]
  obtain ⟨e', he'⟩ : ∃ e', e' = chC c wp wc wx wl wk := ⟨_, rfl⟩
  have fp := ziX d23 (k := i) (by omega) (e := e') (by rw [he']; rfl)
  rw [he'] at fp
  simp only [chC, List.cons_append, List.nil_append] at fp
  rw [fp]
  have e2' : chC c wp wc wx wl wk = e' := he'.symm
  simp only [chC] at e2'
  rw [e2']
  obtain ⟨hF, hhF⟩ : ∃ hF, hF = h5.set j (.row (ds.set i e').flatten) := ⟨_, rfl⟩
  rw [<- hhF]
  have n5 := g5.1
  have kF : ∀ k, k ≠ j -> hF.get k = h5.get k := fun k hk => by rw [hhF, H.get_set, if_neg hk]
  have nF : hF.next = h5.next := by rw [hhF]; simp
  have keepF : ∀ {c : Chg} {e : List V}, ChP h5 (fun y => h.next ≤ y) c e -> ChP hF (fun y => h.next ≤ y) c e := fun f => f.keep (by omega) fun k s' c' _ hk hg => by rw [kF k (fun e => by subst e; rw [x5] at hg; cases hg)]; exact hg
  refine hK _ _ hlt ⟨by simp [t4, t21], by rw [hhF]; exact w5.set (by omega) _, by omega, fun k hk => ?_, ds.set i e', by rw [hhF]; simp, by simpa using dl, fun e he => ?_, fun k hk hki => ?_, fun k hk => ?_⟩
  ·rw [kF k (by omega), g5.2 k (by omega)]; exact kb k hk
  ·rcases List.mem_or_eq_of_mem_set he with he | rfl
   ·exact d23 e he
   ·rw [he']; rfl
  ·by_cases hkk : k = i
   ·subst hkk
    refine ⟨c, e', m1', by rw [List.getElem?_set_self (by omega)], keepF ⟨wp, wc, wx, wl, wk, he', F5.p.mono fun y _ hy => ?_⟩⟩
    have := gh'.1
    omega
   ·obtain ⟨c1, e1, a1, a2, a3⟩ := da k hk (by omega)
    exact ⟨c1, e1, a1, by rw [List.getElem?_set_ne (by omega)]; exact a2, keepF (a3.ge g5)⟩
  ·rw [List.getElem?_set_ne (by omega)]; exact db k (by omega)
 ·have hi2 : i = n := by omega
  subst hi2
  simp [t4, t21, t22]
  -- the list, told with its changes
  have key : ∀ k, k < i -> ∃ c e, M[k]? = some c ∧ ds[k]? = some e ∧ ChP h' (fun y => h.next ≤ y) c e := fun k hk => da k hk hk
  obtain ⟨l, hl⟩ : ∃ l, l = M.zip ds := ⟨_, rfl⟩
  have ll : l.length = i := by rw [hl, List.length_zip, hMl, dl]; simp
  have l1 : l.map Prod.fst = M := by rw [hl]; exact List.map_fst_zip (by omega)
  have l2 : l.map Prod.snd = ds := by rw [hl]; exact List.map_snd_zip (by omega)
  have hel2 : ∀ y ∈ l, ChP h' (fun y => h.next ≤ y) y.1 y.2 := fun y hy => by
   obtain ⟨k, hk, rfl⟩ := List.mem_iff_getElem.1 hy
   obtain ⟨c, e, a1, a2, a3⟩ := key k (by omega)
   have b1 : (l.map Prod.fst)[k]? = some l[k].1 := by rw [List.getElem?_map, List.getElem?_eq_getElem hk]; rfl
   have b2 : (l.map Prod.snd)[k]? = some l[k].2 := by rw [List.getElem?_map, List.getElem?_eq_getElem hk]; rfl
   rw [l1, a1] at b1
   rw [l2, a2] at b2
   cases b1
   cases b2
   exact a3
  have hS : ∀ l' : List (Chg × List V), l'.Perm l -> l'.Pairwise (fun x y => ¬ cmpC y.1 x.1 < 0) -> l'.map Prod.fst = P.S := fun l' hp' hs => by
   have p1 : (l'.map Prod.fst).Perm L := ((hp'.map Prod.fst).trans (by rw [l1])).trans hMp
   have k1 : zbJ (l'.map Prod.fst) := by
    have := srt.keys
    unfold zbJ at this ⊢
    exact (p1.map zaF).nodup_iff.2 this
   exact Srt.uniq ⟨p1.symm, zgC k1 (by rw [List.pairwise_map]; exact hs)⟩ srt
  by_cases h0 : i = 0
  ·have hl0 : l = [] := List.length_eq_zero_iff.1 (by omega)
   have hS0 : P.S = [] := by have := hS [] (by rw [hl0]) List.Pairwise.nil; simpa using this.symm
   refine zqJ (fun g => by simp [lenV, h0]) _ ?_
   simp [t4]
   refine q _ [] h' gh' wb ?_
   rw [hS0, h0]
   exact ⟨.inl ⟨rfl, .inr ⟨j, by simp⟩⟩, rfl, by simp⟩
  ·have heL : ∀ y ∈ l, ∃ vp vc vx vl vk, y.2 = chC y.1 vp vc vx vl vk ∧ vp.one = true ∧ vc.one = true ∧ vx.one = true ∧ vl.one = true ∧ vk.one = true := fun y hy => by
    obtain ⟨vp, vc, vx, vl, vk, e, A⟩ := hel2 y hy
    obtain ⟨o1, o2, o3, o4, o5⟩ := A.one
    exact ⟨vp, vc, vx, vl, vk, e, o1, o2, o3, o4, o5⟩
   have hlL : l.length ≤ 1000000 := by omega
   have hneL : l ≠ [] := fun e => by rw [e] at ll; simp at ll; omega
   have hcm : ∀ (a b : Chg) (h' : H), Pure Tryz.prog 79 [.agg (chC a .any .any .any .any .any), .agg (chC b .any .any .any .any .any)] h' (.int .i64 (cmpC a b)) := fun a b h' => zlo rfl rfl rfl rfl rfl rfl rfl rfl rfl rfl
   have hcall : ∀ Q : V -> H -> Prop, (∀ l' : List (Chg × List V), l'.Perm l -> l'.Pairwise (fun x y => ¬ cmpC y.1 x.1 < 0) -> Q (.tup []) (h'.set j (.row (l'.map Prod.snd).flatten))) -> Acalls Tryz.prog 78 [.sl j (l.length * 23) 0 l.length (some i), .func (.func 79) [] []] h' Q := fun Q hQ =>
    zlk xd (.inl (by rw [l2])) heL hlL hneL (by kernel_rfl) hcm hQ
   rw [ll] at hcall
   refine hcall _ fun l' hp' hs => ?_
   simp [t4]
   have hS1 := hS l' hp' hs
   have ll' : l'.length = i := by rw [hp'.length_eq, ll]
   have h23' : ∀ e ∈ l'.map Prod.snd, e.length = 23 := fun e he => by
    obtain ⟨y, hy, rfl⟩ := List.mem_map.1 he
    exact (hel2 y (hp'.mem_iff.1 hy)).at.len
   have hfl' := zeM (n := i) (by simpa using ll') h23'
   obtain ⟨hF, hhF⟩ : ∃ hF, hF = h'.set j (.row (l'.map Prod.snd).flatten) := ⟨_, rfl⟩
   rw [<- hhF]
   have keepF : ∀ {c : Chg} {e : List V}, ChP h' (fun y => h.next ≤ y) c e -> ChP hF (fun y => h.next ≤ y) c e := fun f => f.keep (by rw [hhF]; simp) fun k s' c' _ hk hg => by rw [hhF, H.get_set, if_neg (fun e => by subst e; rw [xd] at hg; cases hg)]; exact hg
   refine q _ (l'.map Prod.snd) hF (by rw [hhF]; exact gh'.set (by have := gh2.1; omega) _) (by rw [hhF]; exact wb.set hjn _) ⟨.inr ⟨fun e => ?_, j, some i, _, by have := gh2.1; omega, by rw [hhF]; simpa using hjn, ?_, by rw [hhF]; simp, .inl rfl⟩, by rw [<- hS1]; simp, fun k c hk => ?_⟩
   ·have h9 := congrArg List.length e
    rw [List.length_map, ll'] at h9; exact h0 h9
   ·rw [hfl']; simp [ll']
   ·rw [<- hS1, List.getElem?_map] at hk
    cases hlk : l'[k]? with
    | none => rw [hlk] at hk; cases hk
    | some y =>
     rw [hlk] at hk
     cases hk
     exact ⟨y.2, by rw [List.getElem?_map, hlk]; rfl, keepF (hel2 y (hp'.mem_iff.1 (List.mem_of_getElem? hlk)))⟩
end Go.Am

namespace Go.Am
open Go.Proofs

set_option maxRecDepth 100000
structure But (h h' : H) (p m : Nat) : Prop where
 next : h.next ≤ h'.next
 keep : ∀ k, k < h.next -> k ≠ p -> k ≠ m -> h'.get k = h.get k
theorem But.refl (h : H) (p m : Nat) : But h h p m := ⟨Nat.le_refl _, fun _ _ _ _ => rfl⟩
theorem But.trans {a b c : H} {p m : Nat} (x : But a b p m) (y : But b c p m) : But a c p m := ⟨Nat.le_trans x.next y.next, fun k hk h1 h2 => (y.keep k (Nat.lt_of_lt_of_le hk x.next) h1 h2).trans (x.keep k hk h1 h2)⟩
theorem Ge.but {h h' : H} (g : Ge h h') (p m : Nat) : But h h' p m := ⟨g.1, fun k hk _ _ => g.2 k hk⟩
theorem PaceAt.lt {h : H} {R : Nat -> Prop} {p m : Nat} {P : Pc} (x : PaceAt h R p m P) (w : h.WF) : p < h.next ∧ m < h.next ∧ p ≠ m := by
 obtain ⟨es, bs, tk, L, a, _⟩ := x.held
 exact ⟨w.lt x.row, w.lt a, fun e => by subst e; rw [x.row] at a; cases a⟩
theorem PaceAt.keep {h h' : H} {R : Nat -> Prop} {p m : Nat} {P : Pc} (x : PaceAt h R p m P) (hn : h.next ≤ h'.next) (hp : h'.get p = h.get p) (hm : h'.get m = h.get m) (k : ∀ j s cs, R j -> j < h.next -> h.get j = some (.grow s cs) -> h'.get j = some (.grow s cs)) : PaceAt h' R p m P :=
 ⟨hp.trans x.row, x.held.keep hn hm k⟩
theorem PaceAt.ge {h h' : H} {R : Nat -> Prop} {p m : Nat} {P : Pc} (x : PaceAt h R p m P) (w : h.WF) (g : Ge h h') : PaceAt h' R p m P :=
 x.keep g.1 (g.2 _ (x.lt w).1) (g.2 _ (x.lt w).2.1) fun j _ _ _ hj e => (g.2 j hj).trans e
theorem zjj {h : H} {gap : Int} {Q : V -> H -> Prop} (q1 : (gap < 0 ∨ 3600 < gap) -> Q (.tup [.nilptr, .int .i64 2]) h)
  (q2 : ¬ (gap < 0 ∨ 3600 < gap) -> ∀ h', Ge h h' -> h'.WF -> PaceAt h' (fun _ => True) (h.next + 1) h.next ⟨gap.toNat, 0, 0, []⟩ -> Q (.tup [.ptr (h.next + 1) 4 0, .int .i64 0]) h') : Acalls Tryz.prog 29 [.int .i64 gap] h Q := by
 refine zao Tryz.func29 S.a3c S.a3e (Nat.le_of_ble_eq_true rfl) fun wf => ?_; simp only [S.a3]
 by_cases h1 : gap < 0
 ·simp [h1]
  exact q1 (.inl h1)
 ·by_cases h2 : 3600 < gap
  ·simp [h1, h2]
   exact q1 (.inr h2)
  ·obtain ⟨g, rfl⟩ : ∃ g : Nat, gap = g := ⟨gap.toNat, by omega⟩
   simp [h1, h2]
   refine q2 (by omega) _ (by simp) ((wf.push _).push _) ⟨?_, ?_⟩
   ·simp [V.cells]
   ·exact ⟨[], [], 0, [], by simp [show ¬ h.next = h.next + 1 by omega], MapB.nil _, ⟨List.Perm.refl _, List.Pairwise.nil⟩, rfl, by simp⟩
def zcC (P : Pc) (now : Nat) : Bool := decide (now ≤ 1099511627776) && decide (P.last ≤ now)
theorem zhp {h : H} {R : Nat -> Prop} {p m : Nat} {P : Pc} (x : PaceAt h R p m P) {now : Nat} : Pure Tryz.prog 69 [.ptr p 4 0, .int .u64 (now : Nat)] h (.int .i64 (if zcC P now = true then 0 else 2)) := by
 refine zaf Tryz.func69 S.a26c S.a26e rfl (Nat.le_of_ble_eq_true rfl) fun wf => ?_; simp only [S.a26]
 have c : zac h.get p 4 = some [.int .i64 (P.gap : Nat), .int .u64 (P.op : Nat), .int .u64 (P.last : Nat), .map m] := (zag (n := 4) x.row rfl).trans rfl
 simp
 refine zfO x _ ?_
 by_cases h1 : now ≤ 1099511627776
 ·have h1' : ¬ (1099511627776 : Int) < (now : Nat) := by omega
  by_cases h2 : P.last ≤ now
  ·have h2' : ¬ ((now : Nat) : Int) < (P.last : Nat) := by omega
   simp [zcC, h1, h1', h2, h2', c]
  ·have h2' : ((now : Nat) : Int) < (P.last : Nat) := by omega
   simp [zcC, h1, h1', h2, h2', c]
 ·have h1' : (1099511627776 : Int) < (now : Nat) := by omega
  simp [zcC, h1, h1']
theorem zdQ {h : H} {R : Nat -> Prop} {p m : Nat} {P : Pc} (x : PaceAt h R p m P) : Pure Tryz.prog 34 [.ptr p 4 0] h (.tup [.int .u64 ((if P.S = [] then 0 else P.op : Nat) : Nat), .bool (!decide (P.S = []))]) := by
 refine zaf Tryz.func34 S.a8c S.a8e rfl (Nat.le_of_ble_eq_true rfl) fun wf => ?_; simp only [S.a8]
 have c : zac h.get p 4 = some [.int .i64 (P.gap : Nat), .int .u64 (P.op : Nat), .int .u64 (P.last : Nat), .map m] := (zag (n := 4) x.row rfl).trans rfl
 have l := x.held.len h.get rfl
 simp
 refine zfO x _ ?_
 by_cases h0 : P.S = []
 ·simp [c, l, h0]
 ·have h1 : (((P.S.length : Nat) : Int) == 0) = false := by simpa using h0
  simp [c, l, h0, h1]
theorem zjP {h : H} {R : Nat -> Prop} {p m : Nat} {P : Pc} (x : PaceAt h R p m P) (hb : P.S.length ≤ 100000) (hg : P.gap ≤ 3600) {now : Nat} (hnow : now ≤ 1099511627776) {Q : V -> H -> Prop}
  (q : ∀ w es h', But h h' p m -> h'.WF -> PaceAt h' R p m (zbj P now) -> LsP h' (fun j => h.next ≤ j) w (zbB P now) es -> Q w h') : Acalls Tryz.prog 70 [.ptr p 4 0, .int .u64 (now : Nat)] h Q := by
 refine zao Tryz.func70 S.a27c S.a27e (Nat.le_of_ble_eq_true rfl) fun wf => ?_; simp only [S.a27]
 obtain ⟨hp, hm, hpm⟩ := x.lt wf
 have xr := x.row
 obtain ⟨h1, hh1⟩ : ∃ h1, h1 = h.set p (.row [.int .i64 (P.gap : Nat), .int .u64 (P.op : Nat), .int .u64 (now : Nat), .map m]) := ⟨_, rfl⟩
 have n1 : h1.next = h.next := by rw [hh1]; simp
 have w1 : h1.WF := by rw [hh1]; exact wf.set hp _
 have k1 : ∀ k, k ≠ p -> h1.get k = h.get k := fun k hk => by rw [hh1, H.get_set, if_neg hk]
 have x1 : PaceAt h1 R p m ⟨P.gap, P.op, now, P.S⟩ := ⟨by rw [hh1]; simp, x.held.keep (by omega) (k1 m (fun e => hpm e.symm)) fun j s cs _ _ e => (k1 j (fun e2 => by subst e2; rw [xr] at e; cases e)).trans e⟩
 have b1 : But h h1 p m := ⟨by omega, fun k _ hk _ => k1 k hk⟩
 have c1 : zac h1.get p 4 = some [.int .i64 (P.gap : Nat), .int .u64 (P.op : Nat), .int .u64 (now : Nat), .map m] := (zag (n := 4) x1.row rfl).trans rfl
 have l1 := x1.held.len h1.get rfl
 simp only at l1
 simp [xr]
 rw [<- hh1]
 by_cases ho : now < P.op
 ·have hgo : zaU P now = false := by simp [zaU, ho]
  simp [ho]
  refine q _ [] h1 b1 w1 (by rw [zbj, hgo]; exact x1) (by rw [zbB, hgo]; exact LsP.nil _ _)
 ·by_cases h0 : P.S = []
  ·have hgo : zaU P now = false := by simp [zaU, h0]
   simp [c1, ho, l1, h0]
   refine q _ [] h1 b1 w1 (by rw [zbj, hgo]; exact x1) (by rw [zbB, hgo]; exact LsP.nil _ _)
  ·have hgo : zaU P now = true := by simp [zaU, ho, h0]
   have h0' : (((P.S.length : Nat) : Int) == 0) = false := by simpa using h0
   simp [c1, ho, l1, h0']
   refine zfC x1 hb fun w es h2 g2 w2 ls => ?_
   have n2 := g2.1
   obtain ⟨es0, bs0, tk0, L0, hm0, _⟩ := x1.held
   have m2 : h2.get m = some (.mapo es0 bs0 tk0) := (g2.2 m (by omega)).trans hm0
   have r2 : h2.get p = some (.row [.int .i64 (P.gap : Nat), .int .u64 (P.op : Nat), .int .u64 (now : Nat), .map m]) := (g2.2 p (by omega)).trans x1.row
   have c2 : zac h2.get p 4 = some [.int .i64 (P.gap : Nat), .int .u64 (P.op : Nat), .int .u64 (now : Nat), .map m] := (zag (n := 4) r2 rfl).trans rfl
   have hu : IntKind.u64.wrap (P.gap : Int) = P.gap := zfp (by omega)
   have hu2 : IntKind.u64.wrap ((now : Int) + (P.gap : Int)) = ((now + P.gap : Nat) : Int) := by rw [<- Int.natCast_add]; exact zfp (by omega)
   simp [c2, m2, zbs, hpm, hu, hu2, r2]
   obtain ⟨hF, hhF⟩ : ∃ hF, hF = (h2.set m (.mapo [] [] tk0)).set p (.row [.int .i64 (P.gap : Nat), .int .u64 ((now + P.gap : Nat) : Nat), .int .u64 (now : Nat), .map m]) := ⟨_, rfl⟩
   have kF : ∀ k, k ≠ p -> k ≠ m -> hF.get k = h2.get k := fun k a b => by rw [hhF, H.get_set, if_neg a, H.get_set, if_neg b]
   have nF : hF.next = h2.next := by rw [hhF]; simp
   have hq := q w es hF ⟨by omega, fun k hk a b => by rw [kF k a b, g2.2 k (by omega)]; exact k1 k a⟩ (by rw [hhF]; exact (w2.set (by omega) _).set (by simp; omega) _) (by
    rw [zbj, hgo]
    exact ⟨by rw [hhF]; simp, [], [], tk0, [], by rw [hhF]; simp [show ¬ m = p from fun e => hpm e.symm], MapB.nil _, ⟨List.Perm.refl _, List.Pairwise.nil⟩, rfl, by simp⟩) (by
    rw [zbB, hgo]
    exact (ls.mono fun j _ hj => by omega).keep (by omega) fun j hj _ => kF j (by have : h.next ≤ j := hj; omega) (by have : h.next ≤ j := hj; omega))
   rw [hhF] at hq
   simpa using hq
theorem zfR {h : H} {R : Nat -> Prop} {p m : Nat} {P : Pc} (x : PaceAt h R p m P) (hb : P.S.length ≤ 100000) (hg : P.gap ≤ 3600) {now : Nat} {Q : V -> H -> Prop}
  (q1 : zcC P now = false -> Q (.tup [.nilsl, .int .i64 2]) h)
  (q2 : zcC P now = true -> ∀ w es h', But h h' p m -> h'.WF -> PaceAt h' R p m (zbj P now) -> LsP h' (fun j => h.next ≤ j) w (zbB P now) es -> Q (.tup [w, .int .i64 0]) h') : Acalls Tryz.prog 30 [.ptr p 4 0, .int .u64 (now : Nat)] h Q := by
 refine zao Tryz.func30 S.a4c S.a4e (Nat.le_of_ble_eq_true rfl) fun wf => ?_; simp only [S.a4]
 simp
 refine zhp x _ ?_
 cases ht : zcC P now with
 | false => simp; exact q1 ht
 | true =>
  simp
  have hn : now ≤ 1099511627776 := by simp [zcC] at ht; omega
  refine zjP x hb hg hn fun w es h' a b c d => ?_
  simp
  exact q2 ht w es h' a b c d
end Go.Am

namespace Go.Am
open Go.Proofs

set_option maxRecDepth 100000
def kyT : TS := .st [(0, 4, true, .st [(0, 1, false, .int), (1, 1, false, .int), (2, 1, false, .str), (3, 1, false, .int)]), (4, 1, false, .int)]
def kyD : KD := .st kyT 5
theorem zol (k : Ky) : zbG kyD (kyV k) = true := rfl
theorem zqT (a b : Ky) : eqV kyT (kyV a) (kyV b) = some (decide (a = b)) := by
 have e1 := zqI a.p b.p
 simp only [pfxC] at e1
 show eqFs _ _ _ = _
 rw [zcb (b := decide (a.p = b.p)) rfl rfl (by simpa using e1), zcb (b := decide (a.id = b.id)) rfl rfl (zj1 _ _ _)]
 by_cases h1 : a.p = b.p <;> by_cases h2 : a.id = b.id <;> cases a <;> cases b <;> simp_all [eqFs]
theorem zfi {ts : TS} {n : Nat} {k x e : V} {es : List (V × V)} {i : Nat} (h1 : zbG (.st ts n) x = true) : zcj (.st ts n) k ((x, e) :: es) i = (match eqV ts k x with
  | some true => some (some (i, e))
  | some false => zcj (.st ts n) k es (i + 1)
  | none => none) := by
 show (if zbG (.st ts n) x = true then _ else none) = _
 rw [if_pos h1]
 rfl
theorem zhQ : ∀ (es : List (V × V)) (L : List Chg) (i0 : Nat), es.length = L.length -> (∀ (i : Nat) (c : Chg), L[i]? = some c -> ∃ e, es[i]? = some (kyV (zaF c), e)) -> ∀ k : Ky,
  (∃ j, ∃ hj : j < L.length, ∃ e, zaF L[j] = k ∧ (∀ a (ha : a < j), zaF L[a] ≠ k) ∧ zcj kyD (kyV k) es i0 = some (some (i0 + j, e))) ∨ ((∀ c ∈ L, zaF c ≠ k) ∧ zcj kyD (kyV k) es i0 = some none)
 | [], [], _, _, _, _ => .inr ⟨by simp, rfl⟩
 | [], _ :: _, _, h, _, _ => by simp at h
 | _ :: _, [], _, h, _, _ => by simp at h
 | x :: es, c :: L, i0, hl, he, k => by
  obtain ⟨e, e0⟩ := he 0 c rfl
  have hx : x = (kyV (zaF c), e) := by simpa using e0
  subst hx
  have hq := zqT k (zaF c)
  by_cases hk : k = zaF c
  ·refine .inl ⟨0, by simp, e, hk.symm, fun a ha => by omega, ?_⟩
   rw [kyD, zfi rfl, hq]; simp [hk]
  ·have ih := zhQ es L (i0 + 1) (by simpa using hl) (fun i c' hi => by simpa using he (i + 1) c' (by simpa using hi)) k
   have hf : zcj kyD (kyV k) ((kyV (zaF c), e) :: es) i0 = zcj kyD (kyV k) es (i0 + 1) := by
    rw [kyD, zfi rfl, hq]; simp [hk]
   rw [hf]
   rcases ih with ⟨j, hj, e', a1, a2, a3⟩ | ⟨a1, a2⟩
   ·refine .inl ⟨j + 1, by simpa using hj, e', a1, fun a ha => ?_, by rw [a3]; congr 3; omega⟩
    cases a with
    | zero => exact fun e => hk e.symm
    | succ a => exact a2 a (by omega)
   ·exact .inr ⟨fun c' hc' => (List.mem_cons.1 hc').elim (fun e => e ▸ fun e2 => hk e2.symm) (a1 c'), a2⟩
theorem HeldAt.set {h : H} {R : Nat -> Prop} {m : Nat} {S : List Chg} (x : HeldAt h R m S) (c : Chg) {e : List V} (hc : ChP h R c e) :
  ∃ o, zb5 h.get kyD (.map m) (kyV (zaF c)) (.agg e) = some (.set m o) ∧ HeldAt (h.set m o) R m (putC S c) := by
 obtain ⟨es, bs, tk, L, hm, mb, srt, hl, he⟩ := x
 have keepS : ∀ {o : O} {c : Chg} {e : List V}, ChP h R c e -> ChP (h.set m o) R c e := fun f => f.keep (by simp) fun j s' cs' _ _ hj => by rw [H.get_set, if_neg (fun e => by subst e; rw [hm] at hj; cases hj)]; exact hj
 rcases zhQ es L 0 hl (fun i c' hi => by obtain ⟨e', a, _⟩ := he i c' hi; exact ⟨_, a⟩) (zaF c) with ⟨j, hj, e', a1, a2, a3⟩ | ⟨a1, a2⟩
 ·refine ⟨.mapo (es.set j (kyV (zaF c), .agg e)) bs tk, ?_, es.set j (kyV (zaF c), .agg e), bs, tk, L.set j c, by simp, mb.set, ?_, by simpa using hl, fun i c' hi => ?_⟩
  ·unfold zb5
   rw [if_pos (zol _)]
   simp only [hm, a3, Nat.zero_add]
  ·have hu : upC L c = L.set j c := by
    rcases zjc L c with ⟨j', hj', b1, b2, b3⟩ | ⟨b1, _⟩
    ·have : j' = j := by
      rcases Nat.lt_trichotomy j j' with h1 | h1 | h1
      ·exact absurd a1 (b3 j h1)
      ·exact h1.symm
      ·exact absurd b1 (a2 j' h1)
     rw [b2, this]
    ·exact absurd a1 (b1 _ (List.getElem_mem hj))
   rw [<- hu]; exact srt.put c
  ·by_cases hij : i = j
   ·subst hij
    rw [List.getElem?_set_self hj, Option.some.injEq] at hi
    subst hi
    exact ⟨e, by rw [List.getElem?_set_self (by omega)], keepS hc⟩
   ·rw [List.getElem?_set_ne (by omega)] at hi
    obtain ⟨e1, b1, b2⟩ := he i c' hi
    exact ⟨e1, by rw [List.getElem?_set_ne (by omega)]; exact b1, keepS b2⟩
 ·refine ⟨.mapo (es ++ [(kyV (zaF c), .agg e)]) (bs ++ [tk]) (tk + 1), ?_, es ++ [(kyV (zaF c), .agg e)], bs ++ [tk], tk + 1, L ++ [c], by simp, mb.snoc, ?_, by simp [hl], fun i c' hi => ?_⟩
  ·unfold zb5
   rw [if_pos (zol _)]
   simp only [hm, a2]
  ·have hu : upC L c = L ++ [c] := by
    rcases zjc L c with ⟨j', hj', b1, _, _⟩ | ⟨_, b2⟩
    ·exact absurd b1 (a1 _ (List.getElem_mem hj'))
    ·exact b2
   rw [<- hu]; exact srt.put c
  ·by_cases hij : i < L.length
   ·rw [List.getElem?_append_left hij] at hi
    obtain ⟨e1, b1, b2⟩ := he i c' hi
    exact ⟨e1, by rw [List.getElem?_append_left (by omega)]; exact b1, keepS b2⟩
   ·rw [List.getElem?_append_right (by omega)] at hi
    have h0 : i - L.length = 0 := by
     rcases Nat.eq_zero_or_pos (i - L.length) with h | h
     ·exact h
     ·rw [List.getElem?_eq_none (by simp; omega)] at hi; cases hi
    rw [h0] at hi
    simp at hi
    subst hi
    exact ⟨e, by rw [List.getElem?_append_right (by omega), hl, h0]; rfl, keepS hc⟩
theorem zdG {h : H} (w : h.WF) {sz : Nat} (es : List (List V)) : ∃ v h', Ge h h' ∧ h'.WF ∧ Gl h' h.next sz v es := by
 by_cases he : es = []
 ·subst he; exact ⟨.nilsl, h, Ge.refl _, w, Gl.nil _ _ _⟩
 ·exact ⟨.sl h.next es.flatten.length 0 es.length none, h.push (.grow sz es.flatten), (Ge.refl _).push _, w.push _, .inr ⟨he, h.next, Nat.le_refl _, by simp, rfl, by simp⟩⟩
theorem zf4 : ∀ (l : List Sg) {g : H}, g.WF -> ∃ (es : List (List V)) (g' : H), Ge g g' ∧ g'.WF ∧ es.length = l.length ∧ ∀ (i : Nat) (s : Sg), l[i]? = some s -> ∃ w, es[i]? = some [.int .i64 s.kind, w] ∧ Fc g' g.next 1 w (s.ases.map cP)
 | [], g, wg => ⟨[], g, Ge.refl _, wg, rfl, by simp⟩
 | s :: l, g, wg => by
  obtain ⟨w, g1, a1, b1, c1⟩ := zdG wg (sz := 1) (s.ases.map cP)
  obtain ⟨es, g2, a2, b2, c2, d2⟩ := zf4 l b1
  refine ⟨[.int .i64 s.kind, w] :: es, g2, a1.trans a2, b2, by simp [c2], fun i t hi => ?_⟩
  cases i with
  | zero => simp at hi; subst hi; exact ⟨w, rfl, (c1.keep a2.1 fun i hi => a2.2 i (c1.lo i hi).2).fr⟩
  | succ i => obtain ⟨u, e, f⟩ := d2 i t (by simpa using hi); exact ⟨u, by simpa using e, f.le a1.1⟩
theorem zkx {g : H} (wg : g.WF) {a : Att} (z : AttSz a) : ∃ wp wc wx wl wk g', Ge g g' ∧ g'.WF ∧ AttFr g' g.next a wp wc wx wl wk := by
 obtain ⟨es, g1, a1, b1, c1, d1⟩ := zf4 a.path wg
 obtain ⟨wp, g2, a2, b2, c2⟩ := zdG b1 (sz := 2) es
 obtain ⟨wc, g3, a3, b3, c3⟩ := zdG b2 (sz := 1) (a.comms.map cP)
 obtain ⟨wx, g4, a4, b4, c4⟩ := zdG b3 (sz := 1) (a.exts.map cX)
 obtain ⟨wl, g5, a5, b5, c5⟩ := zdG b4 (sz := 3) (a.larges.map cL)
 obtain ⟨wk, g6, a6, b6, c6⟩ := zdG b5 (sz := 1) (a.clus.map cP)
 have e1 := a1.1
 have e2 := a2.1
 have e3 := a3.1
 have e4 := a4.1
 have e5 := a5.1
 have t5 := a5.trans a6
 have t4 := a4.trans t5
 have t3 := a3.trans t4
 have t2 := a2.trans t3
 refine ⟨wp, wc, wx, wl, wk, g6, a1.trans t2, b6, ⟨⟨es, (c2.fr.ge t3).le (by omega), c1, fun i s hi => ?_⟩, (c3.fr.ge t4).le (by omega), (c4.fr.ge t5).le (by omega), (c5.fr.ge a6).le (by omega), c6.fr.le (by omega), z⟩⟩
 obtain ⟨w, e, f⟩ := d1 i s hi
 exact ⟨w, e, f.ge t2⟩

theorem zf6 : ∀ (l S : List Chg), (l.foldl putC S).length ≤ S.length + l.length
 | [], S => by simp
 | c :: l, S => by
  have h1 := zf6 l (putC S c)
  have h2 := zhq S c
  simp only [List.foldl_cons, List.length_cons]; omega
theorem zmz {h : H} {R : Nat -> Prop} {p m : Nat} {P : Pc} (x : PaceAt h R p m P) (hR : ∀ j, h.next ≤ j -> R j) {v : V} {L : List Chg} {es : List (List V)} (lk : ∀ h', But h h' p m -> CsAt h'.get v L es) (hb : P.S.length + L.length ≤ 100000) (hg : P.gap ≤ 3600) {now : Nat} {Q : V -> H -> Prop}
  (q1 : (zcC P now && L.all zbS) = false -> Q (.tup [.nilsl, .int .i64 2]) h)
  (q2 : zcC P now = true -> L.all zbS = true -> ∀ w fs h', But h h' p m -> h'.WF -> PaceAt h' R p m (zbj (zcz P L) now) -> LsP h' (fun j => h.next ≤ j) w (zbB (zcz P L) now) fs -> Q (.tup [w, .int .i64 0]) h') : Acalls Tryz.prog 31 [.ptr p 4 0, v, .int .u64 (now : Nat)] h Q := by
 refine zao Tryz.func31 S.a5c S.a5e (Nat.le_of_ble_eq_true rfl) fun wf => ?_; simp only [S.a5]
 have l := lk h (But.refl _ _ _)
 have hlen := l.sls.len
 have hbd := l.sls.bound
 rw [l.len] at hlen hbd
 obtain ⟨hp, hm, hpm⟩ := x.lt wf
 simp
 refine zhp x _ ?_
 cases ht : zcC P now with
 | false => simp; exact q1 (by simp [ht])
 | true =>
  simp
  refine zmi (f := fun c => !zbS c) l (fun c _ vp vc vx vl vk A => by simpa using zkT A) _ ?_
  cases ha : L.all zbS with
  | false =>
   have : L.any (fun c => !zbS c) = true := by
    rw [List.any_eq_not_all_not]; simpa using ha
   simp [this]
   exact q1 (by simp [ha])
  | true =>
   have hany : L.any (fun c => !zbS c) = false := by
    rw [List.any_eq_not_all_not]; simpa using ha
   simp [hany, hlen]
   refine zaJ (fun i t h' => (t 0 = .ptr p 4 0 ∧ t 2 = .int .u64 (now : Nat) ∧ t 19 = v ∧ t 20 = .int .i64 (L.length : Nat) ∧ t 21 = .int .i64 (i : Nat)) ∧ But h h' p m ∧ h'.WF ∧ PaceAt h' R p m (zcz P (L.take i))) L.length ⟨by simp, But.refl _ _ _, wf, by simpa [zcz] using x⟩ ?_
   rintro i t h' hi ⟨⟨t0, t2, t19, t20, t21⟩, bt, wb, xb⟩ K hK
   by_cases hlt : i < L.length
   ·have hw := zaS hlt hbd
    obtain ⟨pp, qq, o, cs, vp, vc, vx, vl, vk, e1, _, e2, e3, e4, A, _, _⟩ := (lk h' bt).atG wb hlt
    have e2' := e2 h' (Ge.refl _)
    obtain ⟨c, hc⟩ : ∃ c, c = L[i] := ⟨_, rfl⟩
    rw [<- hc] at e4 A
    have hcm : zbS c = true := by rw [hc]; exact List.all_eq_true.1 ha _ (List.getElem_mem hlt)
    have hz : AttSz c.att := by
     simp only [zbS, Bool.and_eq_true] at hcm
     have h2 := hcm.2
     split at h2
     ·simp only [Bool.and_eq_true, decide_eq_true_eq] at h2
      rw [h2.2]; exact (zjl h' R).sz
     ·exact zmK h2
    obtain ⟨o1, o2, o3, o4, o5⟩ := A.one
    obtain ⟨h3, hh3⟩ : ∃ h3, h3 = h'.push (.row (chC c vp vc vx vl vk)) := ⟨_, rfl⟩
    have g3 : Ge h' h3 := by rw [hh3]; exact (Ge.refl _).push _
    have w3 : h3.WF := by rw [hh3]; exact wb.push _
    have n3 : h3.next = h'.next + 1 := by rw [hh3]; simp
    have c3 : zac h3.get h'.next 23 = some (chC c vp vc vx vl vk) := by rw [hh3]; simp [chC]
    have x3 := xb.ge wb g3
    obtain ⟨lp, lm, _⟩ := x3.lt w3
    obtain ⟨lp', lm', _⟩ := xb.lt wb
    have cp : zac h3.get p 4 = some [.int .i64 (P.gap : Nat), .int .u64 (P.op : Nat), .int .u64 (P.last : Nat), .map m] := (zag (n := 4) x3.row rfl).trans rfl
    have ow := fun Q q => zjJ (h := h3) (Q := Q) (A.ge wb g3) hz q
    obtain ⟨yp, yc, yx, yl, yk, hy, gy, wy, fy⟩ := zkx w3 hz
    simp only [chC] at e4 hh3 c3 ow
    simp [t19, t20, t21, hlt, e1, e2', e3, e4, o1, o2, o3, o4, o5]
    rw [zb6 _ _ _ rfl, <- hh3]
    refine zeg [p, h'.next] [0, 0, 0, 2, 0, 0, 2, 0, 0, 2, 0, 0, 1, 0] rfl (by rfl) ?_
    simp [t0, c3, cp, I.foot, za5]
    refine ⟨by decide, fun w g => ∃ wp wc wx wl wk, w = .agg (chC c wp wc wx wl wk) ∧ Ge h3 g ∧ g.WF ∧ AttFr g h3.next c.att wp wc wx wl wk, ⟨_, hy, yp, yc, yx, yl, yk, rfl, gy, wy, fy⟩, ow _ fun wp wc wx wl wk g a b f => ⟨wp, wc, wx, wl, wk, rfl, a, b, f⟩, ?_⟩
    rintro _ g ⟨wp, wc, wx, wl, wk, rfl, gg, wg, F⟩
    refine ⟨fun _ => fun k hk => ?_, ?_⟩
    ·simp only [List.mem_cons, List.not_mem_nil, or_false] at hk
     exact gg.2 _ (by omega)
    have xg := x3.ge w3 gg
    obtain ⟨f1, f2, f3, f4, f5⟩ := F.one
    have hch : ChP g R c (chC c wp wc wx wl wk) := ⟨wp, wc, wx, wl, wk, rfl, F.p.mono fun j _ hj => hR j (by have := bt.next; omega)⟩
    obtain ⟨ob, hset, hld⟩ := xg.held.set c hch
    have hset' := hset
    simp only [kyD, kyT, kyV, zaF] at hset
    have mg : m < g.next := (xg.lt wg).2.1
    have pg : p < g.next := (xg.lt wg).1
    simp [hset, hw, t21]
    have ng := gg.1
    refine hK _ _ hlt ⟨by simp [t0, t2, t19, t20], ⟨by have := bt.next; simp; omega, fun k hk a b => ?_⟩, wg.set mg _, ⟨?_, ?_⟩⟩
    ·have := bt.next
     rw [H.get_set, if_neg b, gg.2 k (by omega), g3.2 k (by omega)]; exact bt.keep k hk a b
    ·rw [H.get_set, if_neg hpm]; exact xg.row
    ·have ht1 : L.take (i + 1) = L.take i ++ [c] := by rw [List.take_add_one, List.getElem?_eq_getElem hlt, <- hc]; rfl
     rw [ht1]
     show HeldAt _ R m ((L.take i ++ [c]).foldl putC P.S)
     rw [List.foldl_append]
     exact hld
   ·have hi2 : i = L.length := by omega
    subst hi2
    rw [List.take_length] at xb
    have hn : now ≤ 1099511627776 := by simp [zcC] at ht; omega
    have hfl := zf6 L P.S
    simp [t0, t2, t20, t21]
    refine zjP xb (by show (L.foldl putC P.S).length ≤ _; omega) hg hn fun w fs h2 a b cc d => ?_
    simp
    exact q2 ht ha w fs h2 (bt.trans a) b cc (d.mono fun j _ hj => by have := bt.next; have : h'.next ≤ j := hj; omega)
end Go.Am

namespace Go.Am
open Go.Proofs

set_option maxRecDepth 100000
theorem p_no : Fr.KnownOk Tryz.prog [] := fun _ h => by cases h
theorem zij : Fr.plainRun (Fr.runO8 [] Fr.q.tab 100000 60) 63 [.str [118, 52, 32, 49, 48, 46, 48, 46, 48, 46, 48, 47, 56]] = some (.tup [.agg [.int .i64 1, .int .u64 0, .str [10, 0, 0, 0], .int .i64 8], .int .i64 0]) := by kernel_rfl
theorem zjH (h : H) : Pure Tryz.prog 63 [.str [118, 52, 32, 49, 48, 46, 48, 46, 48, 46, 48, 47, 56]] h (.tup [.agg [.int .i64 1, .int .u64 0, .str [10, 0, 0, 0], .int .i64 8], .int .i64 0]) := zjQ p_no Fr.q.tab_ok zij h
theorem zm5 (g : Nat -> Option O) {a : Att} (h1 : a.path = []) (h2 : a.comms = []) (h3 : a.exts = []) (h4 : a.larges = []) (h5 : a.clus = []) : AttAt g a .nilsl .nilsl .nilsl .nilsl .nilsl := by
 refine ⟨⟨[], zb4 _ _, by rw [h1]; rfl, by simp [h1]⟩, ?_, ?_, ?_, ?_⟩
 ·rw [h2]; exact zb4 _ _
 ·rw [h3]; exact zb4 _ _
 ·rw [h4]; exact zb4 _ _
 ·rw [h5]; exact zb4 _ _
def chN (c : Chg) : List V := chC c .nilsl .nilsl .nilsl .nilsl .nilsl
def NoL (a : Att) : Prop := a.path = [] ∧ a.comms = [] ∧ a.exts = [] ∧ a.larges = [] ∧ a.clus = []
theorem zko : NoL att0 := ⟨rfl, rfl, rfl, rfl, rfl⟩
theorem zfs (i : Nat) : NoL (attM i) := ⟨rfl, rfl, rfl, rfl, rfl⟩
theorem zop {g : Nat -> Option O} {j : Nat} {c : Chg} (hc : NoL c.att) (hj : g j = some (.row (chN c))) : CsAt g (.sl j 23 0 1 (some 1)) [c] [chN c] := by
 refine ⟨⟨.inr ⟨j, 23, 0, some 1, rfl⟩, by simp [chN, chC], ?_, by simp⟩, rfl, fun i c' hi => ?_⟩
 ·rw [zaA, if_neg (by simp), zag (n := 23) hj rfl]
  simp [chN, chC]
 ·cases i with
  | zero =>
   simp at hi; subst hi
   exact ⟨chN c, rfl, _, _, _, _, _, rfl, zm5 _ hc.1 hc.2.1 hc.2.2.1 hc.2.2.2.1 hc.2.2.2.2⟩
  | succ i => simp at hi
def zat (id med : Nat) : Chg := ⟨false, ⟨⟨1, 0, [10, 0, 0, 0], 8⟩, id, 0⟩, attM med⟩
theorem zeK {h : H} {id med : Nat} : Pure Tryz.prog 42 [.str [118, 52, 32, 49, 48, 46, 48, 46, 48, 46, 48, 47, 56], .int .u32 (id : Nat), .int .u32 (med : Nat)] h (.agg (chN (zat id med))) := by
 refine zaf Tryz.func42 S.a10c S.a10e rfl (Nat.le_of_ble_eq_true rfl) fun wf => ?_; simp only [S.a10]
 simp
 refine zjH _ _ ?_
 simp [chN, chC, zat, attM]
 exact ((((Ge.refl _).push _).push _).set (by omega) _).set (Nat.le_refl _) _
theorem zqH {h : H} {x : Stp} {i : Nat} (hk : x.key < 256) (hi : i < 4294967296) : Pure Tryz.prog 32 [.agg [.int .u8 (x.key : Nat), .int .u8 (x.wait : Nat), .bool x.gone, .bool x.fire], .int .i64 (i : Nat)] h (.agg (chN (zcs x i))) := by
 refine zaf Tryz.func32 S.a6c S.a6e rfl (Nat.le_of_ble_eq_true rfl) fun wf => ?_; simp only [S.a6]
 have r4 : intV .rem .u8 (x.key : Int) 4 = some (.int .u8 ((x.key % 4 : Nat) : Int)) := by simp [intV]; rw [Int.tmod_eq_emod_of_nonneg (by omega)]
 have r8 : intV .rem .u8 (x.key : Int) 8 = some (.int .u8 ((x.key % 8 : Nat) : Int)) := by simp [intV]; rw [Int.tmod_eq_emod_of_nonneg (by omega)]
 have hnl : nlOf x.key = ⟨⟨1, 0, [UInt8.ofNat (10 + x.key % 4), 0, 0, 0], 8⟩, x.key % 8 / 4, 0⟩ := rfl
 obtain ⟨k4, hk4⟩ : ∃ k4 : Nat, k4 = x.key % 4 := ⟨_, rfl⟩
 obtain ⟨k8, hk8⟩ : ∃ k8 : Nat, k8 = x.key % 8 := ⟨_, rfl⟩
 obtain ⟨k2, hk2⟩ : ∃ k2 : Nat, k2 = k8 / 4 := ⟨_, rfl⟩
 rw [<- hk4] at r4
 rw [<- hk8] at r8
 rw [<- hk4, <- hk8, <- hk2] at hnl
 have d4 : intV .quo .u8 (k8 : Int) 4 = some (.int .u8 (k2 : Int)) := by
  have : (k8 : Int).tdiv 4 = (k2 : Int) := by rw [Int.tdiv_eq_ediv_of_nonneg (by omega)]; omega
  have w : IntKind.u8.wrap (k2 : Int) = (k2 : Int) := zhW (by omega)
  simp [intV, this, w]
 have w10 : IntKind.u8.wrap (10 + (k4 : Int)) = ((10 + k4 : Nat) : Int) := by
  rw [show (10 + (k4 : Int)) = ((10 + k4 : Nat) : Int) by omega]; exact zhW (by omega)
 have t10 : (10 + (k4 : Int)).toNat = 10 + k4 := by omega
 have w32 : IntKind.u32.wrap (k2 : Int) = (k2 : Int) := by simp [IntKind.wrap, IntKind.bits, IntKind.signed]; omega
 have wi : IntKind.u32.wrap (i : Int) = (i : Int) := by simp [IntKind.wrap, IntKind.bits, IntKind.signed]; omega
 have n1 : ¬ h.next = h.next + 1 := by omega
 have n2 : ¬ h.next = h.next + 1 + 1 := by omega
 have n3 : ¬ h.next = h.next + 1 + 1 + 1 := by omega
 simp [r4, r8, d4, w10, w32, u8Of, zak, zaA, t10, n2, n3]
 cases hg : x.gone with
 | true =>
  simp [chN, chC, zcs, hg, hnl, att0]
  repeat' (first | exact Ge.refl _ | refine Ge.push ?_ _ | refine Ge.set ?_ (by omega) _)
 | false =>
  simp [chN, chC, zcs, hg, hnl, attM, wi]
  repeat' (first | exact Ge.refl _ | refine Ge.push ?_ _ | refine Ge.set ?_ (by omega) _)
theorem zjI (i : Nat) : attB (attM i) = true := by simp [attB, attM, zd5, risB, adjB]
theorem zor : ∀ k4, k4 < 4 -> ∀ k2, k2 < 2 -> mayN ⟨⟨1, 0, [UInt8.ofNat (10 + k4), 0, 0, 0], 8⟩, k2, 0⟩ = true := by decide +kernel
theorem zeT (id i : Nat) (h : id < 2) : zbS (zat id i) = true := by
 have := zor 0 (by omega) id h
 have e : (UInt8.ofNat (10 + 0)) = 10 := rfl
 rw [e] at this
 simp [zbS, zat, this, zjI]
theorem zln (x : Stp) (i : Nat) : zbS (zcs x i) = true := by
 have := zor (x.key % 4) (Nat.mod_lt _ (by decide)) (x.key % 8 / 4) (by omega)
 obtain ⟨k, w, g, f⟩ := x
 simp only at this
 have e : UInt8.ofNat (10 + k % 4) = 10 + UInt8.ofNat (k % 4) := by simp
 rw [e] at this
 cases g <;> simp [zbS, zcs, nlOf, this, zjI]
theorem zei {h : H} {p m : Nat} {P : Pc} (wf : h.WF) (x : PaceAt h (fun _ => True) p m P) {c : Chg} (hc : NoL c.att) (hm : zbS c = true) (hb : P.S.length + 1 ≤ 100000) (hg : P.gap ≤ 3600) {now : Nat} (ht : zcC P now = true) {Q : V -> H -> Prop}
  (q : ∀ w fs h', But h h' p m -> h'.WF -> PaceAt h' (fun _ => True) p m (zbj (zcz P [c]) now) -> LsP h' (fun j => h.next ≤ j) w (zbB (zcz P [c]) now) fs -> Q (.tup [w, .int .i64 0]) h') :
  Acalls Tryz.prog 31 [.ptr p 4 0, .sl h.next 23 0 1 (some 1), .int .u64 (now : Nat)] (h.push (.row (chN c))) Q := by
 have g1 : Ge h (h.push (.row (chN c))) := (Ge.refl _).push _
 obtain ⟨lp, lm, _⟩ := x.lt wf
 refine zmz (x.ge wf g1) (fun _ _ => trivial) (v := .sl h.next 23 0 1 (some 1)) (L := [c]) (es := [chN c]) (fun h' b => zop hc ?_) (by simpa using hb) hg (fun e => ?_) (fun _ _ w fs h' a b cc d => q w fs h' ((g1.but p m).trans a) b cc (d.mono fun j _ hj => by have := g1.1; have : (h.push (.row (chN c))).next ≤ j := hj; omega))
 ·rw [b.keep h.next (by simp) (by omega) (by omega)]; simp
 ·simp [ht, hm] at e
theorem LsP.lenV {h : H} {R : Nat -> Prop} {v : V} {L : List Chg} {es : List (List V)} (s : LsP h R v L es) (g : Nat -> Option O) : lenV 1 g v = some (.int .i64 (L.length : Nat)) := by
 rw [<- s.len]
 rcases s.fc with ⟨rfl, rfl | ⟨k, rfl⟩⟩ | ⟨_, j, ca, o, _, _, rfl, _⟩ <;> simp
theorem zel (h : H) : Pure Tryz.prog 35 [] h (.bool true) := by
 refine zaf Tryz.func35 S.a9c S.a9e rfl (Nat.le_of_ble_eq_true rfl) fun wf => ?_; simp only [S.a9]
 simp
 refine zjj (gap := 5) (fun e => by omega) fun _ h1 g1 w1 x1 => ?_
 obtain ⟨p, hp⟩ : ∃ p, p = h.next + 1 := ⟨_, rfl⟩
 obtain ⟨m, hm⟩ : ∃ m, m = h.next := ⟨_, rfl⟩
 rw [<- hp, <- hm] at x1
 rw [<- hp]
 have cm1 : zbS (zat 0 1) = true := zeT 0 1 (by omega)
 have cm2 : zbS (zat 0 2) = true := zeT 0 2 (by omega)
 have cm3 : zbS (zat 0 3) = true := zeT 0 3 (by omega)
 simp
 refine zeK (id := 0) (med := 1) _ ?_
 simp [chN, chC, zat, attM]
 have pc1 := fun Q q => zei (Q := Q) w1 x1 (zfs 1 : NoL (zat 0 1).att) cm1 (by simp) (by simp) (now := 3) (by rfl) q
 have f1 : zbj (zcz ⟨5, 0, 0, []⟩ [zat 0 1]) 3 = ⟨5, 8, 3, []⟩ := rfl
 have u1 : zbB (zcz ⟨5, 0, 0, []⟩ [zat 0 1]) 3 = [zat 0 1] := rfl
 have e5 : (5 : Int).toNat = 5 := rfl
 simp only [chN, chC, zat, attM, e5] at pc1 f1 u1
 rw [f1, u1] at pc1
 refine pc1 _ fun a1 es1 h2 b2 w2 x2 l2 => ?_
 clear pc1
 simp
 refine zeK (id := 0) (med := 2) _ ?_
 simp [chN, chC, zat, attM]
 have pc2 := fun Q q => zei (Q := Q) w2 x2 (zfs 2 : NoL (zat 0 2).att) cm2 (by simp) (by simp) (now := 4) (by rfl) q
 have f2 : zbj (zcz ⟨5, 8, 3, []⟩ [zat 0 2]) 4 = ⟨5, 8, 4, [zat 0 2]⟩ := rfl
 have u2 : zbB (zcz ⟨5, 8, 3, []⟩ [zat 0 2]) 4 = [] := rfl
 simp only [chN, chC, zat, attM] at pc2 f2 u2
 rw [f2, u2] at pc2
 refine pc2 _ fun a2 es2 h3 b3 w3 x3 l3 => ?_
 clear pc2
 simp
 refine zeK (id := 0) (med := 3) _ ?_
 simp [chN, chC, zat, attM]
 have pc3 := fun Q q => zei (Q := Q) w3 x3 (zfs 3 : NoL (zat 0 3).att) cm3 (by simp) (by simp) (now := 7) (by rfl) q
 have f3 : zbj (zcz ⟨5, 8, 4, [zat 0 2]⟩ [zat 0 3]) 7 = ⟨5, 8, 7, [zat 0 3]⟩ := rfl
 have u3 : zbB (zcz ⟨5, 8, 4, [zat 0 2]⟩ [zat 0 3]) 7 = [] := rfl
 simp only [chN, chC, zat, attM] at pc3 f3 u3
 rw [f3, u3] at pc3
 refine pc3 _ fun a3 es3 h4 b4 w4 x4 l4 => ?_
 clear pc3
 simp
 refine zdQ x4 _ ?_
 simp
 have f4 : zbj ⟨5, 8, 7, [zat 0 3]⟩ 8 = ⟨5, 13, 8, []⟩ := rfl
 have u4 : zbB ⟨5, 8, 7, [zat 0 3]⟩ 8 = [zat 0 3] := rfl
 simp only [zat, attM] at f4 u4
 refine zfR x4 (by simp) (by simp) (now := 8) (fun e => by cases e) fun _ a4 es4 h5 b5 w5 x5 l5 => ?_
 rw [u4] at l5
 have c1 := l2.lenV h5.get
 have c2 := l3.lenV h5.get
 have c3 := l4.lenV h5.get
 have c4 := l5.lenV h5.get
 obtain ⟨pp, q, o, cs, vp, vc, vx, vl, vk, i1, _, i2, i3, i4, _, _, i5⟩ := (l5.at (by simp)).atG w5 (k := 0) (by simp)
 have i2' := i2 h5 (Ge.refl _)
 have i6 := i5 11 (by omega)
 simp [chC] at i6
 have i1' := i1 .i64
 simp at i1'
 simp only [List.length_nil, List.length_cons] at c1 c2 c3 c4
 simp [c1, c2, c3, c4, i1', i2', i6]
 have n1 := g1.1
 have m1 := b2.next
 have m2 := b3.next
 have m3 := b4.next
 have m4 := b5.next
 exact ⟨by omega, fun k hk => by rw [b5.keep k (by omega) (by omega) (by omega), b4.keep k (by omega) (by omega) (by omega), b3.keep k (by omega) (by omega) (by omega), b2.keep k (by omega) (by omega) (by omega), g1.2 k hk]⟩
end Go.Am

namespace Go.Am
open Go.Proofs

set_option maxRecDepth 100000
theorem But.pace {h h' : H} {R R' : Nat -> Prop} {p m p' m' : Nat} {P P' : Pc} (b : But h h' p m) (w : h.WF) (x : PaceAt h R p m P) (y : PaceAt h R' p' m' P') (h1 : p' ≠ p) (h2 : m' ≠ m) : PaceAt h' R' p' m' P' := by
 obtain ⟨es, bs, tk, L, a, _⟩ := x.held
 obtain ⟨es', bs', tk', L', a', _⟩ := y.held
 have xr := x.row
 have yr := y.row
 obtain ⟨l1, l2, _⟩ := y.lt w
 refine y.keep b.next (b.keep _ l1 h1 fun e => by subst e; rw [yr] at a; cases a) (b.keep _ l2 (fun e => by subst e; rw [xr] at a'; cases a') h2) fun j s cs _ hj e => ?_
 rw [b.keep j hj (fun e2 => by subst e2; rw [xr] at e; cases e) (fun e2 => by subst e2; rw [a] at e; cases e)]; exact e
def stC (x : Stp) : List V := [.int .u8 (x.key : Nat), .int .u8 (x.wait : Nat), .bool x.gone, .bool x.fire]
structure FInv (g now since : Nat) (P : Pc) (n : Nat) : Prop where
 gap : P.gap = g
 last : P.last ≤ now
 op : P.op ≤ now + g
 hold : P.S ≠ [] -> now < P.op ∧ P.op ≤ since + g
 len : P.S.length ≤ n
theorem FInv.fire {g now since n : Nat} {P : Pc} (v : FInv g now since P n) : FInv g (now + 1) since (zbj P (now + 1)) n := by
 unfold zbj
 cases hg : zaU P (now + 1) with
 | true => exact ⟨v.gap, by simp, by simp [v.gap], fun h => by simp at h, by simp⟩
 | false =>
  have h1 := v.hold
  have h2 := v.op
  simp only [zaU, Bool.not_eq_false', Bool.or_eq_true, decide_eq_true_eq] at hg
  exact ⟨v.gap, by simp, by simp; omega, fun h => by
   have := h1 h
   rcases hg with hg | hg
   ·exact ⟨hg, this.2⟩
   ·exact absurd hg h, v.len⟩
theorem zmL (S : List Chg) (c : Chg) : putC S c ≠ [] := by
 cases S with
 | nil => simp [putC]
 | cons d l => unfold putC; split <;> (try split) <;> simp
theorem FInv.put {g now since n : Nat} {P : Pc} (v : FInv g now since P n) (c : Chg) : FInv g now (if P.S = [] then now else since) (zbj (zcz P [c]) now) (n + 1) := by
 have hl := zhq P.S c
 have h2 := v.op
 have h3 := v.len
 unfold zbj
 cases hg : zaU (zcz P [c]) now with
 | true => exact ⟨v.gap, by simp, by show now + P.gap ≤ now + g; rw [v.gap]; omega, fun h => by simp at h, by simp⟩
 | false =>
  have hne : (zcz P [c]).S ≠ [] := zmL _ _
  simp only [zaU, Bool.not_eq_false', Bool.or_eq_true, decide_eq_true_eq] at hg
  have h4 : now < P.op := hg.elim id fun h => absurd h hne
  refine ⟨v.gap, Nat.le_refl _, h2, fun _ => ⟨h4, ?_⟩, Nat.le_trans hl (by omega)⟩
  by_cases h0 : P.S = []
  ·rw [if_pos h0]; exact h2
  ·rw [if_neg h0]; exact (v.hold h0).2
theorem zoG (x : Stp) (i : Nat) : NoL (zcs x i).att := by
 obtain ⟨k, w, g, f⟩ := x
 cases g
 ·exact zfs i
 ·exact zko
end Go.Am

namespace Go.Am
open Go.Proofs

def stpL : List Lf := [.int .u8, .int .u8, .bool, .bool]
theorem zmt : ∀ {ess : List (List V)}, (∀ es ∈ ess, Lfs stpL es) -> ∃ l : List Stp, ess = l.map stC ∧ ∀ x ∈ l, x.key < 256 ∧ x.wait < 256
 | [], _ => ⟨[], rfl, fun _ h => by cases h⟩
 | es :: ess, h => by
  obtain ⟨l, rfl, hl⟩ := zmt (ess := ess) fun e he => h e (List.mem_cons_of_mem _ he)
  cases h es (by simp) with
  | cons h1 r1 => cases r1 with
   | cons h2 r2 => cases r2 with
    | cons h3 r3 => cases r3 with
     | cons h4 r4 => cases r4 with
      | nil =>
       obtain ⟨n1, rfl, f1⟩ := zlJ zoQ h1
       obtain ⟨n2, rfl, f2⟩ := zlJ zoQ h2
       obtain ⟨b3, rfl⟩ := h3
       obtain ⟨b4, rfl⟩ := h4
       exact ⟨⟨n1, n2, b3, b4⟩ :: l, rfl, fun x hx => (List.mem_cons.1 hx).elim (fun e => by subst e; exact ⟨f1, f2⟩) (hl x)⟩
end Go.Am

namespace Go.Am
open Go.Proofs

def rowI (f : Nat -> Nat) : List V := (List.range 8).map fun k => V.int .i64 (f k : Nat)
theorem zbd (f : Nat -> Nat) : (rowI f).length = 8 := by simp [rowI]
theorem zdi (f : Nat -> Nat) {k : Nat} (h : k < 8) : (rowI f)[k]? = some (.int .i64 (f k : Nat)) := by simp [rowI, h]
theorem zhz (f : Nat -> Nat) {k : Nat} (v : Nat) (h : k < 8) : (rowI f).take k ++ V.int .i64 (v : Nat) :: (rowI f).drop (k + 1) = rowI (upAt f k v) := by
 apply List.ext_getElem?
 intro i
 by_cases hi : i < 8
 ·rw [zdi _ hi]
  rcases Nat.lt_trichotomy i k with h1 | h1 | h1
  ·rw [List.getElem?_append_left (by simp [zbd]; omega), List.getElem?_take_of_lt h1, zdi _ hi, zdj _ _ (by omega)]
  ·subst h1
   rw [List.getElem?_append_right (by simp [zbd]; omega)]
   simp [zbd, Nat.min_eq_left (Nat.le_of_lt h), zcc]
  ·rw [List.getElem?_append_right (by simp [zbd]; omega), List.length_take, zbd, Nat.min_eq_left (by omega)]
   obtain ⟨d, hd⟩ : ∃ d, i - k = d + 1 := ⟨i - k - 1, by omega⟩
   rw [hd, List.getElem?_cons_succ, List.getElem?_drop, show k + 1 + d = i by omega, zdi _ hi, zdj _ _ (by omega)]
 ·rw [List.getElem?_eq_none (by simp [zbd]; omega), List.getElem?_eq_none (by rw [zbd]; omega)]
theorem ix8 {j k : Nat} (hk : k < 8) (kd : IntKind) : zaw 1 (.sl j 8 0 8 (some 8)) (.int kd (k : Int)) = some (.ptr j 8 k) := by
 simp only [zbF, Int.toNat_natCast]
 rw [if_pos ⟨by omega, by omega⟩]; simp
theorem zhM {g : Nat -> Option O} {j : Nat} {f : Nat -> Nat} (h : g j = some (.row (rowI f))) : zac g j 8 = some (rowI f) := by
 rw [zag h (by simp [zbd])]; rfl
theorem zfc (put sent : Nat -> Nat) : zbe put sent [] = sent := by
 funext k; simp [zbe]
theorem zgr (put sent : Nat -> Nat) (m : List Chg) (c : Chg) : zbe put sent (m ++ [c]) = upAt (zbe put sent m) (ixOf c) (put (ixOf c)) := by
 funext k
 rw [zg4]
 unfold upAt
 split
 ·rename_i h; rw [h]
 ·rfl
theorem zg2 {h : H} {R : Nat -> Prop} {p m : Nat} {P : Pc} (y : PaceAt h R p m P) {j : Nat} {f : Nat -> Nat} (ys : h.get j = some (.row (rowI f))) : j ≠ p ∧ j ≠ m := by
 obtain ⟨es, bs, tk, L, a, _⟩ := y.held
 have r := y.row
 constructor
 ·intro e
  subst e
  rw [ys] at r
  simp only [Option.some.injEq, O.row.injEq] at r
  have := congrArg List.length r
  rw [zbd] at this
  simp at this
 ·intro e; subst e; rw [ys] at a; cases a
theorem PInv.len8 {g i : Nat} {l : List Stp} {P : Pc} {put sent : Nat -> Nat} (v : PInv g l i P put sent) : P.S.length ≤ 8 := by
 rw [v.count]
 exact Nat.le_trans (List.length_filter_le _ _) (by simp)
end Go.Am

namespace Go.Am
open Go.Proofs

set_option maxRecDepth 100000
theorem zlt {h : H} {v : V} {l : List Stp} (hs : Sls h.get 4 v (l.map stC)) (w : h.WF) {i : Nat} (hi : i < l.length) :
  ∃ pp q o cs, (∀ kd, zaw 4 v (.int kd (i : Int)) = some (.ptr pp q o)) ∧ (∀ b, Ge h b -> zac b.get pp q = some cs) ∧ o + 4 ≤ cs.length ∧ (cs.drop o).take 4 = stC l[i] ∧ cs[o]? = some (.int .u8 (l[i].key : Nat)) ∧ cs[o + 1]? = some (.int .u8 (l[i].wait : Nat)) ∧ cs[o + 2]? = some (.bool l[i].gone) ∧ cs[o + 3]? = some (.bool l[i].fire) := by
 obtain ⟨pp, q, o, cs, f1, f2, f3, f4, f5, f6⟩ := hs.atG w (k := i) (by simpa using hi)
 rw [List.getElem_map] at f5
 have i0 := f6 0 (by omega)
 have i1 := f6 1 (by omega)
 have i2 := f6 2 (by omega)
 have i3 := f6 3 (by omega)
 simp only [List.getElem_map, stC] at i0 i1 i2 i3
 exact ⟨pp, q, o, cs, f1, f3, f4, f5, by simpa using i0, by simpa using i1, by simpa using i2, by simpa using i3⟩
structure KInv (g : Nat) (l : List Stp) (i now last : Nat) (sm : Bool) (P : Pc) (put sent : Nat -> Nat) : Prop where
 inv : PInv g l i P put sent
 lst : P.last ≤ now
 small : now ≤ 7 * i
 opn : if sm = true then P.op = last + g else P.op = 0
 hold : P.S ≠ [] -> now < P.op
 len : P.S.length ≤ 8
 la : last ≤ now
theorem ziJ {put sent : Nat -> Nat} {m : List Chg} {q : Nat} (h : q ∉ m.map ixOf) : zbe put sent m q = sent q := if_neg h
theorem zoj {m : List Chg} (hn : (m.map ixOf).Nodup) {k : Nat} (hk : k < m.length) : ixOf m[k] ∉ (m.take k).map ixOf := fun hm => by
 obtain ⟨c, hc, e⟩ := List.mem_map.1 hm
 obtain ⟨j, hj, rfl⟩ := List.mem_iff_getElem.1 hc
 rw [List.length_take] at hj
 rw [List.getElem_take] at e
 have e2 : (m.map ixOf)[j]'(by simp; omega) = (m.map ixOf)[k]'(by simpa using hk) := by simpa using e
 have := (List.getElem_inj (h₀ := by simp; omega) (h₁ := by simpa using hk) hn).1 e2
 omega
theorem KInv.fire {g i now last nw : Nat} {l : List Stp} {sm : Bool} {P P1 : Pc} {put put2 sent : Nat -> Nat} (kv : KInv g l i now last sm P put sent) (v2 : PInv g l (i + 1) P1 put2 sent) (op2 : P1.op = P.op) (h1 : now ≤ nw) (h2 : nw ≤ now + 7) :
  KInv g l (i + 1) nw (if 0 < (zbB P1 nw).length then nw else last) (sm || decide (0 < (zbB P1 nw).length)) (zbj P1 nw) put2 (zbe put2 sent (zbB P1 nw)) := by
 have sml := kv.small
 cases hg : zaU P1 nw with
 | true =>
  have e1 : zbB P1 nw = P1.S := by rw [zbB, if_pos hg]
  have e2 : zbj P1 nw = ⟨P1.gap, nw + P1.gap, nw, []⟩ := by rw [zbj, if_pos hg]
  have h0 : 0 < P1.S.length := by
   simp only [zaU, Bool.not_eq_true', Bool.or_eq_false_iff, decide_eq_false_iff_not] at hg
   exact List.length_pos_iff.2 hg.2
  rw [e1, e2]
  have vv := v2.gone (nw + P1.gap) nw
  exact ⟨vv, Nat.le_refl _, by omega, by simp [h0, v2.gap], fun h => absurd rfl h, by simp, by rw [if_pos h0]; exact Nat.le_refl _⟩
 | false =>
  have e1 : zbB P1 nw = [] := by rw [zbB, hg]; rfl
  have e2 : zbj P1 nw = ⟨P1.gap, P1.op, nw, P1.S⟩ := by rw [zbj, hg]; rfl
  rw [e1, e2, zfc]
  have vv := v2.with P1.op nw
  refine ⟨vv, Nat.le_refl _, by omega, ?_, fun h => ?_, v2.len8, by have := kv.la; simp; omega⟩
  ·have := kv.opn
   simp only [List.length_nil, Nat.lt_irrefl, decide_false, Bool.or_false, if_false, op2]
   exact this
  ·simp only [zaU, Bool.not_eq_false', Bool.or_eq_true, decide_eq_true_eq] at hg
   rcases hg with hg | hg
   ·exact hg
   ·exact absurd hg h
theorem ziB (f : Nat -> Bool) (k : Nat) : ((List.range (k + 1)).filter f).length = ((List.range k).filter f).length + if f k = true then 1 else 0 := by
 rw [List.range_succ, List.filter_append, List.length_append]
 cases h : f k <;> simp [h]
theorem zkn (f : Nat -> Bool) (k : Nat) : ((List.range k).filter f).length ≤ k := Nat.le_trans (List.length_filter_le _ _) (by simp)
theorem zpE {h : H} {v : V} {l : List Stp} {gap : Nat} (hs : Sls h.get 4 v (l.map stC)) (hk : ∀ x ∈ l, x.key < 256 ∧ x.wait < 256) (hgap : gap < 256) : Pure Tryz.prog 7 [.int .u8 (gap : Nat), v] h (.bool true) := by
 refine zaf Tryz.func7 S.a0c S.a0e rfl (Nat.le_of_ble_eq_true rfl) fun wf => ?_; simp only [S.a0]
 have hb := hs.bound
 rw [List.length_map] at hb
 obtain ⟨g, hg⟩ : ∃ g : Nat, g = gap % 21 := ⟨_, rfl⟩
 have hg21 : g < 21 := by omega
 have r21 : intV .rem .u8 (gap : Int) 21 = some (.int .u8 (g : Int)) := by rw [hg]; simp [intV]; rw [Int.tmod_eq_emod_of_nonneg (by omega)]
 have wg : IntKind.i64.wrap (g : Int) = (g : Int) := zah (by omega) (by omega)
 have wg2 : IntKind.u64.wrap (g : Int) = (g : Int) := zfp (by omega)
 simp [r21, wg]
 refine zjj (gap := (g : Int)) (fun e => by omega) fun _ h1 g1 w1 x1 => ?_
 obtain ⟨p, hp⟩ : ∃ p, p = h.next + 1 := ⟨_, rfl⟩
 obtain ⟨m, hm⟩ : ∃ m, m = h.next := ⟨_, rfl⟩
 rw [<- hp, <- hm] at x1
 rw [<- hp]
 simp only [Int.toNat_natCast] at x1
 have r8 : zak 8 [V.int .i64 0] = rowI fun _ => 0 := rfl
 have mk8 : ∀ n, za9 n 1 8 [V.int .i64 0] (.int .i64 8) (.int .i64 8) = some (.sl n 8 0 8 (some 8), .push (.row (rowI fun _ => 0))) := fun n => by simp [za9, r8]
 simp [mk8]
 obtain ⟨h3, hh3⟩ : ∃ h3, h3 = (h1.push (.row (rowI fun _ => 0))).push (.row (rowI fun _ => 0)) := ⟨_, rfl⟩
 have g3 : Ge h1 h3 := by rw [hh3]; exact ((Ge.refl _).push _).push _
 have w3 : h3.WF := by rw [hh3]; exact (w1.push _).push _
 obtain ⟨js, hjs⟩ : ∃ js, js = h1.next := ⟨_, rfl⟩
 obtain ⟨jp, hjp⟩ : ∃ jp, jp = js + 1 := ⟨_, rfl⟩
 have xs : h3.get js = some (.row (rowI fun _ => 0)) := by rw [hh3, hjs]; simp
 have xp : h3.get jp = some (.row (rowI fun _ => 0)) := by rw [hh3, hjp, hjs]; simp
 have x3 := x1.ge w1 g3
 rw [<- hh3, <- hjs, <- hjp]
 obtain ⟨n, hn⟩ : ∃ n, n = min l.length 60 := ⟨_, rfl⟩
 have base3 : ∀ k, k < h.next -> h3.get k = h.get k := fun k hk => by rw [g3.2 k (by have := g1.1; omega), g1.2 k hk]
 obtain ⟨lp, lm, lpm⟩ := x1.lt w1
 refine zaJ (fun i t h' => (t 0 = .int .u8 (gap : Nat) ∧ t 1 = v ∧ t 5 = .int .i64 (g : Nat) ∧ t 6 = .ptr p 4 0 ∧ t 9 = .sl js 8 0 8 (some 8) ∧ t 10 = .sl jp 8 0 8 (some 8) ∧ t 13 = .int .i64 (i : Nat)) ∧ h'.WF ∧ h3.next ≤ h'.next ∧ (∀ k, k < h.next -> h'.get k = h.get k) ∧ ∃ now last sm P put sent, t 8 = .int .u64 (now : Nat) ∧ t 11 = .int .u64 (last : Nat) ∧ t 12 = .bool sm ∧ PaceAt h' (fun _ => True) p m P ∧ h'.get js = some (.row (rowI sent)) ∧ h'.get jp = some (.row (rowI put)) ∧ KInv g l i now last sm P put sent) n
  ⟨by simp, w3, Nat.le_refl _, base3, 0, 0, false, _, _, _, by simp, by simp, by simp, x3, xs, xp, ⟨PInv.zero g l 0 0, Nat.le_refl _, by omega, by simp, fun e => absurd rfl e, by simp, Nat.le_refl _⟩⟩ ?_
 rintro i t h' hi ⟨⟨t0, t1, t5, t6, t9, t10, t13⟩, wb, nb, kb, now, last, sm, P, put, sent, t8, t11, t12, y, ys, yp, kv⟩ K hK
 have gh' : Ge h h' := ⟨by have := g1.1; have := g3.1; omega, kb⟩
 have hl' := (hs.ge wf gh').len
 rw [List.length_map] at hl'
 by_cases hlt : i < n
 ·have hlt1 : i < l.length := by omega
  have hlt2 : (i : Int) < 60 := by omega
  obtain ⟨pp, q, o, cs, f1, f3, f4, f5, i0, i1, i2, i3⟩ := zlt hs wf hlt1
  have hkx := hk l[i] (List.getElem_mem hlt1)
  have hxi : l[i]? = some l[i] := List.getElem?_eq_getElem hlt1
  obtain ⟨x, hx⟩ : ∃ x, x = l[i] := ⟨_, rfl⟩
  rw [<- hx] at f5 i0 i1 i2 i3 hkx hxi
  have f3' := f3 h' gh'
  obtain ⟨w8, hw8⟩ : ∃ w8 : Nat, w8 = x.wait % 8 := ⟨_, rfl⟩
  have r8' : intV .rem .u8 (x.wait : Int) 8 = some (.int .u8 (w8 : Int)) := by rw [hw8]; simp [intV]; rw [Int.tmod_eq_emod_of_nonneg (by omega)]
  have ww8 : IntKind.u64.wrap (w8 : Int) = (w8 : Int) := zfp (by omega)
  obtain ⟨nw, hnw⟩ : ∃ nw, nw = now + w8 := ⟨_, rfl⟩
  have wn : IntKind.u64.wrap ((now : Int) + (w8 : Int)) = (nw : Int) := by rw [<- Int.natCast_add, <- hnw]; exact zfp (by have := kv.small; omega)
  simp [t1, t8, t13, hl', hlt1, hlt2, f1, f3', i1, r8', ww8, wn]
  have ej := (zg2 y ys)
  have eq := (zg2 y yp)
  have tk1 : zcC P nw = true := by have := kv.lst; have := kv.small; simp [zcC]; omega
  have len8 := kv.inv.len8
  have hgp := kv.inv.gap
  obtain ⟨J, hJ⟩ : ∃ J : Tm -> H -> Prop, J = fun t' h'' => (t' 0 = .int .u8 (gap : Nat) ∧ t' 1 = v ∧ t' 5 = .int .i64 (g : Nat) ∧ t' 6 = .ptr p 4 0 ∧ t' 8 = .int .u64 (nw : Nat) ∧ t' 9 = .sl js 8 0 8 (some 8) ∧ t' 10 = .sl jp 8 0 8 (some 8) ∧ t' 11 = .int .u64 (last : Nat) ∧ t' 12 = .bool sm ∧ t' 13 = .int .i64 (i : Nat)) ∧ h''.WF ∧ h'.next ≤ h''.next ∧ (∀ k, k < h.next -> h''.get k = h.get k) ∧
   ∃ P1 put2 w es, t' 14 = w ∧ t' 15 = .int .i64 0 ∧ PaceAt h'' (fun _ => True) p m (zbj P1 nw) ∧ h''.get js = some (.row (rowI sent)) ∧ h''.get jp = some (.row (rowI put2)) ∧ LsP h'' (fun j => h'.next ≤ j) w (zbB P1 nw) es ∧ PInv g l (i + 1) P1 put2 sent ∧ P1.op = P.op := ⟨_, rfl⟩
  simp [i3]
  refine zhT J (fun e R hR => ?_) (fun e R hR => ?_) ?_
  ·simp [t6]
   refine zfR y (by omega) (by omega) (fun e => by rw [tk1] at e; cases e) fun _ w4 es4 h4 b4 ww4 y4 l4 => ?_
   simp
   refine hR _ _ ?_
   rw [hJ]
   have n4 := b4.next
   refine ⟨by simp [t0, t1, t5, t6, t9, t10, t11, t12, t13], ww4, n4, fun k hk => by rw [b4.keep k (by have := gh'.1; omega) (by omega) (by omega), kb k hk], P, put, w4, es4, by simp, by simp, y4, ?_, ?_, l4, kv.inv.up, rfl⟩
   ·rw [b4.keep js (wb.lt ys) ej.1 ej.2]; exact ys
   ·rw [b4.keep jp (wb.lt yp) eq.1 eq.2]; exact yp
  ·have hcm := zln x i
   have hno := zoG x i
   obtain ⟨c, hc⟩ : ∃ c, c = zcs x i := ⟨_, rfl⟩
   have ocq : ∀ h, Pure Tryz.prog 32 [.agg [.int .u8 (x.key : Nat), .int .u8 (x.wait : Nat), .bool x.gone, .bool x.fire], .int .i64 (i : Nat)] h (.agg (chN c)) := fun h => by rw [hc]; exact zqH hkx.1 (by omega)
   rw [<- hc] at hcm hno
   have pc1 := fun Q q => zei (Q := Q) wb y hno hcm (by omega) (by omega) tk1 q
   obtain ⟨k8, hk8⟩ : ∃ k8 : Nat, k8 = x.key % 8 := ⟨_, rfl⟩
   have rk8 : intV .rem .u8 (x.key : Int) 8 = some (.int .u8 (k8 : Int)) := by rw [hk8]; simp [intV]; rw [Int.tmod_eq_emod_of_nonneg (by omega)]
   have hk8l : k8 < 8 := by omega
   have wi1 : IntKind.i64.wrap ((i : Int) + 1) = ((i + 1 : Nat) : Int) := by rw [show ((i : Int) + 1) = ((i + 1 : Nat) : Int) by omega]; exact zah (by omega) (by omega)
   have ix := ix8 (j := jp) hk8l .u8
   simp only [stC] at f5
   simp only [chN, chC] at pc1 ocq
   simp [t1, t6, t13, f1, f3', f4, f5]
   refine ocq h' _ ?_
   simp
   refine pc1 _ fun w4 es4 h4 b4 ww4 y4 l4 => ?_
   have n4 := b4.next
   have yp4 : h4.get jp = some (.row (rowI put)) := by rw [b4.keep jp (wb.lt yp) eq.1 eq.2]; exact yp
   have ys4 : h4.get js = some (.row (rowI sent)) := by rw [b4.keep js (wb.lt ys) ej.1 ej.2]; exact ys
   have f3'' := f3 h4 ⟨by have := gh'.1; omega, fun k hk => by rw [b4.keep k (by have := gh'.1; omega) (by omega) (by omega), kb k hk]⟩
   have jne : jp ≠ js := by omega
   have hk7 : k8 ≤ 7 := by omega
   simp [t1, t10, t13, f1, f3'', i0, rk8, ix, wi1, yp4, zbd, hk7]
   obtain ⟨lp', lm', _⟩ := y4.lt ww4
   have lj := ww4.lt yp4
   have ljb := wb.lt yp
   have nxp : h.next ≤ jp := by have := g1.1; omega
   have gs : ∀ (o : O) k, k ≠ jp -> (h4.set jp o).get k = h4.get k := fun o k hk => by rw [H.get_set, if_neg hk]
   refine hR _ _ ?_
   rw [hJ]
   refine ⟨by simp [t0, t1, t5, t6, t9, t10, t11, t12, t13], ww4.set lj _, by simpa using n4, fun k hk => by rw [gs _ _ (by omega), b4.keep k (by have := gh'.1; omega) (by omega) (by omega), kb k hk], zcz P [c], upAt put k8 (i + 1), w4, es4, by simp, by simp, ?_, ?_, ?_, ?_, ?_, rfl⟩
   ·exact y4.keep (by simp) (gs _ _ (by omega)) (gs _ _ (by omega)) fun j s cs _ _ e => by rw [gs _ _ (fun e' => by subst e'; rw [yp4] at e; cases e)]; exact e
   ·rw [gs _ _ (by omega)]; exact ys4
   ·have e := zhz put (i + 1) hk8l
    rw [<- e, H.get_set, if_pos rfl]
    simp
   ·exact l4.keep (by simp) fun j hj _ => gs _ _ (by omega)
   ·have := kv.inv.put hxi
    rw [<- hc, <- hk8] at this
    exact this
  ·rintro t2 h2 hJ2
   rw [hJ] at hJ2
   obtain ⟨⟨u0, u1, u5, u6, u8, u9, u10, u11, u12, u13⟩, w2, n2, k2, P1, put2, w, es, u14, u15, y2, ys2, yp2, l2, v2, op2⟩ := hJ2
   have out1 : 0 < (zbB P1 nw).length -> P1.op ≤ nw ∧ zaU P1 nw = true := fun e => by
    unfold zbB at e
    split at e
    ·rename_i e'
     refine ⟨?_, e'⟩
     simp [zaU] at e'
     exact e'.1
    ·simp at e
   obtain ⟨ou, hou⟩ : ∃ ou, ou = zbB P1 nw := ⟨_, rfl⟩
   rw [<- hou] at l2 out1
   obtain ⟨sm2, hsm2⟩ : ∃ b, b = (sm || decide (0 < ou.length)) := ⟨_, rfl⟩
   obtain ⟨la2, hla2⟩ : ∃ b, b = if 0 < ou.length then nw else last := ⟨_, rfl⟩
   simp [u14, u15, l2.lenV]
   refine zhT (fun t' h'' => h'' = h2 ∧ t' 0 = .int .u8 (gap : Nat) ∧ t' 1 = v ∧ t' 5 = .int .i64 (g : Nat) ∧ t' 6 = .ptr p 4 0 ∧ t' 8 = .int .u64 (nw : Nat) ∧ t' 9 = .sl js 8 0 8 (some 8) ∧ t' 10 = .sl jp 8 0 8 (some 8) ∧ t' 11 = .int .u64 (la2 : Nat) ∧ t' 12 = .bool sm2 ∧ t' 13 = .int .i64 (i : Nat) ∧ t' 14 = w) (fun e R hR => ?_) (fun e R hR => ?_) ?_
   ·simp only [decide_eq_true_eq] at e
    have e0 : 0 < ou.length := by omega
    have lw : la2 = nw := by rw [hla2, if_pos e0]
    have sw : sm2 = true := by rw [hsm2]; simp [e0]
    rcases hsm : sm with _ | _
    ·rw [hsm] at u12
     simp [u12, u8]
     exact hR _ _ ⟨rfl, by simp [u0], by simp [u1], by simp [u5], by simp [u6], by simp [u8], by simp [u9], by simp [u10], by simp [lw], by simp [sw], by simp [u13], by simp [u14]⟩
    ·rw [hsm] at u12
     have ho := kv.opn
     rw [if_pos hsm] at ho
     have := (out1 e0).1
     have wl : IntKind.u64.wrap ((last : Int) + (g : Int)) = ((last + g : Nat) : Int) := by rw [<- Int.natCast_add]; exact zfp (by have := kv.small; omega)
     have nlt : ¬ ((nw : Int) < ((last + g : Nat) : Int)) := by omega
     have nlt2 : ¬ (nw < last + g) := by omega
     have nlt3 : ¬ ((nw : Int) < (last : Int) + (g : Int)) := by omega
     simp [u12, u8, u11, u5, wg2, wl, nlt3]
     exact hR _ _ ⟨rfl, by simp [u0], by simp [u1], by simp [u5], by simp [u6], by simp [u8], by simp [u9], by simp [u10], by simp [lw], by simp [sw], by simp [u13], by simp [u14]⟩
   ·simp only [decide_eq_false_iff_not] at e
    have e1 : ¬ 0 < ou.length := by omega
    simp
    refine hR _ _ ?_
    refine ⟨rfl, by simp [u0], by simp [u1], by simp [u5], by simp [u6], by simp [u8], by simp [u9], by simp [u10], ?_, ?_, by simp [u13], by simp [u14]⟩
    ·rw [hla2, if_neg e1]; simp [u11]
    ·rw [hsm2]; simp [u12, e1]
   ·rintro t3 h3' ⟨rfl, z0, z1, z5, z6, z8, z9, z10, z11, z12, z13, z14⟩
    have lj := w2.lt ys2
    simp
    refine zaJ (fun k t' h'' => (t' 0 = .int .u8 (gap : Nat) ∧ t' 1 = v ∧ t' 5 = .int .i64 (g : Nat) ∧ t' 6 = .ptr p 4 0 ∧ t' 8 = .int .u64 (nw : Nat) ∧ t' 9 = .sl js 8 0 8 (some 8) ∧ t' 10 = .sl jp 8 0 8 (some 8) ∧ t' 11 = .int .u64 (la2 : Nat) ∧ t' 12 = .bool sm2 ∧ t' 13 = .int .i64 (i : Nat) ∧ t' 14 = w ∧ t' 16 = .int .i64 (k : Nat)) ∧ h''.WF ∧ h''.next = h3'.next ∧ (∀ j, j ≠ js -> h''.get j = h3'.get j) ∧ h''.get js = some (.row (rowI (zbe put2 sent (ou.take k))))) ou.length
     ⟨by simp [z0, z1, z5, z6, z8, z9, z10, z11, z12, z13, z14], w2, rfl, fun j _ => rfl, by rw [List.take_zero, zfc]; exact ys2⟩ ?_
    rintro k t4 h4 hk' ⟨⟨a0, a1, a5, a6, a8, a9, a10, a11, a12, a13, a14, a16⟩, w4, n4, k4, ys4⟩ K4 hK4
    by_cases hlk : k < ou.length
    ·have l4 := l2.keep (h' := h4) (by omega) fun j hj _ => k4 j (by have := wb.lt ys; omega)
     have oS : ou = P1.S := by rw [hou, zbB, if_pos (out1 (by omega)).2]
     have cm : ou[k] ∈ P1.S := oS ▸ List.getElem_mem hlk
     obtain ⟨ix8', pp0, ple, pne, x', hx', xk, hcx⟩ := v2.one cm
     have ol8 : ou.length ≤ 8 := by rw [oS]; exact v2.len8
     have ca := l4.at (by omega)
     obtain ⟨e, he, vp, vc, vx, vl, vk, he', -⟩ := ca.at' k ou[k] (List.getElem?_eq_getElem hlk)
     have hke : k < es.length := by rw [ca.len]; exact hlk
     obtain ⟨pp2, q2, o2, cs2, e1, e2, e3, e4, e5, e6⟩ := ca.sls.atG w4 (k := k) hke
     have hee : es[k] = e := by rw [List.getElem?_eq_getElem hke, Option.some.injEq] at he; exact he
     rw [hee, he'] at e6
     obtain ⟨c', hc'⟩ : ∃ c', c' = ou[k] := ⟨_, rfl⟩
     rw [<- hc'] at ix8' pp0 ple pne xk hcx e6 hx'
     have i0 := e6 0 (by omega)
     have i3 := e6 3 (by omega)
     have i5 := e6 5 (by omega)
     have i9 := e6 9 (by omega)
     have i10 := e6 10 (by omega)
     have ha : c'.n.p.addr = [UInt8.ofNat (10 + x'.key % 4), 0, 0, 0] := by rw [hcx]; rfl
     have hid : c'.n.id = x'.key % 8 / 4 := by rw [hcx]; rfl
     have i11 := e6 11 (by omega)
     simp [chC] at i0 i3 i5 i9 i10 i11
     obtain ⟨b0, hb0⟩ : ∃ b0 : UInt8, b0 = UInt8.ofNat (10 + x'.key % 4) := ⟨_, rfl⟩
     have hbn : b0.toNat = 10 + x'.key % 4 := by rw [hb0, UInt8.toNat_ofNat']; omega
     rw [<- hb0] at ha
     obtain ⟨q, hq⟩ : ∃ q, q = ixOf c' := ⟨_, rfl⟩
     have hq2 : q = (b0.toNat - 10) + 4 * c'.n.id := by rw [hq, ixOf, ha]; rfl
     rw [<- hq] at ix8' pp0 ple pne hx' hcx xk
     obtain ⟨d, hd⟩ : ∃ d, d = b0.toNat - 10 := ⟨_, rfl⟩
     obtain ⟨id', hid'⟩ : ∃ d, d = c'.n.id := ⟨_, rfl⟩
     rw [<- hd, <- hid'] at hq2
     have sb : IntKind.u8.wrap ((b0.toNat : Int) - 10) = (d : Int) := by rw [show (b0.toNat : Int) - 10 = (d : Int) by omega]; exact zhW (by omega)
     have cv1 : IntKind.i64.wrap (d : Int) = (d : Int) := zah (by omega) (by omega)
     have cv2 : IntKind.i64.wrap (id' : Int) = (id' : Int) := zah (by omega) (by omega)
     have cv3 : IntKind.i64.wrap (4 * (id' : Int)) = 4 * (id' : Int) := zah (by omega) (by omega)
     have cv4 : IntKind.i64.wrap ((d : Int) + 4 * (id' : Int)) = (q : Int) := by rw [show (d : Int) + 4 * (id' : Int) = (q : Int) by omega]; exact zah (by omega) (by omega)
     have yp4 : h4.get jp = some (.row (rowI put2)) := by rw [k4 jp (by omega)]; exact yp2
     have cp := zhM yp4
     have cs8 := zhM ys4
     have ixp := ix8 (j := jp) ix8' .i64
     have ixs := ix8 (j := js) ix8' .i64
     have vp' := zdi put2 ix8'
     have vs' := zdi (zbe put2 sent (ou.take k)) ix8'
     have nd := v2.ix_nodup
     rw [<- oS] at nd
     have so : zbe put2 sent (ou.take k) q = sent q := ziJ (by rw [hq, hc']; exact zoj nd hlk)
     rw [so] at vs'
     obtain ⟨a, ha'⟩ : ∃ a, a = put2 q := ⟨_, rfl⟩
     rw [<- ha'] at pp0 ple pne hx' hcx vp'
     have hal : a - 1 < l.length := (List.getElem?_eq_some_iff.1 hx').1
     have hxa : l[a - 1] = x' := by rw [List.getElem?_eq_getElem hal, Option.some.injEq] at hx'; exact hx'
     obtain ⟨pp3, q3, o3, cs3, m1, m3, m4, m5, n0, n1', n2', n3'⟩ := zlt hs wf hal
     rw [hxa] at n2'
     have gh4 : Ge h h4 := ⟨by have := gh'.1; omega, fun j hj => by rw [k4 j (by have := g1.1; omega)]; exact k2 j hj⟩
     have m3' := m3 h4 gh4
     have az : ((a : Int) == 0) = false := by simp; omega
     have az2 : ¬ a = 0 := by omega
     have asn : ((a : Int) == (sent q : Int)) = false := by simp; omega
     have am1 : IntKind.i64.wrap ((a : Int) - 1) = ((a - 1 : Nat) : Int) := by rw [show (a : Int) - 1 = ((a - 1 : Nat) : Int) by omega]; exact zah (by omega) (by omega)
     have am2 : IntKind.u32.wrap ((a - 1 : Nat) : Int) = ((a - 1 : Nat) : Int) := by simp [IntKind.wrap, IntKind.bits, IntKind.signed]; omega
     have hgo : c'.gone = x'.gone := by rw [hcx]; rfl
     have hme : x'.gone = false -> c'.att.med = a - 1 := fun e => by rw [hcx]; simp [zcs, e, attM]
     simp [a14, a16, l4.lenV, hlk]
     refine zcl ?_
     simp [a14, a16, e1, e3 h4 (Ge.refl _), i3, i5, ha, <- hid', sb, cv1, cv2, cv3, cv4]
     simp [a10, ixp, cp, vp']
     refine zcl ?_
     obtain ⟨am, ham⟩ : ∃ am : Nat, am = a - 1 := ⟨_, rfl⟩
     rw [<- ham] at am1 am2 hme m1
     have hw := zaS hlk (by omega : ou.length < 9223372036854775808)
     have st1 : (rowI (zbe put2 sent (ou.take k))).length = 8 := zbd _
     have rs := zhz (zbe put2 sent (ou.take k)) a ix8'
     have t1' : ou.take (k + 1) = ou.take k ++ [c'] := by rw [List.take_add_one, List.getElem?_eq_getElem hlk, <- hc']; rfl
     have fin : ∀ t5 : Tm, (t5 0 = .int .u8 (gap : Nat) ∧ t5 1 = v ∧ t5 5 = .int .i64 (g : Nat) ∧ t5 6 = .ptr p 4 0 ∧ t5 8 = .int .u64 (nw : Nat) ∧ t5 9 = .sl js 8 0 8 (some 8) ∧ t5 10 = .sl jp 8 0 8 (some 8) ∧ t5 11 = .int .u64 (la2 : Nat) ∧ t5 12 = .bool sm2 ∧ t5 13 = .int .i64 (i : Nat) ∧ t5 14 = w ∧ t5 16 = .int .i64 ((k + 1 : Nat) : Int)) -> K4 t5 (h4.set js (.row (rowI (upAt (zbe put2 sent (ou.take k)) q a)))) := fun t5 ht5 => hK4 _ _ hlk ⟨ht5, w4.set (by omega) _, by simpa using n4, fun j hj => by rw [H.get_set, if_neg hj]; exact k4 j hj, by rw [t1', zgr, <- hq, <- ha']; simp⟩
     have hq8 : q ≤ 7 := by omega
     cases hxg : x'.gone with
     | true =>
      rw [hxg] at hgo n2'
      simp only [hgo] at i0
      simp [a1, a9, a14, a16, az, asn, ixs, cs8, vs', e1, e3 h4 (Ge.refl _), i0, am1, m1, m3', n2', eqB, hw, ys4, st1, hq8, rs]
      refine fin _ ?_
      simp [a0, a1, a5, a6, a8, a9, a10, a11, a12, a13, a14]
     | false =>
      rw [hxg] at hgo n2'
      have hme' := hme hxg
      simp only [hgo] at i0
      simp only [hme'] at i11
      simp [a1, a9, a14, a16, az, asn, ixs, cs8, vs', e1, e3 h4 (Ge.refl _), i0, i11, am1, am2, m1, m3', n2', eqB, hw, ys4, st1, hq8, rs]
      refine fin _ ?_
      simp [a0, a1, a5, a6, a8, a9, a10, a11, a12, a13, a14]
    ·have hkk : k = ou.length := by omega
     rw [hkk, List.take_length] at ys4
     have kf := kv.fire v2 op2 (nw := nw) (by omega) (by omega)
     rw [<- hou, <- hla2, <- hsm2] at kf
     have len3 := kf.len
     have y4 : PaceAt h4 (fun _ => True) p m (zbj P1 nw) := by
      have ej4 := zg2 y2 ys2
      refine y2.keep (by omega) (k4 p (fun e => ej4.1 e.symm)) (k4 m (fun e => ej4.2 e.symm)) fun j s cs _ _ e => (k4 j (fun e' => by subst e'; rw [ys2] at e; cases e)).trans e
     have yp4 : h4.get jp = some (.row (rowI put2)) := by rw [k4 jp (by omega)]; exact yp2
     obtain ⟨sF, hsF⟩ : ∃ sF, sF = zbe put2 sent ou := ⟨_, rfl⟩
     rw [<- hsF] at ys4 kf
     simp [a6, a14, a16, l2.lenV, hlk]
     refine zfC y4 (by omega) fun w5 es5 h5 g5 w5' l5 => ?_
     have n5 := g5.1
     have y5 := y4.ge w4 g5
     have ys5 : h5.get js = some (.row (rowI sF)) := by rw [g5.2 js (w4.lt ys4)]; exact ys4
     have yp5 : h5.get jp = some (.row (rowI put2)) := by rw [g5.2 jp (w4.lt yp4)]; exact yp4
     have cp := zhM yp5
     have cs8 := zhM ys5
     have len5 := l5.lenV h5.get
     have cnt := kf.inv.count
     simp
     obtain ⟨ff, hff⟩ : ∃ ff : Nat -> Bool, ff = fun k => decide (put2 k ≠ sF k) := ⟨_, rfl⟩
     rw [<- hff] at cnt
     refine zaJ (fun k t h'' => (t 0 = .int .u8 (gap : Nat) ∧ t 1 = v ∧ t 5 = .int .i64 (g : Nat) ∧ t 6 = .ptr p 4 0 ∧ t 8 = .int .u64 (nw : Nat) ∧ t 9 = .sl js 8 0 8 (some 8) ∧ t 10 = .sl jp 8 0 8 (some 8) ∧ t 11 = .int .u64 (la2 : Nat) ∧ t 12 = .bool sm2 ∧ t 13 = .int .i64 (i : Nat) ∧ t 19 = w5 ∧ t 20 = .int .i64 (((List.range k).filter ff).length : Nat) ∧ t 21 = .int .i64 (k : Nat)) ∧ h'' = h5) 8
      ⟨by simp [a0, a1, a5, a6, a8, a9, a10, a11, a12, a13], rfl⟩ ?_
     rintro k8 t6 h6 hk8 ⟨⟨b0, b1, b5, b6, b8, b9, b10, b11, b12, b13, b19, b20, b21⟩, rfl⟩ K6 hK6
     by_cases hk8' : k8 < 8
     ·have hk8i : (k8 : Int) < 8 := by omega
      have ixp := ix8 (j := jp) hk8' .i64
      have ixs := ix8 (j := js) hk8' .i64
      have vp' := zdi put2 hk8'
      have vs' := zdi sF hk8'
      have hcs := ziB ff k8
      have hcl := zkn ff k8
      obtain ⟨cn, hcn⟩ : ∃ cn, cn = ((List.range k8).filter ff).length := ⟨_, rfl⟩
      rw [<- hcn] at hcs hcl b20
      have hw1 : IntKind.i64.wrap ((cn : Int) + 1) = (cn : Int) + 1 := zah (by omega) (by omega)
      have hw2 : IntKind.i64.wrap ((k8 : Int) + 1) = (k8 : Int) + 1 := zah (by omega) (by omega)
      simp [b21, hk8i]
      refine zcl ?_
      simp [b9, b10, b21, ixp, ixs, cp, cs8, vp', vs']
      by_cases hne : put2 k8 = sF k8
      ·have hb : ((put2 k8 : Int) != (sF k8 : Int)) = false := by simp [hne]
       have hf0 : ff k8 = false := by rw [hff]; simp [hne]
       rw [hf0] at hcs
       simp at hcs
       simp [hne, b21, hw2]
       exact hK6 _ _ hk8' ⟨by simp [b0, b1, b5, b6, b8, b9, b10, b11, b12, b13, b19, b20, hcs], rfl⟩
      ·have hb : ((put2 k8 : Int) != (sF k8 : Int)) = true := by simp; omega
       have hf0 : ff k8 = true := by rw [hff]; simp [hne]
       rw [hf0] at hcs
       simp at hcs
       simp [hb, b20, b21, hw1, hw2]
       exact hK6 _ _ hk8' ⟨by simp [b0, b1, b5, b6, b8, b9, b10, b11, b12, b13, b19, hcs], rfl⟩
     ·have hk88 : k8 = 8 := by omega
      subst hk88
      rw [<- cnt] at b20
      have hw := zaS hlt (by omega : n < 9223372036854775808)
      simp [b6, b21]
      refine zdQ y5 _ ?_
      have hn0 : h.next ≤ h6.next := by have := gh'.1; omega
      have kp6 : ∀ k, k < h.next -> h6.get k = h.get k := fun k hk => by
       have := gh'.1
       rw [g5.2 k (by omega), k4 k (by have := g1.1; omega)]; exact k2 k hk
      have go : ∀ t7 : Tm, (t7 0 = .int .u8 (gap : Nat) ∧ t7 1 = v ∧ t7 5 = .int .i64 (g : Nat) ∧ t7 6 = .ptr p 4 0 ∧ t7 9 = .sl js 8 0 8 (some 8) ∧ t7 10 = .sl jp 8 0 8 (some 8) ∧ t7 13 = .int .i64 ((i + 1 : Nat) : Int)) -> t7 8 = .int .u64 (nw : Nat) -> t7 11 = .int .u64 (la2 : Nat) -> t7 12 = .bool sm2 -> K t7 h6 := fun t7 r8 e8 e11 e12 => hK _ _ hlt ⟨r8, w5', by omega, kp6, nw, la2, sm2, _, put2, sF, e8, e11, e12, y5, ys5, yp5, kf⟩
      by_cases h0 : (zbj P1 nw).S = []
      ·have len5' := len5
       rw [h0] at len5' b20
       simp at len5' b20
       simp [b13, b19, b20, len5', h0, hw, eqB]
       refine go _ ?_ ?_ ?_ ?_
       ·simp [b0, b1, b5, b6, b9, b10]
       ·simp [b8]
       ·simp [b11]
       ·simp [b12]
      ·have h1 : 0 < (zbj P1 nw).S.length := List.length_pos_iff.2 h0
       have hh := kf.hold h0
       obtain ⟨op, hop⟩ : ∃ op, op = (zbj P1 nw).op := ⟨_, rfl⟩
       rw [<- hop] at hh
       have hnl : ¬ op < nw := by omega
       have hnl2 : ¬ (op : Int) < (nw : Int) := by omega
       simp [b8, b13, b19, b20, len5, h0, h1, <- hop, hnl, hw, eqB]
       refine go _ ?_ ?_ ?_ ?_
       ·simp [b0, b1, b5, b6, b9, b10]
       ·simp [b8]
       ·simp [b11]
       ·simp [b12]
 ·have hi2 : i = n := by omega
  have kvl := kv.len
  have kvo := kv.opn
  have kvs := kv.small
  have kvh := kv.hold
  have kvg := kv.inv.gap
  have kvt := kv.lst
  have kvla := kv.la
  by_cases h0 : P.S = []
  ·by_cases hl1 : i < l.length
   ·have hl2 : ¬ (i : Int) < 60 := by omega
    simp [t1, t6, t13, hl', hl1, hl2]
    refine zdQ y _ ?_
    simp [h0]
    refine zel h' _ ?_
    simp [gh']
   ·simp [t1, t6, t13, hl', hl1]
    refine zdQ y _ ?_
    simp [h0]
    refine zel h' _ ?_
    simp [gh']
  ·have hh := kvh h0
   obtain ⟨op, hop⟩ : ∃ op, op = P.op := ⟨_, rfl⟩
   rw [<- hop] at hh kvo
   have hop2 : op ≤ 7 * i + 20 := by
    split at kvo <;> omega
   have mx : ¬ op < now := by omega
   have tk : zcC P op = true := by simp [zcC]; omega
   have hgo : zaU P op = true := by simp [zaU, hop, h0]
   have fo : zbB P op = P.S := by rw [zbB, if_pos hgo]
   have fs : (zbj P op).S = [] := by rw [zbj, if_pos hgo]
   have pf := fun Q q => zfR (Q := Q) y (by omega) (by omega) (fun e => by rw [tk] at e; cases e) q
   have kvl0 : ((P.S.length : Int) == 0) = false := by simpa using h0
   by_cases hl1 : i < l.length
   ·have hl2 : ¬ (i : Int) < 60 := by omega
    simp [t1, t6, t13, hl', hl1, hl2]
    refine zdQ y _ ?_
    simp [h0, t6, t8, <- hop, mx]
    refine pf _ fun _ w5 es5 h5 b5 w5' y5 l5 => ?_
    rw [fo] at l5
    have len5 := l5.lenV h5.get
    simp [len5, kvl0, t6]
    refine zfC y5 (by rw [fs]; simp) fun w6 es6 h6 g6 w6' l6 => ?_
    rw [fs] at l6
    have len6 := l6.lenV h6.get
    simp [len6]
    refine zel h6 _ ?_
    simp
    refine ⟨by have := b5.next; have := g6.1; have := gh'.1; omega, fun k hk => ?_⟩
    have := gh'.1
    rw [g6.2 k (by have := b5.next; omega), b5.keep k (by omega) (by omega) (by omega)]
    exact kb k hk
   ·simp [t1, t6, t13, hl', hl1]
    refine zdQ y _ ?_
    simp [h0, t6, t8, <- hop, mx]
    refine pf _ fun _ w5 es5 h5 b5 w5' y5 l5 => ?_
    rw [fo] at l5
    have len5 := l5.lenV h5.get
    simp [len5, kvl0, t6]
    refine zfC y5 (by rw [fs]; simp) fun w6 es6 h6 g6 w6' l6 => ?_
    rw [fs] at l6
    have len6 := l6.lenV h6.get
    simp [len6]
    refine zel h6 _ ?_
    simp
    refine ⟨by have := b5.next; have := g6.1; have := gh'.1; omega, fun k hk => ?_⟩
    have := gh'.1
    rw [g6.2 k (by have := b5.next; omega), b5.keep k (by omega) (by omega) (by omega)]
    exact kb k hk
end Go.Am
