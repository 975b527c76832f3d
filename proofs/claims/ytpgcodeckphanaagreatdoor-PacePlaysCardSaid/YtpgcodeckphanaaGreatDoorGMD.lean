/-
 PC5, PL0, PC6, PC7, PC8, PP0, PP1, PP2, PP3, PP4, PP5, PC9, PP6, PP7, PPD, in one text.
-/
import Derived.Test.YtpgcodeckphanaaGreatDoorGMC
import Derived.Test.YtpgcodeckphanaaGreatDoorGMA
import Derived.Test.YtpgcodeckphanaaGreatDoorGAm32
import Derived.Test.YtpgcodeckphanaaGreatDoorGShS
import Derived.Test.YtpgcodeckphanaaGreatDoorGAm40
import Derived.Test.YtpgcodeckphanaaGreatDoorGMB
import Derived.Test.YtpgcodeckphanaaGreatDoorGAm37
import Derived.Test.YtpgcodeckphanaaGreatDoorGAmL
import Derived.Test.YtpgcodeckphanaaGreatDoorGAm21
import Derived.Test.YtpgcodeckphanaaGreatDoorGAm36
import Derived.Test.YtpgcodeckphanaaGreatDoorGQwTab
import Derived.KernelRfl
import Derived.Test.YtpgcodeckphanaaGreatDoorGShC
import Derived.Test.YtpgcodeckphanaaGreatDoorGAm47
import Derived.Test.YtpgcodeckphanaaGreatDoorGAm33
namespace Go.Am
open Go.Proofs

set_option maxRecDepth 100000
theorem zqh {h : H} {q : Nat} {a b : Int} (hq : h.get q = some (.row [.int .i64 a, .int .i64 b])) : Pure Tryz.prog 80 [.sl q 2 0 2 (some 2)] h (.int .i64 (orI a b)) := by
 refine zae Tryz.func80 S.a47c S.a47e rfl (Nat.le_of_ble_eq_true rfl) fun wf => ?_; simp only [S.a47]
 have c1 : zac h.get q 2 = some [.int .i64 a, .int .i64 b] := by rw [zad hq (by rfl)]; rfl
 simp
 refine zal (fun i t h' => (t 3 = .int .i64 0 ∧ t 6 = .sl q 2 0 2 (some 2) ∧ t 7 = .int .i64 2 ∧ t 8 = .int .i64 (i : Nat)) ∧ h = h' ∧ (0 < i -> a = 0) ∧ (1 < i -> b = 0)) 2 ⟨by simp, rfl, by omega, by omega⟩ ?_
 rintro i t h' hi ⟨⟨t3, t6, t7, t8⟩, rfl, k1, k2⟩ K hK
 have w1 : IntKind.i64.wrap 1 = 1 := by decide
 have w2 : IntKind.i64.wrap 2 = 2 := by decide
 rcases (by omega : i = 0 ∨ i = 1 ∨ i = 2) with rfl | rfl | rfl
 ·by_cases hz : a = 0
  ·simp [t3, t6, t7, t8, c1, hz, w1]
   exact hK _ _ (by omega) ⟨by simp [t3, t6, t7], rfl, fun _ => hz, by omega⟩
  ·have hb : (a != 0) = true := by simpa using hz
   simp [t3, t6, t7, t8, c1, hb, zbu hz]
 ·have z1 := k1 (by omega)
  by_cases hz : b = 0
  ·simp [t3, t6, t7, t8, c1, hz, w2]
   exact hK _ _ (by omega) ⟨by simp [t3, t6, t7], rfl, fun _ => z1, fun _ => hz⟩
  ·have hb : (b != 0) = true := by simpa using hz
   simp [t3, t6, t7, t8, c1, hb, z1, zaP]
 ·have z1 := k1 (by omega)
  have z2 := k2 (by omega)
  simp [t3, t7, t8, z1, z2, zaP]
theorem zlv {h : H} {a b : Chg} {vp vc vx vl vk wp wc wx wl wk : V} (o1 : vp.one = true) (o2 : vc.one = true) (o3 : vx.one = true) (o4 : vl.one = true) (o5 : vk.one = true) (p1 : wp.one = true) (p2 : wc.one = true) (p3 : wx.one = true) (p4 : wl.one = true) (p5 : wk.one = true) :
  Pure Tryz.prog 79 [.agg (chC a vp vc vx vl vk), .agg (chC b wp wc wx wl wk)] h (.int .i64 (cmpC a b)) := by
 refine zae Tryz.func79 S.a46c S.a46e rfl (Nat.le_of_ble_eq_true rfl) fun wf => ?_; simp only [S.a46]
 obtain ⟨h2, hh2⟩ : ∃ h2, h2 = (h.push (.row (chC a vp vc vx vl vk))).push (.row (chC b wp wc wx wl wk)) := ⟨_, rfl⟩
 have g2 : Ge h h2 := by rw [hh2]; exact ((Ge.refl _).push _).push _
 have n01 : ¬ h.next = h.next + 1 := by omega
 have c1 : zac h2.get h.next 23 = some (chC a vp vc vx vl vk) := by rw [hh2]; simp [chC]
 have c2 : zac h2.get (h.next + 1) 23 = some (chC b wp wc wx wl wk) := by rw [hh2]; simp [chC]
 simp only [chC] at hh2 c1 c2 ⊢
 simp [o1, o2, o3, o4, o5, p1, p2, p3, p4, p5]
 rw [<- hh2]
 have r2 : zao 2 [V.int .i64 0] = [.int .i64 0, .int .i64 0] := rfl
 refine zfw _ znQ (by rfl) ?_
 simp [List.lookup, c1, c2, zn8]
 refine zdc (zqh (q := h2.next) (a := cmp4 a.n.p.fam a.n.p.rd a.n.p.len b.n.p.fam b.n.p.rd b.n.p.len a.n.p.addr b.n.p.addr) (b := cmpI a.n.id b.n.id) (by simp [r2])) ?_
 simp [cmpC, zkg, zaK, zcK, cmp4]
 exact g2.push _
open Go.Sort in
theorem swo_c : SWO (ltOf cmpC) := by
 refine ⟨fun x => ?_, fun x y z h1 h2 => ?_, fun x y z h1 h2 => ?_⟩
 ·simp [ltOf, ordr_c.self x]
 ·simp only [ltOf, decide_eq_true_eq] at *
  exact ordr_c.down _ _ _ h1 h2
 ·simp only [ltOf, decide_eq_false_iff_not] at *
  intro h
  have a := ordr_c.anti x y
  rcases Int.lt_trichotomy (cmpC y x) 0 with k | k | k
  ·exact h2 (ordr_c.down y x z k h)
  ·have := ordr_c.same y x z k; omega
  ·omega
theorem zk5 : ∀ {ds : List (List V)} {sz : Nat} (_ : ∀ e ∈ ds, e.length = sz) {k : Nat} (_ : k < ds.length) {e : List V} (_ : e.length = sz), ds.flatten.take (k * sz) ++ (e ++ ds.flatten.drop (k * sz + sz)) = (ds.set k e).flatten := by
 intro ds sz hs k hk e he
 have e1 := zeT hs k
 have e2 := zeW hs (k + 1)
 rw [Nat.add_mul, Nat.one_mul] at e2
 rw [List.set_eq_take_append_cons_drop, if_pos hk, List.flatten_append, List.flatten_cons, e1, e2]
open Go.Sort in
theorem zlg {h : H} {j : Nat} {ca : Option Nat} {l : List (Chg × List V)} {o : O} (hg : h.get j = some o) (ho : o = .row (l.map Prod.snd).flatten ∨ o = .grow 23 (l.map Prod.snd).flatten) (he : ∀ x ∈ l, ∃ vp vc vx vl vk, x.2 = chC x.1 vp vc vx vl vk ∧ vp.one = true ∧ vc.one = true ∧ vx.one = true ∧ vl.one = true ∧ vk.one = true) (hl : l.length ≤ 1000000) (hne : l ≠ []) {g : FuncId} (heg : zaa Tryz.prog g = true)
  (hcmp : ∀ (a b : Chg) (h' : H), Pure Tryz.prog g [.agg (chC a .any .any .any .any .any), .agg (chC b .any .any .any .any .any)] h' (.int .i64 (cmpC a b))) {Q : V -> H -> Prop}
  (q : ∀ l' : List (Chg × List V), l'.Perm l -> l'.Pairwise (fun x y => ¬ cmpC y.1 x.1 < 0) -> Q (.tup []) (h.set j (match o with | .row _ => .row (l'.map Prod.snd).flatten | _ => .grow 23 (l'.map Prod.snd).flatten))) :
  Acalls Tryz.prog 78 [.sl j (l.length * 23) 0 l.length ca, .func (.func g) [] []] h Q := by
 have h23 : ∀ {m : List (Chg × List V)}, (∀ x ∈ m, x ∈ l) -> ∀ e ∈ m.map Prod.snd, e.length = 23 := fun hm e hx => by
  obtain ⟨x, hx1, rfl⟩ := List.mem_map.1 hx
  obtain ⟨_, _, _, _, _, e, _⟩ := he x (hm x hx1)
  rw [e]; rfl
 have hfl := zaA (h23 (m := l) fun x hx => hx)
 simp only [List.length_map] at hfl
 have hone : ∀ e ∈ l.map Prod.snd, e.all V.one = true := fun e hx => by
  obtain ⟨x, hx1, rfl⟩ := List.mem_map.1 hx
  obtain ⟨_, _, _, _, _, e, o1, o2, o3, o4, o5⟩ := he x hx1
  rw [e]; simp [chC, o1, o2, o3, o4, o5]
 have oc : o.cells = (l.map Prod.snd).flatten := by rcases ho with rfl | rfl <;> simp
 have orr : o.rowish = true := by rcases ho with rfl | rfl <;> rfl
 have ol : o.len = l.length * 23 := by rcases ho with rfl | rfl <;> simpa using hfl
 have S : SortIn h j (l.length * 23) 0 23 (l.map Prod.snd) o := ⟨hg, orr, ol, by rw [oc]; simp [hfl], by rw [oc]; simp only [List.drop_zero, List.length_map]; rw [<- hfl, List.take_length], h23 fun x hx => hx, hone⟩
 refine zlu Tryz.sort78 (F := 78) (g := g) (k := 23) rfl (by kernel_rfl) Tryz.isAgg48 Tryz.sizeOf48 (by decide) S (encV := Prod.snd) (shV := fun x => chC x.1 .any .any .any .any .any) (cmpB := fun x y => cmpC x.1 y.1) ⟨fun x => swo_c.irrefl _, fun x y z => swo_c.trans _ _ _, fun x y z => swo_c.ntrans _ _ _⟩ (fun x hx => ?_) heg rfl (by omega) (List.length_pos_iff.2 hne) (fun x _ y _ h' => hcmp x.1 y.1 h') (fun l' o' hp hs hput => ?_)
 ·obtain ⟨vp, vc, vx, vl, vk, e, o1, o2, o3, o4, o5⟩ := he x hx
  rw [e]
  have nr : ∀ v : V, v.ids = [] -> Weak v v := fun v hv => .inr ⟨rfl, hv⟩
  have an : ∀ v : V, v.one = true -> Weak v .any := fun v hv => .inl ⟨rfl, hv⟩
  exact .cons (nr _ rfl) (.cons (nr _ rfl) (.cons (nr _ rfl) (.cons (nr _ rfl) (.cons (nr _ rfl) (.cons (nr _ rfl) (.cons (nr _ rfl) (.cons (nr _ rfl) (.cons (an _ o1) (.cons (nr _ rfl) (.cons (nr _ rfl) (.cons (nr _ rfl) (.cons (nr _ rfl) (.cons (nr _ rfl) (.cons (nr _ rfl) (.cons (nr _ rfl) (.cons (nr _ rfl) (.cons (an _ o2) (.cons (an _ o3) (.cons (an _ o4) (.cons (nr _ rfl) (.cons (nr _ rfl) (.cons (an _ o5) .nil))))))))))))))))))))))
 ·have hfl' := zaA (h23 (m := l') fun x hx => hp.mem_iff.1 hx)
  simp only [List.length_map] at hfl'
  have hle := hp.length_eq
  have hs' : l'.Pairwise (fun x y => ¬ cmpC y.1 x.1 < 0) := hs.imp fun {a b} h => by simpa [ltOf] using h
  have hQ := q l' hp hs'
  rcases ho with rfl | rfl
  ·have e : o' = .row (l'.map Prod.snd).flatten := by
    rw [zhQ, if_pos (by rw [hfl', hfl, hle]; omega)] at hput
    cases hput
    unfold putCells
    rw [List.take_zero, List.nil_append, Nat.zero_add, hfl', hle, <- hfl, List.drop_length, List.append_nil]
   rw [e]; exact hQ
  ·have e : o' = .grow 23 (l'.map Prod.snd).flatten := by
    rw [zh1, if_pos (by rw [hfl', hfl, hle]; omega)] at hput
    cases hput
    unfold putCells
    rw [List.take_zero, List.nil_append, Nat.zero_add, hfl', hle, <- hfl, List.drop_length, List.append_nil]
   rw [e]; exact hQ
end Go.Am

namespace Go.Am

structure Pc where
 gap : Nat
 op : Nat
 last : Nat
 S : List Chg
def zbf (P : Pc) (now : Nat) : Bool := !(decide (now < P.op) || decide (P.S = []))
def zba (P : Pc) (now : Nat) : Pc := if zbf P now = true then ⟨P.gap, now + P.gap, now, []⟩ else ⟨P.gap, P.op, now, P.S⟩
def zbl (P : Pc) (now : Nat) : List Chg := if zbf P now = true then P.S else []
def zbe (P : Pc) (l : List Chg) : Pc := ⟨P.gap, P.op, P.last, l.foldl putC P.S⟩
theorem zfu : ∀ (l S : List Chg), Rise cmpC S -> Rise cmpC (l.foldl putC S)
 | [], _, h => h
 | _ :: l, _, h => zfu l _ (zc2 h)
theorem zft {P : Pc} (h : Rise cmpC P.S) (l : List Chg) : Rise cmpC (zbe P l).S := zfu l _ h
theorem ziX {P : Pc} (h : Rise cmpC P.S) (now : Nat) : Rise cmpC (zba P now).S := by
 unfold zba; split
 ·exact List.Pairwise.nil
 ·exact h
structure Stp where
 key : Nat
 wait : Nat
 gone : Bool
 fire : Bool
def attM (i : Nat) : Att := ⟨0, [], [], true, i, false, 0, false, 0, 0, [], [], [], false, 0, []⟩
def nlOf (k : Nat) : Nl := ⟨⟨1, 0, [UInt8.ofNat (10 + k % 4), 0, 0, 0], 8⟩, k % 8 / 4, 0⟩
def zfl (x : Stp) (i : Nat) : Chg := ⟨x.gone, nlOf x.key, if x.gone = true then att0 else attM i⟩
def ixOf (c : Chg) : Nat := ((c.n.p.addr.getD 0 0).toNat - 10) + 4 * c.n.id
theorem ziL (x : Stp) (i : Nat) : ixOf (zfl x i) = x.key % 8 := by
 have : (UInt8.ofNat (10 + x.key % 4)).toNat = 10 + x.key % 4 := by
  rw [UInt8.toNat_ofNat']; omega
 simp only [ixOf, zfl, nlOf, List.getD_cons_zero, this]
 omega
theorem znu {x y : Stp} {i j : Nat} (h : x.key % 8 = y.key % 8) : zaK (zfl x i) = zaK (zfl y j) := by
 have h1 : x.key % 4 = y.key % 4 := by omega
 simp only [zaK, zfl, nlOf, h, h1]
def zqj (l : List Stp) (put sent : Nat -> Nat) (c : Chg) : Prop := ∃ k x, k < 8 ∧ put k ≠ sent k ∧ l[put k - 1]? = some x ∧ x.key % 8 = k ∧ c = zfl x (put k - 1)
structure PInv (g : Nat) (l : List Stp) (i : Nat) (P : Pc) (put sent : Nat -> Nat) : Prop where
 gap : P.gap = g
 le : ∀ k, k < 8 -> sent k ≤ put k
 pl : ∀ k, k < 8 -> put k ≤ i
 pk : ∀ k, k < 8 -> 0 < put k -> ∃ x, l[put k - 1]? = some x ∧ x.key % 8 = k
 rise : Rise cmpC P.S
 mem : ∀ c, c ∈ P.S ↔ zqj l put sent c
theorem PInv.zero (g : Nat) (l : List Stp) (op last : Nat) : PInv g l 0 ⟨g, op, last, []⟩ (fun _ => 0) (fun _ => 0) :=
 ⟨rfl, fun _ _ => Nat.le_refl _, fun _ _ => Nat.le_refl _, fun _ _ h => by omega, List.Pairwise.nil, fun c => ⟨fun h => (by cases h), fun ⟨_, _, _, h, _⟩ => absurd rfl h⟩⟩
def upAt (f : Nat -> Nat) (j v : Nat) : Nat -> Nat := fun k => if k = j then v else f k
theorem zc5 (f : Nat -> Nat) (j v : Nat) : upAt f j v j = v := by simp [upAt]
theorem zfg (f : Nat -> Nat) {j k : Nat} (v : Nat) (h : k ≠ j) : upAt f j v k = f k := by simp [upAt, h]
theorem PInv.put {g i : Nat} {l : List Stp} {P : Pc} {put sent : Nat -> Nat} (v : PInv g l i P put sent) {x : Stp} (hx : l[i]? = some x) :
  PInv g l (i + 1) (zbe P [zfl x i]) (upAt put (x.key % 8) (i + 1)) sent := by
 refine ⟨v.gap, fun k hk => ?_, fun k hk => ?_, fun k hk hp => ?_, zc2 v.rise, fun c => ?_⟩
 ·have := v.le k hk
  have := v.pl k hk
  unfold upAt
  split <;> omega
 ·have := v.pl k hk
  unfold upAt
  split <;> omega
 ·by_cases e : k = x.key % 8
  ·subst e; rw [zc5]; exact ⟨x, by simpa using hx, rfl⟩
  ·rw [zfg _ _ e] at hp ⊢; exact v.pk k hk hp
 ·show c ∈ putC P.S (zfl x i) ↔ _
  rw [zdY v.rise]
  constructor
  ·rintro (rfl | ⟨hc, hne⟩)
   ·refine ⟨x.key % 8, x, Nat.mod_lt _ (by decide), ?_, by rw [zc5]; simpa using hx, rfl, by rw [zc5]; simp⟩
    have := v.le (x.key % 8) (Nat.mod_lt _ (by decide))
    have := v.pl (x.key % 8) (Nat.mod_lt _ (by decide))
    rw [zc5]; omega
   ·obtain ⟨k, y, hk, h1, h2, h3, rfl⟩ := (v.mem c).1 hc
    have hkx : k ≠ x.key % 8 := fun e => hne (znu (h3.trans e))
    exact ⟨k, y, hk, by rw [zfg _ _ hkx]; exact h1, by rw [zfg _ _ hkx]; exact h2, h3, by rw [zfg _ _ hkx]⟩
  ·rintro ⟨k, y, hk, h1, h2, h3, rfl⟩
   by_cases e : k = x.key % 8
   ·subst e
    rw [zc5] at h2 ⊢
    simp only [Nat.add_sub_cancel, hx, Option.some.injEq] at h2
    subst h2
    exact .inl (by simp)
   ·rw [zfg _ _ e] at h1 h2 ⊢
    refine .inr ⟨(v.mem _).2 ⟨k, y, hk, h1, h2, h3, rfl⟩, fun e2 => e ?_⟩
    have a := ziL y (put k - 1)
    have b := ziL x i
    unfold ixOf at a b
    simp only [zaK, Ky.mk.injEq] at e2
    rw [e2.1, e2.2] at a
    omega
theorem PInv.up {g i : Nat} {l : List Stp} {P : Pc} {put sent : Nat -> Nat} (v : PInv g l i P put sent) : PInv g l (i + 1) P put sent :=
 ⟨v.gap, v.le, fun k hk => Nat.le_succ_of_le (v.pl k hk), v.pk, v.rise, v.mem⟩
def zj6 (put : Nat -> Nat) (sent : Nat -> Nat) (m : List Chg) : Nat -> Nat := fun k => if k ∈ m.map ixOf then put k else sent k
theorem PInv.one {g i : Nat} {l : List Stp} {P : Pc} {put sent : Nat -> Nat} (v : PInv g l i P put sent) {c : Chg} (hc : c ∈ P.S) :
  ixOf c < 8 ∧ 0 < put (ixOf c) ∧ put (ixOf c) ≤ i ∧ put (ixOf c) ≠ sent (ixOf c) ∧ ∃ x, l[put (ixOf c) - 1]? = some x ∧ x.key % 8 = ixOf c ∧ c = zfl x (put (ixOf c) - 1) := by
 obtain ⟨k, x, hk, h1, h2, h3, rfl⟩ := (v.mem c).1 hc
 rw [ziL, h3]
 have := v.le k hk
 exact ⟨hk, by omega, v.pl k hk, h1, x, h2, h3, rfl⟩
theorem PInv.ix_nodup {g i : Nat} {l : List Stp} {P : Pc} {put sent : Nat -> Nat} (v : PInv g l i P put sent) : (P.S.map ixOf).Nodup := by
 unfold List.Nodup
 rw [List.pairwise_map]
 refine v.rise.imp_of_mem fun {a b} ha hb hab e => ?_
 obtain ⟨_, _, _, _, x, hx, _, ea⟩ := v.one ha
 obtain ⟨_, _, _, _, y, hy, _, eb⟩ := v.one hb
 rw [e, hy] at hx
 cases hx
 have : a = b := by rw [ea, eb, e]
 subst this
 have := ordr_c.self a
 omega
theorem PInv.ix_mem {g i : Nat} {l : List Stp} {P : Pc} {put sent : Nat -> Nat} (v : PInv g l i P put sent) {k : Nat} (hk : k < 8) : k ∈ P.S.map ixOf ↔ put k ≠ sent k := by
 constructor
 ·intro h
  obtain ⟨c, hc, rfl⟩ := List.mem_map.1 h
  exact (v.one hc).2.2.2.1
 ·intro h
  have h0 : 0 < put k := by have := v.le k hk; omega
  obtain ⟨x, hx, e⟩ := v.pk k hk h0
  refine List.mem_map.2 ⟨zfl x (put k - 1), (v.mem _).2 ⟨k, x, hk, h, hx, e, rfl⟩, ?_⟩
  rw [ziL, e]
theorem PInv.count {g i : Nat} {l : List Stp} {P : Pc} {put sent : Nat -> Nat} (v : PInv g l i P put sent) : P.S.length = ((List.range 8).filter fun k => decide (put k ≠ sent k)).length := by
 have : (P.S.map ixOf).Perm ((List.range 8).filter fun k => decide (put k ≠ sent k)) := by
  refine (List.perm_ext_iff_of_nodup v.ix_nodup (List.nodup_range.filter _)).2 fun k => ?_
  rw [List.mem_filter, decide_eq_true_eq, List.mem_range]
  constructor
  ·intro h
   obtain ⟨c, hc, rfl⟩ := List.mem_map.1 h
   have := v.one hc
   exact ⟨this.1, this.2.2.2.1⟩
  ·exact fun ⟨h1, h2⟩ => (v.ix_mem h1).2 h2
 rw [<- this.length_eq, List.length_map]
theorem PInv.gone {g i : Nat} {l : List Stp} {P : Pc} {put sent : Nat -> Nat} (v : PInv g l i P put sent) (op last : Nat) : PInv g l i ⟨P.gap, op, last, []⟩ put (zj6 put sent P.S) := by
 refine ⟨v.gap, fun k hk => ?_, v.pl, v.pk, List.Pairwise.nil, fun c => ⟨fun h => (by cases h), ?_⟩⟩
 ·have := v.le k hk
  unfold zj6
  split <;> omega
 ·rintro ⟨k, x, hk, h1, _⟩
  unfold zj6 at h1
  split at h1
  ·exact absurd rfl h1
  ·rename_i h2
   exact absurd ((v.ix_mem hk).2 h1) h2
theorem PInv.with {g i : Nat} {l : List Stp} {P : Pc} {put sent : Nat -> Nat} (v : PInv g l i P put sent) (op last : Nat) : PInv g l i ⟨P.gap, op, last, P.S⟩ put sent := ⟨v.gap, v.le, v.pl, v.pk, v.rise, v.mem⟩
end Go.Am

namespace Go.Am
open Go.Proofs

set_option maxRecDepth 100000
theorem zpA {h : H} : Pure Tryz.prog 149 [.int .u64 0] h (.int .i64 0) := by
 refine zae Tryz.func149 S.a94c S.a94e rfl (Nat.le_of_ble_eq_true rfl) fun wf => ?_; simp only [S.a94]
 have w : IntKind.u8.wrap 0 = 0 := by decide
 have w2 : IntKind.i64.wrap 0 = 0 := by decide
 simp [w, w2]
theorem lenz {h : H} : Pure Tryz.prog 115 [.int .u64 0] h (.int .i64 0) := by
 refine zae Tryz.func115 S.a74c S.a74e rfl (Nat.le_of_ble_eq_true rfl) fun wf => ?_; simp only [S.a74]
 simp
 refine zpA _ ?_
 simp
theorem zqi {h : H} {v c : V} : Pure Tryz.prog 140 [v, .int .i64 0, .int .i64 0, c] h (.tup []) := by
 refine zae Tryz.func140 S.a93c S.a93e rfl (Nat.le_of_ble_eq_true rfl) fun wf => ?_; simp only [S.a93]
 have w : IntKind.i64.wrap 1 = 1 := by decide
 simp [w]
 refine zal (fun i t h' => (t 2 = .int .i64 0 ∧ t 8 = .int .i64 1) ∧ h' = h) 0 ⟨by simp, rfl⟩ ?_
 rintro i t h' hi ⟨⟨t2, t8⟩, rfl⟩ K hK
 simp [t2, t8]
theorem pdqz {h : H} {v lim c : V} : Pure Tryz.prog 114 [v, .int .i64 0, .int .i64 0, lim, c] h (.tup []) := by
 refine zae Tryz.func114 S.a73c S.a73e rfl (Nat.le_of_ble_eq_true rfl) fun wf => ?_; simp only [S.a73]
 have w : IntKind.i64.wrap 0 = 0 := by decide
 simp
 refine zal (fun i t h' => (t 0 = v ∧ t 1 = .int .i64 0 ∧ t 2 = .int .i64 0 ∧ t 4 = c) ∧ h' = h) 0 ⟨by simp, rfl⟩ ?_
 rintro i t h' hi ⟨⟨t0, t1, t2, t4⟩, rfl⟩ K hK
 simp [t0, t1, t2, t4, w]
 refine zqi _ ?_
 simp
theorem zrF {h : H} {v c : V} (hv : ∀ g, lenV 1 g v = some (.int .i64 0)) : Pure Tryz.prog 78 [v, c] h (.tup []) := by
 refine zae Tryz.func78 S.a45c S.a45e rfl (Nat.le_of_ble_eq_true rfl) fun wf => ?_; simp only [S.a45]
 have w : IntKind.u64.wrap 0 = 0 := by decide
 simp [hv, w]
 refine lenz _ ?_
 simp
 refine pdqz _ ?_
 simp

theorem zgZ {S : List Chg} (hk : zb4 S) (hw : S.Pairwise fun x y => ¬ cmpC y x < 0) : Rise cmpC S := by
 unfold zb4 List.Nodup at hk
 rw [List.pairwise_map] at hk
 refine (hk.and hw).imp fun {a b} h => ?_
 have h1 := ordr_c.anti a b
 have h2 : cmpC a b ≠ 0 := fun e => h.1 (zfV e)
 have := h.2
 omega
def HeldAt (h : H) (R : Nat -> Prop) (m : Nat) (S : List Chg) : Prop := ∃ es bs tk L, h.get m = some (.mapo es bs tk) ∧ MapB es bs tk ∧ Srt L S ∧ es.length = L.length ∧ ∀ (i : Nat) (c : Chg), L[i]? = some c -> ∃ e, es[i]? = some (kyV (zaK c), .agg e) ∧ ChP h R c e
structure PaceAt (h : H) (R : Nat -> Prop) (p m : Nat) (P : Pc) : Prop where
 row : h.get p = some (.row [.int .i64 (P.gap : Nat), .int .u64 (P.op : Nat), .int .u64 (P.last : Nat), .map m])
 held : HeldAt h R m P.S
theorem HeldAt.keep {h h' : H} {R : Nat -> Prop} {m : Nat} {S : List Chg} (x : HeldAt h R m S) (hn : h.next ≤ h'.next) (hm : h'.get m = h.get m) (k : ∀ j s cs, R j -> j < h.next -> h.get j = some (.grow s cs) -> h'.get j = some (.grow s cs)) : HeldAt h' R m S := by
 obtain ⟨es, bs, tk, L, a, b, c, d, e⟩ := x
 exact ⟨es, bs, tk, L, hm.trans a, b, c, d, fun i q hi => by obtain ⟨e1, h1, h2⟩ := e i q hi; exact ⟨e1, h1, h2.keep hn k⟩⟩
theorem HeldAt.mono {h : H} {R R' : Nat -> Prop} {m : Nat} {S : List Chg} (x : HeldAt h R m S) (k : ∀ j, j < h.next -> R j -> R' j) : HeldAt h R' m S := by
 obtain ⟨es, bs, tk, L, a, b, c, d, e⟩ := x
 exact ⟨es, bs, tk, L, a, b, c, d, fun i q hi => by obtain ⟨e1, h1, h2⟩ := e i q hi; exact ⟨e1, h1, h2.mono k⟩⟩
theorem HeldAt.len {h : H} {R : Nat -> Prop} {m : Nat} {S : List Chg} (x : HeldAt h R m S) (g : Nat -> Option O) (hg : g m = h.get m) : lenV 2 g (.map m) = some (.int .i64 (S.length : Nat)) := by
 obtain ⟨es, bs, tk, L, a, b, c, d, e⟩ := x
 simp [lenV, hg, a, d, c.perm.length_eq]
theorem zex {h : H} {R : Nat -> Prop} {p m : Nat} {P : Pc} (x : PaceAt h R p m P) : Pure Tryz.prog 75 [.ptr p 4 0] h (.bool false) := by
 refine zae Tryz.func75 S.a42c S.a42e rfl (Nat.le_of_ble_eq_true rfl) fun wf => ?_; simp only [S.a42]
 have c : zac h.get p 4 = some [.int .i64 (P.gap : Nat), .int .u64 (P.op : Nat), .int .u64 (P.last : Nat), .map m] := (zad (n := 4) x.row rfl).trans rfl
 simp [c, eqV]
theorem ze1 {ds : List (List V)} {n sz : Nat} (h1 : ds.length = n) (h2 : ∀ e ∈ ds, e.length = sz) : ds.flatten.length = n * sz := by rw [<- h1]; exact zaA h2
def chg0 : Chg := ⟨false, ⟨zsc, 0, 0⟩, att0⟩
theorem zeQ {h : H} {R : Nat -> Prop} {p m : Nat} {P : Pc} (x : PaceAt h R p m P) (hb : P.S.length ≤ 100000) {Q : V -> H -> Prop} (q : ∀ w es h', Ge h h' -> h'.WF -> LsP h' (fun j => h.next ≤ j) w P.S es -> Q w h') : Acalls Tryz.prog 33 [.ptr p 4 0] h Q := by
 refine zai Tryz.func33 S.a8c S.a8e (Nat.le_of_ble_eq_true rfl) fun wf => ?_; simp only [S.a8]
 have c : zac h.get p 4 = some [.int .i64 (P.gap : Nat), .int .u64 (P.op : Nat), .int .u64 (P.last : Nat), .map m] := (zad (n := 4) x.row rfl).trans rfl
 obtain ⟨es, bs, tk, L, hm, mb, srt, hel, hent⟩ := x.held
 have hLl : L.length = P.S.length := srt.perm.length_eq
 simp
 refine zex x _ ?_
 simp [c]
 refine ziZ fun _ => ?_
 obtain ⟨h1, hh1⟩ : ∃ h1, h1 = h.push (.row [.map m]) := ⟨_, rfl⟩
 have g1 : Ge h h1 := by rw [hh1]; exact (Ge.refl _).push _
 have w1 : h1.WF := by rw [hh1]; exact wf.push _
 have n1 : h1.next = h.next + 1 := by rw [hh1]; simp
 have b1 : h1.get h.next = some (.row [.map m]) := by rw [hh1]; simp
 have m1 : h1.get m = some (.mapo es bs tk) := (g1.2 _ (wf.lt hm)).trans hm
 rw [<- hh1]
 have hes : ∀ (i : Nat) (y : V × V), es[i]? = some y -> ∃ e, y.2 = .agg e ∧ ChO e := fun i y hy => by
  have hil := (List.getElem?_eq_some_iff.1 hy).1
  obtain ⟨e, e1, vp, vc, vx, vl, vk, e2, e3⟩ := hent i (L[i]'(by omega)) (List.getElem?_eq_getElem _)
  rw [hy, Option.some.injEq] at e1
  obtain ⟨o1, o2, o3, o4, o5⟩ := e3.one
  exact ⟨e, by rw [e1], _, vp, vc, vx, vl, vk, e2, o1, o2, o3, o4, o5⟩
 simp
 refine zjw b1 m1 mb hes (by omega) fun v1 dn h2 g2 w2 hp gl => ?_
 obtain ⟨n, hn⟩ : ∃ n, n = es.length := ⟨_, rfl⟩
 rw [<- hn] at hp
 have hdl : dn.length = n := by rw [hp.length_eq]; simp
 have hdi : ∀ k, k < n -> ∃ i, dn[k]? = some i ∧ i < n := fun k hk => by
  refine ⟨dn[k]'(by omega), List.getElem?_eq_getElem _, ?_⟩
  have := hp.mem_iff.1 (List.getElem_mem (l := dn) (n := k) (by omega))
  simpa using this
 obtain ⟨M, hM⟩ : ∃ M : List Chg, M = dn.map fun i => L.getD i chg0 := ⟨_, rfl⟩
 obtain ⟨cs, hcs⟩ : ∃ cs, cs = dn.map (zdp es) := ⟨_, rfl⟩
 have hMl : M.length = n := by rw [hM]; simpa using hdl
 have hcl : cs.length = n := by rw [hcs]; simpa using hdl
 have hMp : M.Perm L := by rw [hM]; exact zki hp (by omega) chg0
 have at1 : ∀ k, k < n -> ∃ c e, M[k]? = some c ∧ cs[k]? = some e ∧ ChP h R c e := fun k hk => by
  obtain ⟨i, hi, hin⟩ := hdi k hk
  obtain ⟨e, e1, e2⟩ := hent i (L[i]'(by omega)) (List.getElem?_eq_getElem _)
  refine ⟨L[i]'(by omega), e, ?_, ?_, e2⟩
  ·simp [hM, List.getElem?_map, hi, List.getElem?_eq_getElem (show i < L.length by omega)]
  ·simp [hcs, List.getElem?_map, hi, zgx e1]
 have c23 : ∀ e ∈ cs, e.length = 23 := fun e he => by
  obtain ⟨k, hk, rfl⟩ := List.mem_iff_getElem.1 he
  obtain ⟨_, e, _, e2, e3⟩ := at1 k (by omega)
  rw [List.getElem?_eq_getElem hk, Option.some.injEq] at e2
  rw [e2]; exact e3.at.len
 have cO : ∀ e ∈ cs, e.all V.one = true := fun e he => by
  obtain ⟨k, hk, rfl⟩ := List.mem_iff_getElem.1 he
  obtain ⟨_, e, _, e2, e3⟩ := at1 k (by omega)
  rw [List.getElem?_eq_getElem hk, Option.some.injEq] at e2
  rw [e2]; exact e3.at.ones
 rw [<- hcs] at gl
 have sl := gl.sls c23 (by omega)
 have hlen := sl.len
 rw [hcl] at hlen
 have hmk : zbT h2.next 23 240 chZ (.int .i64 (n : Nat)) (.int .i64 (n : Nat)) = some (.sl h2.next (n * 23) 0 n (some n), .push (.row (zao n chZ))) := by
  have hc : (0 : Int) ≤ (n : Nat) ∧ ((n : Nat) : Int) ≤ (n : Nat) ∧ ((240 : Nat) : Int) * (n : Nat) ≤ 140737488355328 ∧ ((n : Nat) : Int) ≤ 9223372036854775807 := by omega
  simp only [zbT, if_pos hc, Int.toNat_natCast]
 simp only [chZ] at hmk
 simp [hlen, hmk]
 obtain ⟨h3, hh3⟩ : ∃ h3, h3 = h2.push (.row (zao n chZ)) := ⟨_, rfl⟩
 have g3 : Ge h2 h3 := by rw [hh3]; exact (Ge.refl _).push _
 have w3 : h3.WF := by rw [hh3]; exact w2.push _
 have n3 : h3.next = h2.next + 1 := by rw [hh3]; simp
 have hfl := ze1 hcl c23
 have hrl : (zao n chZ).length = n * 23 := by simp [zao, chZ]
 have x3 : h3.get h2.next = some (.row (zao n chZ)) := by rw [hh3]; simp
 obtain ⟨D, hD, x4, k4, n4, w4⟩ : ∃ D, zfo h3.get 23 (.sl h2.next (n * 23) 0 n (some n)) v1 = some (.int .i64 (n : Nat), D) ∧ (h3.app D).get h2.next = some (.row cs.flatten) ∧ (∀ k, k ≠ h2.next -> (h3.app D).get k = h3.get k) ∧ (h3.app D).next = h3.next ∧ (h3.app D).WF := by
  have rd := (sl.ge w2 g3).read
  rw [hcl] at rd
  by_cases h0 : n = 0
  ·have hc0 : cs = [] := List.length_eq_zero_iff.1 (by omega)
   refine ⟨.keep, ?_, ?_, fun _ _ => rfl, rfl, w3⟩
   ·unfold zfo; rw [rd]; simp [h0]
   ·show h3.get h2.next = _
    rw [x3, hc0, h0]; simp [zao]
  ·refine ⟨.set h2.next (.row cs.flatten), ?_, by simp, fun k hk => by simp [hk], by simp, w3.set (by omega) _⟩
   unfold zfo
   rw [rd]
   have hall : (cs.flatten.take (n * 23)).all V.one = true := by
    rw [<- hfl, List.take_length, List.all_flatten]
    exact List.all_eq_true.2 fun e he => cO e he
   simp only [Nat.min_self]
   rw [if_neg h0, if_pos hall, x3]
   simp only [zkW, hrl, if_true, zhQ]
   rw [if_pos (by rw [<- hfl, List.take_length]; omega)]
   simp only [Option.map_some, Option.some.injEq, Prod.mk.injEq, true_and]
   congr 2
   unfold putCells
   rw [<- hfl, List.take_length, List.take_zero, List.nil_append, Nat.zero_add, hfl, <- hrl, List.drop_length, List.append_nil]
 obtain ⟨h4, hh4⟩ : ∃ h4, h4 = h3.app D := ⟨_, rfl⟩
 rw [<- hh4] at x4 k4 n4 w4
 simp only [chZ] at hh3
 rw [<- hh3]
 simp [hD]
 rw [<- hh4]
 have nlt : n < 9223372036854775808 := by omega
 obtain ⟨j, hj⟩ : ∃ j, j = h2.next := ⟨_, rfl⟩
 rw [<- hj] at x4 k4 n3 x3 ⊢
 have hn2 := g2.1
 have base : ∀ k, k < h2.next -> h4.get k = h2.get k := fun k hk => (k4 k (by omega)).trans (g3.2 k hk)
 have gh2 : Ge h h2 := g1.trans g2
 refine zal (fun i t h' => (t 4 = .sl j (n * 23) 0 n (some n) ∧ t 21 = .int .i64 (n : Nat) ∧ t 22 = .int .i64 (i : Nat)) ∧ h'.WF ∧ h4.next ≤ h'.next ∧ (∀ k, k < h2.next -> h'.get k = h2.get k) ∧ ∃ ds, h'.get j = some (.row ds.flatten) ∧ ds.length = n ∧ (∀ e ∈ ds, e.length = 23) ∧ (∀ k, k < n -> k < i -> ∃ c e, M[k]? = some c ∧ ds[k]? = some e ∧ ChP h' (fun y => h.next ≤ y) c e) ∧ ∀ k, i ≤ k -> ds[k]? = cs[k]?) n
  ⟨by simp, w4, Nat.le_refl _, base, cs, x4, hcl, c23, fun k _ hk => by omega, fun _ _ => rfl⟩ ?_
 rintro i t h' hi ⟨⟨t4, t21, t22⟩, wb, nb, kb, ds, xd, dl, d23, da, db⟩ K hK
 have dfl := ze1 dl d23
 have hjn : j < h'.next := by omega
 have gh' : Ge h h' := ⟨by have := gh2.1; omega, fun k hk => (kb k (by have := gh2.1; omega)).trans (gh2.2 k hk)⟩
 by_cases hlt : i < n
 ·have hw := zam hlt nlt
  obtain ⟨c, e, m1', m2, m3⟩ := at1 i hlt
  obtain ⟨vp, vc, vx, vl, vk, rfl, ap⟩ := m3
  have hde : ds[i]? = some (chC c vp vc vx vl vk) := (db i (Nat.le_refl _)).trans m2
  have hdi' : ds[i]'(by omega) = chC c vp vc vx vl vk := by rw [List.getElem?_eq_getElem (by omega), Option.some.injEq] at hde; exact hde
  have hld : (ds.flatten.drop (i * 23)).take 23 = chC c vp vc vx vl vk := by rw [zeb d23 (by omega), hdi']
  have cd : zac h'.get j (n * 23) = some ds.flatten := by rw [zad xd (by simpa using dfl)]; simp
  have hi23 : i * 23 + 23 ≤ n * 23 := by omega
  have hix : ∀ kd, zaC 23 (.sl j (n * 23) 0 n (some n)) (.int kd (i : Int)) = some (.ptr j (n * 23) (i * 23)) := fun kd => by
   simp only [zbm, Int.toNat_natCast]
   rw [if_pos ⟨by omega, by omega⟩]; simp
  have A' := ap.at.ge wf gh'
  have ow := fun Q q => zjT (Q := Q) A' ap.sz q
  simp only [chC] at hld ow
  simp [t4, t21, t22, hlt, hix, cd, hld, dfl, hi23]
  refine ow _ fun wp wc wx wl wk h5 g5 w5 F5 => ?_
  obtain ⟨f1, f2, f3, f4, f5⟩ := F5.one
  have x5 : h5.get j = some (.row ds.flatten) := (g5.2 j hjn).trans xd
  simp [hix, x5, dfl, hi23, f1, f2, f3, f4, f5]
  simp [t22, hw]
  obtain ⟨e', he'⟩ : ∃ e', e' = chC c wp wc wx wl wk := ⟨_, rfl⟩
  have fp := zk5 d23 (k := i) (by omega) (e := e') (by rw [he']; rfl)
  rw [he'] at fp
  simp only [chC, List.cons_append, List.nil_append] at fp
  rw [fp]
  have e2' : chC c wp wc wx wl wk = e' := he'.symm
  simp only [chC] at e2'
  rw [e2']
  obtain ⟨hF, hhF⟩ : ∃ hF, hF = h5.set j (.row (ds.set i e').flatten) := ⟨_, rfl⟩
  rw [<- hhF]
  have n5 := g5.1
  have kF : ∀ k, k ≠ j -> hF.get k = h5.get k := fun k hk => by rw [hhF, H.get_set, if_neg hk]
  have nF : hF.next = h5.next := by rw [hhF]; simp
  have keepF : ∀ {c : Chg} {e : List V}, ChP h5 (fun y => h.next ≤ y) c e -> ChP hF (fun y => h.next ≤ y) c e := fun f => f.keep (by omega) fun k s' c' _ hk hg => by rw [kF k (fun e => by subst e; rw [x5] at hg; cases hg)]; exact hg
  refine hK _ _ hlt ⟨by simp [t4, t21], by rw [hhF]; exact w5.set (by omega) _, by omega, fun k hk => ?_, ds.set i e', by rw [hhF]; simp, by simpa using dl, fun e he => ?_, fun k hk hki => ?_, fun k hk => ?_⟩
  ·rw [kF k (by omega), g5.2 k (by omega)]; exact kb k hk
  ·rcases List.mem_or_eq_of_mem_set he with he | rfl
   ·exact d23 e he
   ·rw [he']; rfl
  ·by_cases hkk : k = i
   ·subst hkk
    refine ⟨c, e', m1', by rw [List.getElem?_set_self (by omega)], keepF ⟨wp, wc, wx, wl, wk, he', F5.p.mono fun y _ hy => ?_⟩⟩
    have := gh'.1
    omega
   ·obtain ⟨c1, e1, a1, a2, a3⟩ := da k hk (by omega)
    exact ⟨c1, e1, a1, by rw [List.getElem?_set_ne (by omega)]; exact a2, keepF (a3.ge g5)⟩
  ·rw [List.getElem?_set_ne (by omega)]; exact db k (by omega)
 ·have hi2 : i = n := by omega
  subst hi2
  simp [t4, t21, t22]
  -- the list, told with its changes
  have key : ∀ k, k < i -> ∃ c e, M[k]? = some c ∧ ds[k]? = some e ∧ ChP h' (fun y => h.next ≤ y) c e := fun k hk => da k hk hk
  obtain ⟨l, hl⟩ : ∃ l, l = M.zip ds := ⟨_, rfl⟩
  have ll : l.length = i := by rw [hl, List.length_zip, hMl, dl]; simp
  have l1 : l.map Prod.fst = M := by rw [hl]; exact List.map_fst_zip (by omega)
  have l2 : l.map Prod.snd = ds := by rw [hl]; exact List.map_snd_zip (by omega)
  have hel2 : ∀ y ∈ l, ChP h' (fun y => h.next ≤ y) y.1 y.2 := fun y hy => by
   obtain ⟨k, hk, rfl⟩ := List.mem_iff_getElem.1 hy
   obtain ⟨c, e, a1, a2, a3⟩ := key k (by omega)
   have b1 : (l.map Prod.fst)[k]? = some l[k].1 := by rw [List.getElem?_map, List.getElem?_eq_getElem hk]; rfl
   have b2 : (l.map Prod.snd)[k]? = some l[k].2 := by rw [List.getElem?_map, List.getElem?_eq_getElem hk]; rfl
   rw [l1, a1] at b1
   rw [l2, a2] at b2
   cases b1
   cases b2
   exact a3
  have hS : ∀ l' : List (Chg × List V), l'.Perm l -> l'.Pairwise (fun x y => ¬ cmpC y.1 x.1 < 0) -> l'.map Prod.fst = P.S := fun l' hp' hs => by
   have p1 : (l'.map Prod.fst).Perm L := ((hp'.map Prod.fst).trans (by rw [l1])).trans hMp
   have k1 : zb4 (l'.map Prod.fst) := by
    have := srt.keys
    unfold zb4 at this ⊢
    exact (p1.map zaK).nodup_iff.2 this
   exact Srt.uniq ⟨p1.symm, zgZ k1 (by rw [List.pairwise_map]; exact hs)⟩ srt
  by_cases h0 : i = 0
  ·have hl0 : l = [] := List.length_eq_zero_iff.1 (by omega)
   have hS0 : P.S = [] := by have := hS [] (by rw [hl0]) List.Pairwise.nil; simpa using this.symm
   refine zrF (fun g => by simp [lenV, h0]) _ ?_
   simp [t4]
   refine q _ [] h' gh' wb ?_
   rw [hS0, h0]
   exact ⟨.inl ⟨rfl, .inr ⟨j, by simp⟩⟩, rfl, by simp⟩
  ·have heL : ∀ y ∈ l, ∃ vp vc vx vl vk, y.2 = chC y.1 vp vc vx vl vk ∧ vp.one = true ∧ vc.one = true ∧ vx.one = true ∧ vl.one = true ∧ vk.one = true := fun y hy => by
    obtain ⟨vp, vc, vx, vl, vk, e, A⟩ := hel2 y hy
    obtain ⟨o1, o2, o3, o4, o5⟩ := A.one
    exact ⟨vp, vc, vx, vl, vk, e, o1, o2, o3, o4, o5⟩
   have hlL : l.length ≤ 1000000 := by omega
   have hneL : l ≠ [] := fun e => by rw [e] at ll; simp at ll; omega
   have hcm : ∀ (a b : Chg) (h' : H), Pure Tryz.prog 79 [.agg (chC a .any .any .any .any .any), .agg (chC b .any .any .any .any .any)] h' (.int .i64 (cmpC a b)) := fun a b h' => zlv rfl rfl rfl rfl rfl rfl rfl rfl rfl rfl
   have hcall : ∀ Q : V -> H -> Prop, (∀ l' : List (Chg × List V), l'.Perm l -> l'.Pairwise (fun x y => ¬ cmpC y.1 x.1 < 0) -> Q (.tup []) (h'.set j (.row (l'.map Prod.snd).flatten))) -> Acalls Tryz.prog 78 [.sl j (l.length * 23) 0 l.length (some i), .func (.func 79) [] []] h' Q := fun Q hQ =>
    zlg xd (.inl (by rw [l2])) heL hlL hneL (by kernel_rfl) hcm hQ
   rw [ll] at hcall
   refine hcall _ fun l' hp' hs => ?_
   simp [t4]
   have hS1 := hS l' hp' hs
   have ll' : l'.length = i := by rw [hp'.length_eq, ll]
   have h23' : ∀ e ∈ l'.map Prod.snd, e.length = 23 := fun e he => by
    obtain ⟨y, hy, rfl⟩ := List.mem_map.1 he
    exact (hel2 y (hp'.mem_iff.1 hy)).at.len
   have hfl' := ze1 (n := i) (by simpa using ll') h23'
   obtain ⟨hF, hhF⟩ : ∃ hF, hF = h'.set j (.row (l'.map Prod.snd).flatten) := ⟨_, rfl⟩
   rw [<- hhF]
   have keepF : ∀ {c : Chg} {e : List V}, ChP h' (fun y => h.next ≤ y) c e -> ChP hF (fun y => h.next ≤ y) c e := fun f => f.keep (by rw [hhF]; simp) fun k s' c' _ hk hg => by rw [hhF, H.get_set, if_neg (fun e => by subst e; rw [xd] at hg; cases hg)]; exact hg
   refine q _ (l'.map Prod.snd) hF (by rw [hhF]; exact gh'.set (by have := gh2.1; omega) _) (by rw [hhF]; exact wb.set hjn _) ⟨.inr ⟨fun e => ?_, j, some i, _, by have := gh2.1; omega, by rw [hhF]; simpa using hjn, ?_, by rw [hhF]; simp, .inl rfl⟩, by rw [<- hS1]; simp, fun k c hk => ?_⟩
   ·have h9 := congrArg List.length e
    rw [List.length_map, ll'] at h9; exact h0 h9
   ·rw [hfl']; simp [ll']
   ·rw [<- hS1, List.getElem?_map] at hk
    cases hlk : l'[k]? with
    | none => rw [hlk] at hk; cases hk
    | some y =>
     rw [hlk] at hk
     cases hk
     exact ⟨y.2, by rw [List.getElem?_map, hlk]; rfl, keepF (hel2 y (hp'.mem_iff.1 (List.mem_of_getElem? hlk)))⟩
end Go.Am

namespace Go.Am
open Go.Proofs

set_option maxRecDepth 100000
structure But (h h' : H) (p m : Nat) : Prop where
 next : h.next ≤ h'.next
 keep : ∀ k, k < h.next -> k ≠ p -> k ≠ m -> h'.get k = h.get k
theorem But.refl (h : H) (p m : Nat) : But h h p m := ⟨Nat.le_refl _, fun _ _ _ _ => rfl⟩
theorem But.trans {a b c : H} {p m : Nat} (x : But a b p m) (y : But b c p m) : But a c p m := ⟨Nat.le_trans x.next y.next, fun k hk h1 h2 => (y.keep k (Nat.lt_of_lt_of_le hk x.next) h1 h2).trans (x.keep k hk h1 h2)⟩
theorem Ge.but {h h' : H} (g : Ge h h') (p m : Nat) : But h h' p m := ⟨g.1, fun k hk _ _ => g.2 k hk⟩
theorem PaceAt.lt {h : H} {R : Nat -> Prop} {p m : Nat} {P : Pc} (x : PaceAt h R p m P) (w : h.WF) : p < h.next ∧ m < h.next ∧ p ≠ m := by
 obtain ⟨es, bs, tk, L, a, _⟩ := x.held
 exact ⟨w.lt x.row, w.lt a, fun e => by subst e; rw [x.row] at a; cases a⟩
theorem PaceAt.keep {h h' : H} {R : Nat -> Prop} {p m : Nat} {P : Pc} (x : PaceAt h R p m P) (hn : h.next ≤ h'.next) (hp : h'.get p = h.get p) (hm : h'.get m = h.get m) (k : ∀ j s cs, R j -> j < h.next -> h.get j = some (.grow s cs) -> h'.get j = some (.grow s cs)) : PaceAt h' R p m P :=
 ⟨hp.trans x.row, x.held.keep hn hm k⟩
theorem PaceAt.ge {h h' : H} {R : Nat -> Prop} {p m : Nat} {P : Pc} (x : PaceAt h R p m P) (w : h.WF) (g : Ge h h') : PaceAt h' R p m P :=
 x.keep g.1 (g.2 _ (x.lt w).1) (g.2 _ (x.lt w).2.1) fun j _ _ _ hj e => (g.2 j hj).trans e
theorem zjM {h : H} {gap : Int} {Q : V -> H -> Prop} (q1 : (gap < 0 ∨ 3600 < gap) -> Q (.tup [.nilptr, .int .i64 2]) h)
  (q2 : ¬ (gap < 0 ∨ 3600 < gap) -> ∀ h', Ge h h' -> h'.WF -> PaceAt h' (fun _ => True) (h.next + 1) h.next ⟨gap.toNat, 0, 0, []⟩ -> Q (.tup [.ptr (h.next + 1) 4 0, .int .i64 0]) h') : Acalls Tryz.prog 29 [.int .i64 gap] h Q := by
 refine zai Tryz.func29 S.a5c S.a5e (Nat.le_of_ble_eq_true rfl) fun wf => ?_; simp only [S.a5]
 by_cases h1 : gap < 0
 ·simp [h1]
  exact q1 (.inl h1)
 ·by_cases h2 : 3600 < gap
  ·simp [h1, h2]
   exact q1 (.inr h2)
  ·obtain ⟨g, rfl⟩ : ∃ g : Nat, gap = g := ⟨gap.toNat, by omega⟩
   simp [h1, h2]
   refine q2 (by omega) _ (by simp) ((wf.push _).push _) ⟨?_, ?_⟩
   ·simp [V.cells]
   ·exact ⟨[], [], 0, [], by simp [show ¬ h.next = h.next + 1 by omega], MapB.nil _, ⟨List.Perm.refl _, List.Pairwise.nil⟩, rfl, by simp⟩
def zbb (P : Pc) (now : Nat) : Bool := decide (now ≤ 1099511627776) && decide (P.last ≤ now)
theorem ziP {h : H} {R : Nat -> Prop} {p m : Nat} {P : Pc} (x : PaceAt h R p m P) {now : Nat} : Pure Tryz.prog 69 [.ptr p 4 0, .int .u64 (now : Nat)] h (.int .i64 (if zbb P now = true then 0 else 2)) := by
 refine zae Tryz.func69 S.a36c S.a36e rfl (Nat.le_of_ble_eq_true rfl) fun wf => ?_; simp only [S.a36]
 have c : zac h.get p 4 = some [.int .i64 (P.gap : Nat), .int .u64 (P.op : Nat), .int .u64 (P.last : Nat), .map m] := (zad (n := 4) x.row rfl).trans rfl
 simp
 refine zex x _ ?_
 by_cases h1 : now ≤ 1099511627776
 ·have h1' : ¬ (1099511627776 : Int) < (now : Nat) := by omega
  by_cases h2 : P.last ≤ now
  ·have h2' : ¬ ((now : Nat) : Int) < (P.last : Nat) := by omega
   simp [zbb, h1, h1', h2, h2', c]
  ·have h2' : ((now : Nat) : Int) < (P.last : Nat) := by omega
   simp [zbb, h1, h1', h2, h2', c]
 ·have h1' : (1099511627776 : Int) < (now : Nat) := by omega
  simp [zbb, h1, h1']
theorem zjZ {h : H} {R : Nat -> Prop} {p m : Nat} {P : Pc} (x : PaceAt h R p m P) : Pure Tryz.prog 34 [.ptr p 4 0] h (.tup [.int .u64 ((if P.S = [] then 0 else P.op : Nat) : Nat), .bool (!decide (P.S = []))]) := by
 refine zae Tryz.func34 S.a9c S.a9e rfl (Nat.le_of_ble_eq_true rfl) fun wf => ?_; simp only [S.a9]
 have c : zac h.get p 4 = some [.int .i64 (P.gap : Nat), .int .u64 (P.op : Nat), .int .u64 (P.last : Nat), .map m] := (zad (n := 4) x.row rfl).trans rfl
 have l := x.held.len h.get rfl
 simp
 refine zex x _ ?_
 by_cases h0 : P.S = []
 ·simp [c, l, h0]
 ·have h1 : (((P.S.length : Nat) : Int) == 0) = false := by simpa using h0
  simp [c, l, h0, h1]
theorem zjR {h : H} {R : Nat -> Prop} {p m : Nat} {P : Pc} (x : PaceAt h R p m P) (hb : P.S.length ≤ 100000) (hg : P.gap ≤ 3600) {now : Nat} (hnow : now ≤ 1099511627776) {Q : V -> H -> Prop}
  (q : ∀ w es h', But h h' p m -> h'.WF -> PaceAt h' R p m (zba P now) -> LsP h' (fun j => h.next ≤ j) w (zbl P now) es -> Q w h') : Acalls Tryz.prog 70 [.ptr p 4 0, .int .u64 (now : Nat)] h Q := by
 refine zai Tryz.func70 S.a37c S.a37e (Nat.le_of_ble_eq_true rfl) fun wf => ?_; simp only [S.a37]
 obtain ⟨hp, hm, hpm⟩ := x.lt wf
 have xr := x.row
 obtain ⟨h1, hh1⟩ : ∃ h1, h1 = h.set p (.row [.int .i64 (P.gap : Nat), .int .u64 (P.op : Nat), .int .u64 (now : Nat), .map m]) := ⟨_, rfl⟩
 have n1 : h1.next = h.next := by rw [hh1]; simp
 have w1 : h1.WF := by rw [hh1]; exact wf.set hp _
 have k1 : ∀ k, k ≠ p -> h1.get k = h.get k := fun k hk => by rw [hh1, H.get_set, if_neg hk]
 have x1 : PaceAt h1 R p m ⟨P.gap, P.op, now, P.S⟩ := ⟨by rw [hh1]; simp, x.held.keep (by omega) (k1 m (fun e => hpm e.symm)) fun j s cs _ _ e => (k1 j (fun e2 => by subst e2; rw [xr] at e; cases e)).trans e⟩
 have b1 : But h h1 p m := ⟨by omega, fun k _ hk _ => k1 k hk⟩
 have c1 : zac h1.get p 4 = some [.int .i64 (P.gap : Nat), .int .u64 (P.op : Nat), .int .u64 (now : Nat), .map m] := (zad (n := 4) x1.row rfl).trans rfl
 have l1 := x1.held.len h1.get rfl
 simp only at l1
 simp [xr]
 rw [<- hh1]
 by_cases ho : now < P.op
 ·have hgo : zbf P now = false := by simp [zbf, ho]
  simp [ho]
  refine q _ [] h1 b1 w1 (by rw [zba, hgo]; exact x1) (by rw [zbl, hgo]; exact LsP.nil _ _)
 ·by_cases h0 : P.S = []
  ·have hgo : zbf P now = false := by simp [zbf, h0]
   simp [c1, ho, l1, h0]
   refine q _ [] h1 b1 w1 (by rw [zba, hgo]; exact x1) (by rw [zbl, hgo]; exact LsP.nil _ _)
  ·have hgo : zbf P now = true := by simp [zbf, ho, h0]
   have h0' : (((P.S.length : Nat) : Int) == 0) = false := by simpa using h0
   simp [c1, ho, l1, h0']
   refine zeQ x1 hb fun w es h2 g2 w2 ls => ?_
   have n2 := g2.1
   obtain ⟨es0, bs0, tk0, L0, hm0, _⟩ := x1.held
   have m2 : h2.get m = some (.mapo es0 bs0 tk0) := (g2.2 m (by omega)).trans hm0
   have r2 : h2.get p = some (.row [.int .i64 (P.gap : Nat), .int .u64 (P.op : Nat), .int .u64 (now : Nat), .map m]) := (g2.2 p (by omega)).trans x1.row
   have c2 : zac h2.get p 4 = some [.int .i64 (P.gap : Nat), .int .u64 (P.op : Nat), .int .u64 (now : Nat), .map m] := (zad (n := 4) r2 rfl).trans rfl
   have hu : IntKind.u64.wrap (P.gap : Int) = P.gap := zhi (by omega)
   have hu2 : IntKind.u64.wrap ((now : Int) + (P.gap : Int)) = ((now + P.gap : Nat) : Int) := by rw [<- Int.natCast_add]; exact zhi (by omega)
   simp [c2, m2, zbE, hpm, hu, hu2, r2]
   obtain ⟨hF, hhF⟩ : ∃ hF, hF = (h2.set m (.mapo [] [] tk0)).set p (.row [.int .i64 (P.gap : Nat), .int .u64 ((now + P.gap : Nat) : Nat), .int .u64 (now : Nat), .map m]) := ⟨_, rfl⟩
   have kF : ∀ k, k ≠ p -> k ≠ m -> hF.get k = h2.get k := fun k a b => by rw [hhF, H.get_set, if_neg a, H.get_set, if_neg b]
   have nF : hF.next = h2.next := by rw [hhF]; simp
   have hq := q w es hF ⟨by omega, fun k hk a b => by rw [kF k a b, g2.2 k (by omega)]; exact k1 k a⟩ (by rw [hhF]; exact (w2.set (by omega) _).set (by simp; omega) _) (by
    rw [zba, hgo]
    exact ⟨by rw [hhF]; simp, [], [], tk0, [], by rw [hhF]; simp [show ¬ m = p from fun e => hpm e.symm], MapB.nil _, ⟨List.Perm.refl _, List.Pairwise.nil⟩, rfl, by simp⟩) (by
    rw [zbl, hgo]
    exact (ls.mono fun j _ hj => by omega).keep (by omega) fun j hj _ => kF j (by have : h.next ≤ j := hj; omega) (by have : h.next ≤ j := hj; omega))
   rw [hhF] at hq
   simpa using hq
theorem zih {h : H} {R : Nat -> Prop} {p m : Nat} {P : Pc} (x : PaceAt h R p m P) (hb : P.S.length ≤ 100000) (hg : P.gap ≤ 3600) {now : Nat} {Q : V -> H -> Prop}
  (q1 : zbb P now = false -> Q (.tup [.nilsl, .int .i64 2]) h)
  (q2 : zbb P now = true -> ∀ w es h', But h h' p m -> h'.WF -> PaceAt h' R p m (zba P now) -> LsP h' (fun j => h.next ≤ j) w (zbl P now) es -> Q (.tup [w, .int .i64 0]) h') : Acalls Tryz.prog 30 [.ptr p 4 0, .int .u64 (now : Nat)] h Q := by
 refine zai Tryz.func30 S.a6c S.a6e (Nat.le_of_ble_eq_true rfl) fun wf => ?_; simp only [S.a6]
 simp
 refine ziP x _ ?_
 cases ht : zbb P now with
 | false => simp; exact q1 ht
 | true =>
  simp
  have hn : now ≤ 1099511627776 := by simp [zbb] at ht; omega
  refine zjR x hb hg hn fun w es h' a b c d => ?_
  simp
  exact q2 ht w es h' a b c d
end Go.Am

namespace Go.Am
open Go.Proofs

set_option maxRecDepth 100000
def kyT : TS := .st [(0, 4, true, .st [(0, 1, false, .int), (1, 1, false, .int), (2, 1, false, .str), (3, 1, false, .int)]), (4, 1, false, .int)]
def kyD : KD := .st kyT 5
theorem zpB (k : Ky) : zbR kyD (kyV k) = true := rfl
theorem zrS (a b : Ky) : eqV kyT (kyV a) (kyV b) = some (decide (a = b)) := by
 have e1 := zpJ a.p b.p
 simp only [pfxC] at e1
 show eqFs _ _ _ = _
 rw [zbp (b := decide (a.p = b.p)) rfl rfl (by simpa using e1), zbp (b := decide (a.id = b.id)) rfl rfl (zfZ _ _ _)]
 by_cases h1 : a.p = b.p <;> by_cases h2 : a.id = b.id <;> cases a <;> cases b <;> simp_all [eqFs]
theorem zfy {ts : TS} {n : Nat} {k x e : V} {es : List (V × V)} {i : Nat} (h1 : zbR (.st ts n) x = true) : zcH (.st ts n) k ((x, e) :: es) i = (match eqV ts k x with
  | some true => some (some (i, e))
  | some false => zcH (.st ts n) k es (i + 1)
  | none => none) := by
 show (if zbR (.st ts n) x = true then _ else none) = _
 rw [if_pos h1]
 rfl
theorem zif : ∀ (es : List (V × V)) (L : List Chg) (i0 : Nat), es.length = L.length -> (∀ (i : Nat) (c : Chg), L[i]? = some c -> ∃ e, es[i]? = some (kyV (zaK c), e)) -> ∀ k : Ky,
  (∃ j, ∃ hj : j < L.length, ∃ e, zaK L[j] = k ∧ (∀ a (ha : a < j), zaK L[a] ≠ k) ∧ zcH kyD (kyV k) es i0 = some (some (i0 + j, e))) ∨ ((∀ c ∈ L, zaK c ≠ k) ∧ zcH kyD (kyV k) es i0 = some none)
 | [], [], _, _, _, _ => .inr ⟨by simp, rfl⟩
 | [], _ :: _, _, h, _, _ => by simp at h
 | _ :: _, [], _, h, _, _ => by simp at h
 | x :: es, c :: L, i0, hl, he, k => by
  obtain ⟨e, e0⟩ := he 0 c rfl
  have hx : x = (kyV (zaK c), e) := by simpa using e0
  subst hx
  have hq := zrS k (zaK c)
  by_cases hk : k = zaK c
  ·refine .inl ⟨0, by simp, e, hk.symm, fun a ha => by omega, ?_⟩
   rw [kyD, zfy rfl, hq]; simp [hk]
  ·have ih := zif es L (i0 + 1) (by simpa using hl) (fun i c' hi => by simpa using he (i + 1) c' (by simpa using hi)) k
   have hf : zcH kyD (kyV k) ((kyV (zaK c), e) :: es) i0 = zcH kyD (kyV k) es (i0 + 1) := by
    rw [kyD, zfy rfl, hq]; simp [hk]
   rw [hf]
   rcases ih with ⟨j, hj, e', a1, a2, a3⟩ | ⟨a1, a2⟩
   ·refine .inl ⟨j + 1, by simpa using hj, e', a1, fun a ha => ?_, by rw [a3]; congr 3; omega⟩
    cases a with
    | zero => exact fun e => hk e.symm
    | succ a => exact a2 a (by omega)
   ·exact .inr ⟨fun c' hc' => (List.mem_cons.1 hc').elim (fun e => e ▸ fun e2 => hk e2.symm) (a1 c'), a2⟩
theorem HeldAt.set {h : H} {R : Nat -> Prop} {m : Nat} {S : List Chg} (x : HeldAt h R m S) (c : Chg) {e : List V} (hc : ChP h R c e) :
  ∃ o, zcn h.get kyD (.map m) (kyV (zaK c)) (.agg e) = some (.set m o) ∧ HeldAt (h.set m o) R m (putC S c) := by
 obtain ⟨es, bs, tk, L, hm, mb, srt, hl, he⟩ := x
 have keepS : ∀ {o : O} {c : Chg} {e : List V}, ChP h R c e -> ChP (h.set m o) R c e := fun f => f.keep (by simp) fun j s' cs' _ _ hj => by rw [H.get_set, if_neg (fun e => by subst e; rw [hm] at hj; cases hj)]; exact hj
 rcases zif es L 0 hl (fun i c' hi => by obtain ⟨e', a, _⟩ := he i c' hi; exact ⟨_, a⟩) (zaK c) with ⟨j, hj, e', a1, a2, a3⟩ | ⟨a1, a2⟩
 ·refine ⟨.mapo (es.set j (kyV (zaK c), .agg e)) bs tk, ?_, es.set j (kyV (zaK c), .agg e), bs, tk, L.set j c, by simp, mb.set, ?_, by simpa using hl, fun i c' hi => ?_⟩
  ·unfold zcn
   rw [if_pos (zpB _)]
   simp only [hm, a3, Nat.zero_add]
  ·have hu : upC L c = L.set j c := by
    rcases zkE L c with ⟨j', hj', b1, b2, b3⟩ | ⟨b1, _⟩
    ·have : j' = j := by
      rcases Nat.lt_trichotomy j j' with h1 | h1 | h1
      ·exact absurd a1 (b3 j h1)
      ·exact h1.symm
      ·exact absurd b1 (a2 j' h1)
     rw [b2, this]
    ·exact absurd a1 (b1 _ (List.getElem_mem hj))
   rw [<- hu]; exact srt.put c
  ·by_cases hij : i = j
   ·subst hij
    rw [List.getElem?_set_self hj, Option.some.injEq] at hi
    subst hi
    exact ⟨e, by rw [List.getElem?_set_self (by omega)], keepS hc⟩
   ·rw [List.getElem?_set_ne (by omega)] at hi
    obtain ⟨e1, b1, b2⟩ := he i c' hi
    exact ⟨e1, by rw [List.getElem?_set_ne (by omega)]; exact b1, keepS b2⟩
 ·refine ⟨.mapo (es ++ [(kyV (zaK c), .agg e)]) (bs ++ [tk]) (tk + 1), ?_, es ++ [(kyV (zaK c), .agg e)], bs ++ [tk], tk + 1, L ++ [c], by simp, mb.snoc, ?_, by simp [hl], fun i c' hi => ?_⟩
  ·unfold zcn
   rw [if_pos (zpB _)]
   simp only [hm, a2]
  ·have hu : upC L c = L ++ [c] := by
    rcases zkE L c with ⟨j', hj', b1, _, _⟩ | ⟨_, b2⟩
    ·exact absurd b1 (a1 _ (List.getElem_mem hj'))
    ·exact b2
   rw [<- hu]; exact srt.put c
  ·by_cases hij : i < L.length
   ·rw [List.getElem?_append_left hij] at hi
    obtain ⟨e1, b1, b2⟩ := he i c' hi
    exact ⟨e1, by rw [List.getElem?_append_left (by omega)]; exact b1, keepS b2⟩
   ·rw [List.getElem?_append_right (by omega)] at hi
    have h0 : i - L.length = 0 := by
     rcases Nat.eq_zero_or_pos (i - L.length) with h | h
     ·exact h
     ·rw [List.getElem?_eq_none (by simp; omega)] at hi; cases hi
    rw [h0] at hi
    simp at hi
    subst hi
    exact ⟨e, by rw [List.getElem?_append_right (by omega), hl, h0]; rfl, keepS hc⟩
theorem zdx {h : H} (w : h.WF) {sz : Nat} (es : List (List V)) : ∃ v h', Ge h h' ∧ h'.WF ∧ Gl h' h.next sz v es := by
 by_cases he : es = []
 ·subst he; exact ⟨.nilsl, h, Ge.refl _, w, Gl.nil _ _ _⟩
 ·exact ⟨.sl h.next es.flatten.length 0 es.length none, h.push (.grow sz es.flatten), (Ge.refl _).push _, w.push _, .inr ⟨he, h.next, Nat.le_refl _, by simp, rfl, by simp⟩⟩
theorem zgL : ∀ (l : List Sg) {g : H}, g.WF -> ∃ (es : List (List V)) (g' : H), Ge g g' ∧ g'.WF ∧ es.length = l.length ∧ ∀ (i : Nat) (s : Sg), l[i]? = some s -> ∃ w, es[i]? = some [.int .i64 s.kind, w] ∧ Fc g' g.next 1 w (s.ases.map cP)
 | [], g, wg => ⟨[], g, Ge.refl _, wg, rfl, by simp⟩
 | s :: l, g, wg => by
  obtain ⟨w, g1, a1, b1, c1⟩ := zdx wg (sz := 1) (s.ases.map cP)
  obtain ⟨es, g2, a2, b2, c2, d2⟩ := zgL l b1
  refine ⟨[.int .i64 s.kind, w] :: es, g2, a1.trans a2, b2, by simp [c2], fun i t hi => ?_⟩
  cases i with
  | zero => simp at hi; subst hi; exact ⟨w, rfl, (c1.keep a2.1 fun i hi => a2.2 i (c1.lo i hi).2).fr⟩
  | succ i => obtain ⟨u, e, f⟩ := d2 i t (by simpa using hi); exact ⟨u, by simpa using e, f.le a1.1⟩
theorem ziA {g : H} (wg : g.WF) {a : Att} (z : AttSz a) : ∃ wp wc wx wl wk g', Ge g g' ∧ g'.WF ∧ AttFr g' g.next a wp wc wx wl wk := by
 obtain ⟨es, g1, a1, b1, c1, d1⟩ := zgL a.path wg
 obtain ⟨wp, g2, a2, b2, c2⟩ := zdx b1 (sz := 2) es
 obtain ⟨wc, g3, a3, b3, c3⟩ := zdx b2 (sz := 1) (a.comms.map cP)
 obtain ⟨wx, g4, a4, b4, c4⟩ := zdx b3 (sz := 1) (a.exts.map cX)
 obtain ⟨wl, g5, a5, b5, c5⟩ := zdx b4 (sz := 3) (a.larges.map cL)
 obtain ⟨wk, g6, a6, b6, c6⟩ := zdx b5 (sz := 1) (a.clus.map cP)
 have e1 := a1.1
 have e2 := a2.1
 have e3 := a3.1
 have e4 := a4.1
 have e5 := a5.1
 have t5 := a5.trans a6
 have t4 := a4.trans t5
 have t3 := a3.trans t4
 have t2 := a2.trans t3
 refine ⟨wp, wc, wx, wl, wk, g6, a1.trans t2, b6, ⟨⟨es, (c2.fr.ge t3).le (by omega), c1, fun i s hi => ?_⟩, (c3.fr.ge t4).le (by omega), (c4.fr.ge t5).le (by omega), (c5.fr.ge a6).le (by omega), c6.fr.le (by omega), z⟩⟩
 obtain ⟨w, e, f⟩ := d1 i s hi
 exact ⟨w, e, f.ge t2⟩

theorem zdX : ∀ (l S : List Chg), (l.foldl putC S).length ≤ S.length + l.length
 | [], S => by simp
 | c :: l, S => by
  have h1 := zdX l (putC S c)
  have h2 := zl8 S c
  simp only [List.foldl_cons, List.length_cons]; omega
theorem zk0 {h : H} {R : Nat -> Prop} {p m : Nat} {P : Pc} (x : PaceAt h R p m P) (hR : ∀ j, h.next ≤ j -> R j) {v : V} {L : List Chg} {es : List (List V)} (lk : ∀ h', But h h' p m -> CsAt h'.get v L es) (hb : P.S.length + L.length ≤ 100000) (hg : P.gap ≤ 3600) {now : Nat} {Q : V -> H -> Prop}
  (q1 : (zbb P now && L.all za1) = false -> Q (.tup [.nilsl, .int .i64 2]) h)
  (q2 : zbb P now = true -> L.all za1 = true -> ∀ w fs h', But h h' p m -> h'.WF -> PaceAt h' R p m (zba (zbe P L) now) -> LsP h' (fun j => h.next ≤ j) w (zbl (zbe P L) now) fs -> Q (.tup [w, .int .i64 0]) h') : Acalls Tryz.prog 31 [.ptr p 4 0, v, .int .u64 (now : Nat)] h Q := by
 refine zai Tryz.func31 S.a7c S.a7e (Nat.le_of_ble_eq_true rfl) fun wf => ?_; simp only [S.a7]
 have l := lk h (But.refl _ _ _)
 have hlen := l.sls.len
 have hbd := l.sls.bound
 rw [l.len] at hlen hbd
 obtain ⟨hp, hm, hpm⟩ := x.lt wf
 simp
 refine ziP x _ ?_
 cases ht : zbb P now with
 | false => simp; exact q1 (by simp [ht])
 | true =>
  simp
  refine zor (f := fun c => !za1 c) l (fun c _ vp vc vx vl vk A => by simpa using zmo A) _ ?_
  cases ha : L.all za1 with
  | false =>
   have : L.any (fun c => !za1 c) = true := by
    rw [List.any_eq_not_all_not]; simpa using ha
   simp [this]
   exact q1 (by simp [ha])
  | true =>
   have hany : L.any (fun c => !za1 c) = false := by
    rw [List.any_eq_not_all_not]; simpa using ha
   simp [hany, hlen]
   refine zal (fun i t h' => (t 0 = .ptr p 4 0 ∧ t 2 = .int .u64 (now : Nat) ∧ t 19 = v ∧ t 20 = .int .i64 (L.length : Nat) ∧ t 21 = .int .i64 (i : Nat)) ∧ But h h' p m ∧ h'.WF ∧ PaceAt h' R p m (zbe P (L.take i))) L.length ⟨by simp, But.refl _ _ _, wf, by simpa [zbe] using x⟩ ?_
   rintro i t h' hi ⟨⟨t0, t2, t19, t20, t21⟩, bt, wb, xb⟩ K hK
   by_cases hlt : i < L.length
   ·have hw := zam hlt hbd
    obtain ⟨pp, qq, o, cs, vp, vc, vx, vl, vk, e1, _, e2, e3, e4, A, _, _⟩ := (lk h' bt).atG wb hlt
    have e2' := e2 h' (Ge.refl _)
    obtain ⟨c, hc⟩ : ∃ c, c = L[i] := ⟨_, rfl⟩
    rw [<- hc] at e4 A
    have hcm : za1 c = true := by rw [hc]; exact List.all_eq_true.1 ha _ (List.getElem_mem hlt)
    have hz : AttSz c.att := by
     simp only [za1, Bool.and_eq_true] at hcm
     have h2 := hcm.2
     split at h2
     ·simp only [Bool.and_eq_true, decide_eq_true_eq] at h2
      rw [h2.2]; exact (zgE h' R).sz
     ·exact zkn h2
    obtain ⟨o1, o2, o3, o4, o5⟩ := A.one
    obtain ⟨h3, hh3⟩ : ∃ h3, h3 = h'.push (.row (chC c vp vc vx vl vk)) := ⟨_, rfl⟩
    have g3 : Ge h' h3 := by rw [hh3]; exact (Ge.refl _).push _
    have w3 : h3.WF := by rw [hh3]; exact wb.push _
    have n3 : h3.next = h'.next + 1 := by rw [hh3]; simp
    have c3 : zac h3.get h'.next 23 = some (chC c vp vc vx vl vk) := by rw [hh3]; simp [chC]
    have x3 := xb.ge wb g3
    obtain ⟨lp, lm, _⟩ := x3.lt w3
    obtain ⟨lp', lm', _⟩ := xb.lt wb
    have cp : zac h3.get p 4 = some [.int .i64 (P.gap : Nat), .int .u64 (P.op : Nat), .int .u64 (P.last : Nat), .map m] := (zad (n := 4) x3.row rfl).trans rfl
    have ow := fun Q q => zjT (h := h3) (Q := Q) (A.ge wb g3) hz q
    obtain ⟨yp, yc, yx, yl, yk, hy, gy, wy, fy⟩ := ziA w3 hz
    simp only [chC] at e4 hh3 c3 ow
    simp [t19, t20, t21, hlt, e1, e2', e3, e4, o1, o2, o3, o4, o5]
    rw [za5 _ _ _ rfl, <- hh3]
    refine zcI [p, h'.next] [0, 0, 0, 2, 0, 0, 2, 0, 0, 2, 0, 0, 1, 0] rfl (by rfl) ?_
    simp [t0, c3, cp, I.foot, za3]
    refine ⟨by decide, fun w g => ∃ wp wc wx wl wk, w = .agg (chC c wp wc wx wl wk) ∧ Ge h3 g ∧ g.WF ∧ AttFr g h3.next c.att wp wc wx wl wk, ⟨_, hy, yp, yc, yx, yl, yk, rfl, gy, wy, fy⟩, ow _ fun wp wc wx wl wk g a b f => ⟨wp, wc, wx, wl, wk, rfl, a, b, f⟩, ?_⟩
    rintro _ g ⟨wp, wc, wx, wl, wk, rfl, gg, wg, F⟩
    refine ⟨fun _ => fun k hk => ?_, ?_⟩
    ·simp only [List.mem_cons, List.not_mem_nil, or_false] at hk
     exact gg.2 _ (by omega)
    have xg := x3.ge w3 gg
    obtain ⟨f1, f2, f3, f4, f5⟩ := F.one
    have hch : ChP g R c (chC c wp wc wx wl wk) := ⟨wp, wc, wx, wl, wk, rfl, F.p.mono fun j _ hj => hR j (by have := bt.next; omega)⟩
    obtain ⟨ob, hset, hld⟩ := xg.held.set c hch
    have hset' := hset
    simp only [kyD, kyT, kyV, zaK] at hset
    have mg : m < g.next := (xg.lt wg).2.1
    have pg : p < g.next := (xg.lt wg).1
    simp [hset, hw, t21]
    have ng := gg.1
    refine hK _ _ hlt ⟨by simp [t0, t2, t19, t20], ⟨by have := bt.next; simp; omega, fun k hk a b => ?_⟩, wg.set mg _, ⟨?_, ?_⟩⟩
    ·have := bt.next
     rw [H.get_set, if_neg b, gg.2 k (by omega), g3.2 k (by omega)]; exact bt.keep k hk a b
    ·rw [H.get_set, if_neg hpm]; exact xg.row
    ·have ht1 : L.take (i + 1) = L.take i ++ [c] := by rw [List.take_add_one, List.getElem?_eq_getElem hlt, <- hc]; rfl
     rw [ht1]
     show HeldAt _ R m ((L.take i ++ [c]).foldl putC P.S)
     rw [List.foldl_append]
     exact hld
   ·have hi2 : i = L.length := by omega
    subst hi2
    rw [List.take_length] at xb
    have hn : now ≤ 1099511627776 := by simp [zbb] at ht; omega
    have hfl := zdX L P.S
    simp [t0, t2, t20, t21]
    refine zjR xb (by show (L.foldl putC P.S).length ≤ _; omega) hg hn fun w fs h2 a b cc d => ?_
    simp
    exact q2 ht ha w fs h2 (bt.trans a) b cc (d.mono fun j _ hj => by have := bt.next; have : h'.next ≤ j := hj; omega)
end Go.Am

namespace Go.Am
open Go.Proofs

set_option maxRecDepth 100000
def AtR (p : Chg -> List V -> Prop) (L : List Chg) (es : List (List V)) : Prop := es.length = L.length ∧ ∀ (i : Nat) (c : Chg), L[i]? = some c -> ∃ e, es[i]? = some e ∧ p c e
theorem AtR.nil (p : Chg -> List V -> Prop) : AtR p [] [] := ⟨rfl, fun i c h => by simp at h⟩
theorem AtR.mono {p p' : Chg -> List V -> Prop} {L : List Chg} {es : List (List V)} (a : AtR p L es) (k : ∀ c e, p c e -> p' c e) : AtR p' L es :=
 ⟨a.1, fun i c h => by obtain ⟨e, h1, h2⟩ := a.2 i c h; exact ⟨e, h1, k c e h2⟩⟩
theorem AtR.single {p : Chg -> List V -> Prop} {c : Chg} {e : List V} (h : p c e) : AtR p [c] [e] := ⟨rfl, fun i c' hi => by
 cases i with
 | zero => simp at hi; subst hi; exact ⟨e, rfl, h⟩
 | succ i => simp at hi⟩
theorem AtR.append {p : Chg -> List V -> Prop} {L M : List Chg} {es fs : List (List V)} (a : AtR p L es) (b : AtR p M fs) : AtR p (L ++ M) (es ++ fs) := by
 refine ⟨by simp [a.1, b.1], fun i c hi => ?_⟩
 by_cases h : i < L.length
 ·rw [List.getElem?_append_left h] at hi
  obtain ⟨e, h1, h2⟩ := a.2 i c hi
  exact ⟨e, by rw [List.getElem?_append_left (by have := a.1; omega)]; exact h1, h2⟩
 ·rw [List.getElem?_append_right (by omega)] at hi
  obtain ⟨e, h1, h2⟩ := b.2 _ c hi
  exact ⟨e, by rw [List.getElem?_append_right (by have := a.1; omega), a.1]; exact h1, h2⟩
theorem AtR.take {p : Chg -> List V -> Prop} {L : List Chg} {es : List (List V)} (a : AtR p L es) (k : Nat) : AtR p (L.take k) (es.take k) := by
 refine ⟨by simp [a.1], fun i c hi => ?_⟩
 rw [List.getElem?_take] at hi
 split at hi
 ·rename_i h
  obtain ⟨e, h1, h2⟩ := a.2 i c hi
  exact ⟨e, by rw [List.getElem?_take, if_pos h]; exact h1, h2⟩
 ·cases hi
theorem AtR.drop {p : Chg -> List V -> Prop} {L : List Chg} {es : List (List V)} (a : AtR p L es) (k : Nat) : AtR p (L.drop k) (es.drop k) := by
 refine ⟨by simp [a.1], fun i c hi => ?_⟩
 rw [List.getElem?_drop] at hi
 obtain ⟨e, h1, h2⟩ := a.2 _ c hi
 exact ⟨e, by rw [List.getElem?_drop]; exact h1, h2⟩
theorem AtR.mem {p : Chg -> List V -> Prop} {L : List Chg} {es : List (List V)} (a : AtR p L es) : ∀ e ∈ es, ∃ c ∈ L, p c e := fun e he => by
 obtain ⟨i, hi, rfl⟩ := List.mem_iff_getElem.1 he
 obtain ⟨e', h1, h2⟩ := a.2 i (L[i]'(by rw [<- a.1]; exact hi)) (List.getElem?_eq_getElem _)
 rw [List.getElem?_eq_getElem hi, Option.some.injEq] at h1
 exact ⟨_, List.getElem_mem (by rw [<- a.1]; exact hi), by rw [h1]; exact h2⟩
structure LfP (h : H) (R : Nat -> Prop) (v : V) (L : List Chg) (es : List (List V)) : Prop where
 fc : FcP h R 23 v es
 at' : AtR (ChP h R) L es
theorem LfP.ls {h : H} {R : Nat -> Prop} {v : V} {L : List Chg} {es : List (List V)} (s : LfP h R v L es) : LsP h R v L es := ⟨s.fc.rw, s.at'.1, s.at'.2⟩
theorem LfP.mono {h : H} {R R' : Nat -> Prop} {v : V} {L : List Chg} {es : List (List V)} (s : LfP h R v L es) (k : ∀ j, j < h.next -> R j -> R' j) : LfP h R' v L es :=
 ⟨s.fc.mono k, s.at'.mono fun _ _ f => f.mono k⟩
theorem LfP.keep {h h' : H} {R : Nat -> Prop} {v : V} {L : List Chg} {es : List (List V)} (s : LfP h R v L es) (hn : h.next ≤ h'.next) (k : ∀ j, R j -> j < h.next -> h'.get j = h.get j) : LfP h' R v L es :=
 ⟨s.fc.keep hn fun j _ _ hj hl e => (k j hj hl).trans e, s.at'.mono fun _ _ f => f.keep hn fun j _ _ hj hl e => (k j hj hl).trans e⟩
theorem LfP.keepG {h h' : H} {R : Nat -> Prop} {v : V} {L : List Chg} {es : List (List V)} (s : LfP h R v L es) (hn : h.next ≤ h'.next) (k : ∀ j sz cs, R j -> j < h.next -> h.get j = some (.grow sz cs) -> h'.get j = some (.grow sz cs)) : LfP h' R v L es :=
 ⟨s.fc.keep hn k, s.at'.mono fun _ _ f => f.keep hn k⟩
theorem LfP.ge {h h' : H} {R : Nat -> Prop} {v : V} {L : List Chg} {es : List (List V)} (s : LfP h R v L es) (g : Ge h h') : LfP h' R v L es := s.keep g.1 fun j _ hj => g.2 j hj
theorem LfP.nil (h : H) (R : Nat -> Prop) : LfP h R .nilsl [] [] := ⟨.inl ⟨rfl, .inl rfl⟩, AtR.nil _⟩
theorem LfP.one {h : H} {R : Nat -> Prop} {v : V} {L : List Chg} {es : List (List V)} (s : LfP h R v L es) : v.one = true := s.fc.one
theorem FcP.cap {h : H} {R : Nat -> Prop} {sz : Nat} {v : V} {es : List (List V)} (f : FcP h R sz v es) : zcp v := by
 rcases f with ⟨_, rfl | ⟨k, rfl⟩⟩ | ⟨_, j, _, _, rfl, _⟩ <;> simp [zcp]
theorem FcP.keep3 {h h' : H} {R : Nat -> Prop} {sz : Nat} {v : V} {es : List (List V)} (f : FcP h R sz v es) (hs : sz ≤ 3) (hn : h.next ≤ h'.next) (k : ∀ j s cs, s ≤ 3 -> R j -> j < h.next -> h.get j = some (.grow s cs) -> h'.get j = some (.grow s cs)) : FcP h' R sz v es := by
 rcases f with e | ⟨hne, j, a, b, c, d⟩
 ·exact .inl e
 ·exact .inr ⟨hne, j, a, Nat.lt_of_lt_of_le b hn, c, k j _ _ hs a b d⟩
theorem AttP.keep3 {h h' : H} {R : Nat -> Prop} {a : Att} {vp vc vx vl vk : V} (f : AttP h R a vp vc vx vl vk) (hn : h.next ≤ h'.next) (k : ∀ j s cs, s ≤ 3 -> R j -> j < h.next -> h.get j = some (.grow s cs) -> h'.get j = some (.grow s cs)) : AttP h' R a vp vc vx vl vk := by
 obtain ⟨es, f1, f2, f3⟩ := f.path
 exact ⟨⟨es, f1.keep3 (by decide) hn k, f2, fun i s hi => by obtain ⟨w, e, g⟩ := f3 i s hi; exact ⟨w, e, g.keep3 (by decide) hn k⟩⟩, f.comms.keep3 (by decide) hn k, f.exts.keep3 (by decide) hn k, f.larges.keep3 (by decide) hn k, f.clus.keep3 (by decide) hn k, f.sz⟩
theorem ChP.keep3 {h h' : H} {R : Nat -> Prop} {c : Chg} {e : List V} (f : ChP h R c e) (hn : h.next ≤ h'.next) (k : ∀ j s cs, s ≤ 3 -> R j -> j < h.next -> h.get j = some (.grow s cs) -> h'.get j = some (.grow s cs)) : ChP h' R c e := by
 obtain ⟨vp, vc, vx, vl, vk, a, b⟩ := f; exact ⟨vp, vc, vx, vl, vk, a, b.keep3 hn k⟩
theorem zhc {A B : List Chg} {c : Chg} (h : ∀ x ∈ A, ¬ cmpC c x < 0 ∧ cmpC c x ≠ 0) : putC (A ++ B) c = A ++ putC B c := by
 induction A with
 | nil => rfl
 | cons d A ih =>
  have := h d (by simp)
  rw [List.cons_append, putC, if_neg this.1, if_neg this.2, ih fun x hx => h x (by simp [hx])]
  rfl
theorem zku {B : List Chg} {c : Chg} (h : ∀ x ∈ B, cmpC c x < 0) : putC B c = c :: B := by
 cases B with
 | nil => rfl
 | cons d B => rw [putC, if_pos (h d (by simp))]
def hitB (c : Chg) : Option Chg -> Bool
 | some d => decide (cmpC c d = 0)
 | none => false
theorem zkb {S : List Chg} (r : Rise cmpC S) (c : Chg) {k : Nat} (hk : k = spot cmpC c S S.length) :
  putC S c = if 0 < k ∧ hitB c S[k - 1]? = true then S.take (k - 1) ++ c :: S.drop k else S.take k ++ c :: S.drop k := by
 have hkl := zhP (c := cmpC) c S S.length
 rw [<- hk] at hkl
 have hB : ∀ x ∈ S.drop k, cmpC c x < 0 := fun x hx => by
  obtain ⟨i, hi, rfl⟩ := List.mem_iff_getElem.1 hx
  rw [List.length_drop] at hi
  rw [List.getElem_drop]
  exact zfz c S S.length (Nat.le_refl _) (k + i) (by omega) (by omega) (by omega)
 by_cases h0 : 0 < k
 ·obtain ⟨j, rfl⟩ : ∃ j, k = j + 1 := ⟨k - 1, by omega⟩
  obtain ⟨hj, hc⟩ := zeK c S S.length (Nat.le_refl _) j hk.symm
  rw [Nat.add_sub_cancel, List.getElem?_eq_getElem hj]
  have hlt : ∀ i (hi : i < j), cmpC S[i] S[j] < 0 := fun i hi => List.pairwise_iff_getElem.1 r i j (by omega) hj hi
  by_cases he : cmpC c S[j] = 0
  ·rw [if_pos ⟨h0, by simpa [hitB] using he⟩]
   have e1 : S = S.take j ++ (S[j] :: S.drop (j + 1)) := by rw [<- List.drop_eq_getElem_cons hj, List.take_append_drop]
   have hA : ∀ x ∈ S.take j, ¬ cmpC c x < 0 ∧ cmpC c x ≠ 0 := fun x hx => by
    obtain ⟨i, hi, rfl⟩ := List.mem_iff_getElem.1 hx
    rw [List.length_take] at hi
    rw [List.getElem_take]
    have h1 := hlt i (by omega)
    have h2 : cmpC c S[i] = cmpC S[j] S[i] := by unfold cmpC; rw [zfV he]
    have := ordr_c.anti S[i] S[j]
    omega
   conv => lhs; rw [e1]
   rw [zhc hA, putC, if_neg (by omega), if_pos he]
  ·rw [if_neg (by simp [hitB, he])]
   have hA : ∀ x ∈ S.take (j + 1), ¬ cmpC c x < 0 ∧ cmpC c x ≠ 0 := fun x hx => by
    obtain ⟨i, hi, rfl⟩ := List.mem_iff_getElem.1 hx
    rw [List.length_take] at hi
    rw [List.getElem_take]
    have a1 := ordr_c.anti c S[j]
    have h1 : cmpC S[j] c < 0 := by omega
    have h2 : cmpC S[i] c < 0 := by
     rcases Nat.lt_or_ge i j with g | g
     ·exact ordr_c.down _ _ _ (hlt i g) h1
     ·have : i = j := by omega
      subst this; exact h1
    have := ordr_c.anti c S[i]
    omega
   conv => lhs; rw [<- List.take_append_drop (j + 1) S]
   rw [zhc hA, zku hB]
 ·have k0 : k = 0 := by omega
  subst k0
  rw [if_neg (by simp)]
  simp only [List.take_zero, List.drop_zero, List.nil_append] at hB ⊢
  exact zku hB
theorem zg7 {h : H} {a b : Chg} {vp vc vx vl vk wp wc wx wl wk : V} (ha : a.n.p.addr.length < 9223372036854775808) (o1 : vp.one = true) (o2 : vc.one = true) (o3 : vx.one = true) (o4 : vl.one = true) (o5 : vk.one = true) (p1 : wp.one = true) (p2 : wc.one = true) (p3 : wx.one = true) (p4 : wl.one = true) (p5 : wk.one = true) :
  Pure Tryz.prog 109 [.agg (chC a vp vc vx vl vk), .agg (chC b wp wc wx wl wk)] h (.int .i64 (cmpC a b)) := by
 refine zae Tryz.func109 S.a69c S.a69e rfl (Nat.le_of_ble_eq_true rfl) fun wf => ?_; simp only [S.a69]
 obtain ⟨h2, hh2⟩ : ∃ h2, h2 = (h.push (.row (chC a vp vc vx vl vk))).push (.row (chC b wp wc wx wl wk)) := ⟨_, rfl⟩
 have g2 : Ge h h2 := by rw [hh2]; exact ((Ge.refl _).push _).push _
 have c1 : zac h2.get h.next 23 = some (chC a vp vc vx vl vk) := by rw [hh2]; simp [chC]
 have c2 : zac h2.get (h.next + 1) 23 = some (chC b wp wc wx wl wk) := by rw [hh2]; simp [chC]
 have rc := zop (h := h2) (a := a.n.p) (b := b.n.p) ha
 simp only [chC] at hh2 c1 c2 ⊢
 simp only [pfxC] at rc
 simp [o1, o2, o3, o4, o5, p1, p2, p3, p4, p5]
 rw [<- hh2]
 refine rc _ ?_
 obtain ⟨x, hx⟩ : ∃ x, x = zcK a.n.p b.n.p := ⟨_, rfl⟩
 have hcc : cmpC a b = orI x (cmpI a.n.id b.n.id) := by rw [hx]; rfl
 rw [<- hx]
 by_cases h0 : x = 0
 ·subst h0
  rw [zaP] at hcc
  by_cases h1 : a.n.id < b.n.id
  ·have e : cmpI (a.n.id : Int) (b.n.id : Int) = -1 := by unfold cmpI; rw [if_pos (by omega)]
   simp [c1, c2, h1, hcc, e, g2]
  ·by_cases h3 : b.n.id < a.n.id
   ·have e : cmpI (a.n.id : Int) (b.n.id : Int) = 1 := by unfold cmpI; rw [if_neg (by omega), if_pos (by omega)]
    simp [c1, c2, h1, h3, hcc, e, g2]
   ·have e : cmpI (a.n.id : Int) (b.n.id : Int) = 0 := by unfold cmpI; rw [if_neg (by omega), if_neg (by omega)]
    simp [c1, c2, h1, h3, hcc, e, g2]
 ·have hb : (x != 0) = true := by simpa using h0
  rw [zbu h0] at hcc
  simp [hb, hcc, g2]
theorem zpG {h : H} {a b : Chg} {vp vc vx vl vk wp wc wx wl wk : V} (A : AttAt h.get a.att vp vc vx vl vk) (B : AttAt h.get b.att wp wc wx wl wk) :
  Pure Tryz.prog 68 [.agg (chC a vp vc vx vl vk), .agg (chC b wp wc wx wl wk)] h (.bool (decide (a = b))) := by
 refine zae Tryz.func68 S.a35c S.a35e rfl (Nat.le_of_ble_eq_true rfl) fun wf => ?_; simp only [S.a35]
 obtain ⟨o1, o2, o3, o4, o5⟩ := A.one
 obtain ⟨p1, p2, p3, p4, p5⟩ := B.one
 obtain ⟨h2, hh2⟩ : ∃ h2, h2 = (h.push (.row (chC a vp vc vx vl vk))).push (.row (chC b wp wc wx wl wk)) := ⟨_, rfl⟩
 have g2 : Ge h h2 := by rw [hh2]; exact ((Ge.refl _).push _).push _
 have c1 : zac h2.get h.next 23 = some (chC a vp vc vx vl vk) := by rw [hh2]; simp [chC]
 have c2 : zac h2.get (h.next + 1) 23 = some (chC b wp wc wx wl wk) := by rw [hh2]; simp [chC]
 have rs := zg5 (A.ge wf g2) (B.ge wf g2)
 have en := zr8 a.n b.n
 have ex : (a = b) ↔ (a.gone = b.gone ∧ a.n = b.n ∧ a.att = b.att) := by cases a; cases b; simp
 simp only [chC] at hh2 c1 c2 ⊢
 simp only [attC] at rs
 simp only [nlC] at en
 simp [o1, o2, o3, o4, o5, p1, p2, p3, p4, p5]
 rw [<- hh2]
 by_cases h1 : a.gone = b.gone
 ·cases h3 : decide (a.n = b.n) with
  | true =>
   rw [h3] at en
   have h3' := of_decide_eq_true h3
   simp [c1, c2, eqB, h1, en]
   refine rs _ ?_
   simp only [ex, h1, h3', true_and]
   simp [g2]
  | false =>
   rw [h3] at en
   have h3' := of_decide_eq_false h3
   simp [c1, c2, eqB, h1, h3', en, ex, g2]
 ·simp [eqB, h1, ex, g2]
end Go.Am

namespace Go.Am
open Go.Proofs

set_option maxRecDepth 100000
theorem zkU {body : (Exit -> Tm -> H -> Prop) -> Tm -> H -> Prop} {Q : Exit -> Tm -> H -> Prop} {t : Tm} {h : H} {id : Nat} (J : Tm -> H -> Prop) (ha : ∀ R : Exit -> Tm -> H -> Prop, (∀ t' h', J t' h' -> R .normal t' h') -> zhw body (zds id R) t h) (k : ∀ t' h', J t' h' -> Q .normal t' h') : zhw body (zds id Q) t h := ha Q k
theorem zl5 {P : Program} {K : Tm -> H -> Prop} {ops : List SI} {t : Tm} {h : H} (J : Tm -> H -> Prop) (ha : ∀ K' : Tm -> H -> Prop, (∀ t' h', J t' h' -> K' t' h') -> Swp P K' ops t h) (k : ∀ t' h', J t' h' -> K t' h') : Swp P K ops t h := ha K k
theorem LfP.len {h : H} {R : Nat -> Prop} {v : V} {L : List Chg} {es : List (List V)} (s : LfP h R v L es) (g : Nat -> Option O) : lenV 1 g v = some (.int .i64 (L.length : Nat)) := by
 rw [<- s.at'.1]
 rcases s.fc with ⟨rfl, rfl | ⟨k, rfl⟩⟩ | ⟨_, j, _, _, rfl, _⟩ <;> simp [lenV]
theorem LfP.ones {h : H} {R : Nat -> Prop} {v : V} {L : List Chg} {es : List (List V)} (s : LfP h R v L es) : ∀ e ∈ es, e.all V.one = true := fun e he => by
 obtain ⟨c, _, f⟩ := s.at'.mem e he
 exact f.at.ones
theorem zkK {h : H} {R : Nat -> Prop} {v : V} {L : List Chg} {es : List (List V)} {c : Chg} {vp vc vx vl vk : V} (l : LfP h R v L es) (hR : ∀ j, h.next ≤ j -> R j) (rs : Rise cmpC L) (A : AttAt h.get c.att vp vc vx vl vk) (z : AttSz c.att) (hc : c.n.p.addr.length < 9223372036854775808) (hl : L.length ≤ 1000000) {Q : V -> H -> Prop}
  (q : ∀ v' es' h', Ge h h' -> h'.WF -> LfP h' R v' (putC L c) es' -> Q v' h') : Acalls Tryz.prog 67 [v, .agg (chC c vp vc vx vl vk)] h Q := by
 refine zai Tryz.func67 S.a34c S.a34e (Nat.le_of_ble_eq_true rfl) fun wf => ?_; simp only [S.a34]
 obtain ⟨o1, o2, o3, o4, o5⟩ := A.one
 obtain ⟨h1, hh1⟩ : ∃ h1, h1 = h.push (.row (chC c vp vc vx vl vk)) := ⟨_, rfl⟩
 have g1 : Ge h h1 := by rw [hh1]; exact (Ge.refl _).push _
 have w1 : h1.WF := by rw [hh1]; exact wf.push _
 have c1 : zac h1.get h.next 23 = some (chC c vp vc vx vl vk) := by rw [hh1]; simp [chC]
 have n1 : h1.next = h.next + 1 := by rw [hh1]; simp
 have x1 : h1.get h.next = some (.row (chC c vp vc vx vl vk)) := by rw [hh1]; simp
 have l1 := l.ge g1
 have hcap := l.fc.cap
 have eL := l.at'.1
 have s1 : CsAt h1.get v L es := l1.ls.at (by omega)
 have A1 := A.ge wf g1
 have ord := fun (b : Chg) (wp wc wx wl wk : V) (p1 : wp.one = true) (p2 : wc.one = true) (p3 : wx.one = true) (p4 : wl.one = true) (p5 : wk.one = true) => zg7 (h := h1) (a := c) (b := b) hc o1 o2 o3 o4 o5 p1 p2 p3 p4 p5
 have hlen := l1.len h1.get
 simp only [chC] at hh1 c1 x1
 simp [chC, o1, o2, o3, o4, o5]
 rw [<- hh1]
 simp [hlen]
 refine zkU (id := 0) (fun t h' => (t 0 = v ∧ t 3 = .ptr h.next 23 0 ∧ t 5 = .int .i64 ((spot cmpC c L L.length : Nat) : Int)) ∧ h' = h1) (fun R hR => ?_) ?_
 ·refine zal (fun i t h' => (t 0 = v ∧ t 3 = .ptr h.next 23 0 ∧ t 5 = .int .i64 ((L.length - i : Nat) : Int)) ∧ h' = h1 ∧ i ≤ L.length ∧ spot cmpC c L L.length = spot cmpC c L (L.length - i)) L.length ⟨by simp, rfl, by omega, rfl⟩ ?_
  rintro i t h' hi ⟨⟨t0, t3, t5⟩, rfl, hil, hsp⟩ K hK
  obtain ⟨k, hk⟩ : ∃ k, k = L.length - i := ⟨_, rfl⟩
  rw [<- hk] at t5 hsp
  simp
  refine zaU ?_
  by_cases h0 : 0 < k
  ·have h0' : (0 : Int) < (k : Int) := by omega
   have hkl : k - 1 < L.length := by omega
   have w1' : IntKind.i64.wrap ((k : Int) - 1) = ((k - 1 : Nat) : Int) := by rw [zag (by omega) (by omega)]; omega
   obtain ⟨p, qq, o, cs, wp, wc, wx, wl, wk, e1, e2, e3, e4, e5, B, _, _⟩ := s1.atG w1 hkl
   have e3' := e3 h' (Ge.refl _)
   obtain ⟨p1, p2, p3, p4, p5⟩ := B.one
   have od := ord L[k - 1] wp wc wx wl wk p1 p2 p3 p4 p5
   simp only [chC] at e5 od
   simp [t0, t3, t5, h0, w1', e1, e3', e4, e5, c1]
   refine zdc od ?_
   have sp : spot cmpC c L k = if cmpC c L[k - 1] < 0 then spot cmpC c L (k - 1) else k := by
    obtain ⟨m, rfl⟩ : ∃ m, k = m + 1 := ⟨k - 1, by omega⟩
    rw [spot, show L[m]? = some L[m] from List.getElem?_eq_getElem (by omega)]
    simp
   by_cases hlt : cmpC c L[k - 1] < 0
   ·simp [hlt, t5, w1']
    refine hK _ _ (by omega) ⟨by simp [t0, t3]; omega, rfl, by omega, ?_⟩
    rw [hsp, sp, if_pos hlt]; congr 1; omega
   ·simp [hlt]
    refine hR _ _ ⟨by simp [t0, t3, t5, hsp, sp, hlt], rfl⟩
  ·have k0 : k = 0 := by omega
   subst k0
   simp [t5]
   refine hR _ _ ⟨by simp [t0, t3, t5, hsp, spot], rfl⟩
 rintro t h' ⟨⟨t0, t3, t5⟩, rfl⟩
 obtain ⟨k, hk⟩ : ∃ k, k = spot cmpC c L L.length := ⟨_, rfl⟩
 have hkl := zhP (c := cmpC) c L L.length
 have hput := zkb rs c hk
 rw [<- hk] at t5 hkl
 have ow := fun Q q => zg4 (Q := Q) A1 z q
 simp only [attC] at ow
 simp [t3, c1]
 refine ow _ fun yp yc yx yl yk h2 g2 w2 F => ?_
 obtain ⟨f1, f2, f3, f4, f5⟩ := F.one
 have n2 := g2.1
 have x2 := (g2.2 h.next (by omega)).trans x1
 obtain ⟨h3, hh3⟩ : ∃ h3, h3 = h2.set h.next (.row (chC c yp yc yx yl yk)) := ⟨_, rfl⟩
 have c3 : zac h3.get h.next 23 = some (chC c yp yc yx yl yk) := (zad (n := 23) (show h3.get h.next = some (.row (chC c yp yc yx yl yk)) by rw [hh3]; simp) rfl).trans rfl
 have n3 : h3.next = h2.next := by rw [hh3]; simp
 have w3 : h3.WF := by rw [hh3]; exact w2.set (by omega) _
 have k3 : ∀ j, j ≠ h.next -> h3.get j = h2.get j := fun j hj => by rw [hh3, H.get_set, if_neg hj]
 have g3 : Ge h h3 := by rw [hh3]; exact (g1.trans g2).set (Nat.le_refl _) _
 have l3 := l.ge g3
 have s3 : CsAt h3.get v L es := l3.ls.at (by omega)
 have F3 : AttP h3 R c.att yp yc yx yl yk := (F.p.keep (by omega) fun j s cs hj _ e => (k3 j (by omega)).trans e).mono fun j _ hj => hR j (by omega)
 have ord3 := fun (b : Chg) (wp wc wx wl wk : V) (p1 : wp.one = true) (p2 : wc.one = true) (p3 : wx.one = true) (p4 : wl.one = true) (p5 : wk.one = true) => zg7 (h := h3) (a := c) (b := b) hc f1 f2 f3 f4 f5 p1 p2 p3 p4 p5
 simp only [chC] at hh3 c3
 simp [x2, f1, f2, f3, f4, f5, t3]
 rw [<- hh3]
 refine zaU ?_
 obtain ⟨hit, hhit⟩ : ∃ b : Bool, b = (decide (0 < k) && hitB c L[k - 1]?) := ⟨_, rfl⟩
 have hit_iff : (0 < k ∧ hitB c L[k - 1]? = true) ↔ hit = true := by rw [hhit]; simp
 refine zl5 (fun t' g => (t' 0 = v ∧ t' 3 = .ptr h.next 23 0 ∧ t' 5 = .int .i64 (k : Nat) ∧ t' 6 = .nilsl ∧ t' 38 = .bool hit) ∧ g = h3) (fun K' hK' => ?_) ?_
 ·by_cases h0 : 0 < k
  ·have hkl1 : k - 1 < L.length := by omega
   have w1' : IntKind.i64.wrap ((k : Int) - 1) = ((k - 1 : Nat) : Int) := by rw [zag (by omega) (by omega)]; omega
   obtain ⟨p, qq, o, cs, wp, wc, wx, wl, wk, e1, e2, e3, e4, e5, B, _, _⟩ := s3.atG w3 hkl1
   have e3' := e3 h3 (Ge.refl _)
   obtain ⟨p1, p2, p3, p4, p5⟩ := B.one
   have od := ord3 L[k - 1] wp wc wx wl wk p1 p2 p3 p4 p5
   have hg : L[k - 1]? = some L[k - 1] := List.getElem?_eq_getElem hkl1
   rw [hg] at hhit
   simp only [h0, decide_true, Bool.true_and, hitB] at hhit
   simp only [chC] at e5 od
   simp [t0, t3, t5, h0, w1', e1, e3', e4, e5, c3]
   refine zdc od ?_
   simp
   refine hK' _ _ ⟨by simp [t0, t3, t5, hhit, bq], rfl⟩
  ·have k0 : k = 0 := by omega
   subst k0
   simp at hhit
   simp [t5]
   exact hK' _ _ ⟨by simp [t0, t3, t5, hhit], rfl⟩
 rintro t2 g ⟨⟨u0, u3, u5, u6, u38⟩, hgg⟩
 subst hgg
 simp [u38]
 -- what is taken from the front
 obtain ⟨a, ha⟩ : ∃ a, a = if hit = true then k - 1 else k := ⟨_, rfl⟩
 have hput2 : putC L c = L.take a ++ c :: L.drop k := by
  rw [hput, ha]
  cases hb : hit with
  | true => rw [if_pos (hit_iff.2 hb), if_pos rfl]
  | false => rw [if_neg (fun e => by rw [hit_iff, hb] at e; cases e), if_neg (by simp)]
 have hal : a ≤ L.length := by rw [ha]; split <;> omega
 have lens : ∀ m : List (List V), (∀ e ∈ m, e ∈ es) -> ∀ e ∈ m, e.length = 23 := fun m hm e he => l.ls.lens e (hm e he)
 have onesM : ∀ m : List (List V), (∀ e ∈ m, e ∈ es) -> ∀ e ∈ m, e.all V.one = true := fun m hm e he => l.ones e (hm e he)
 obtain ⟨va, ea, sa, _⟩ := s3.sls.take hcap (k := a) (by omega) .i64
 obtain ⟨v1, d1, y1, gl1, ge1, z1⟩ := zmI (bytes := 240) sa (onesM _ fun e he => List.mem_of_mem_take he) (by decide) (by simp; omega)
 obtain ⟨h4, hh4⟩ : ∃ h4, h4 = g.app d1 := ⟨_, rfl⟩
 rw [<- hh4] at gl1 ge1 z1
 have w4 := z1 w3
 have hop : ∀ d : Int, d = (a : Int) -> True := fun _ _ => trivial
 refine ziM (fun t' g' => (t' 0 = v ∧ t' 3 = .ptr h.next 23 0 ∧ t' 5 = .int .i64 (k : Nat) ∧ t' 6 = v1) ∧ g' = h4) (fun e R' hR' => ?_) (fun e R' hR' => ?_) ?_
 ·rw [e, if_pos rfl] at ha
  have h0 : 0 < k := by have := hit_iff.2 e; exact this.1
  have w1' : IntKind.i64.wrap ((k : Int) - 1) = (a : Int) := by rw [zag (by omega) (by omega)]; omega
  simp [u0, u5, u6, w1', ea, y1, <- hh4]
  exact hR' _ _ ⟨by simp [u0, u3, u5], rfl⟩
 ·rw [e, if_neg (by simp)] at ha
  rw [ha] at ea
  simp [u0, u5, u6, ea, y1, <- hh4]
  exact hR' _ _ ⟨by simp [u0, u3, u5], rfl⟩
 rintro t3' h5' ⟨⟨m0, m3, m5, m6⟩, rfl⟩
 have n4 := ge1.1
 have c4 : zac h5'.get h.next 23 = some (chC c yp yc yx yl yk) := by rw [ge1.cells (by omega)]; simpa [chC] using c3
 obtain ⟨v2, d2, y2, gl2, m2, k2, z2, _⟩ := zdV (bytes := 240) (chC c yp yc yx yl yk) gl1 ge1.1 (lens _ fun e he => List.mem_of_mem_take he) rfl (by simp [chC, f1, f2, f3, f4, f5]) (by decide) (by simp; omega) (by simp; omega)
 obtain ⟨h6, hh6⟩ : ∃ h6, h6 = (h5'.push (.row (chC c yp yc yx yl yk))).app d2 := ⟨_, rfl⟩
 rw [<- hh6] at gl2 m2 k2 z2
 simp only [chC] at y2 hh6 c4
 simp [m3, m6, c4, f1, f2, f3, f4, f5, y2, <- hh6]
 have ge6 : Ge g h6 := ⟨by omega, fun i hi => by
  rw [k2 i (fun hm => by have := (gl1.lo i hm).1; omega) (by omega), ge1.2 i hi]⟩
 have w6 := z2 w4
 obtain ⟨vb, eb, sb, _⟩ := (s3.sls.ge w3 ge6).drop hcap (k := k) (by omega) .i64
 obtain ⟨v3, d3, y3, gl3, m3', k3', z3, _⟩ := gl2.appends (bytes := 240) (by have := ge6.1; omega) (fun e he => by
  rcases List.mem_append.1 he with he | he
  ·exact lens _ (fun e he => List.mem_of_mem_take he) e he
  ·rw [List.mem_singleton] at he; subst he; rfl) sb (onesM _ fun e he => List.mem_of_mem_drop he) (by decide) (by simp; omega) (by simp; omega)
 simp [m0, m5, eb, y3]
 obtain ⟨h7, hh7⟩ : ∃ h7, h7 = h6.app d3 := ⟨_, rfl⟩
 rw [<- hh7] at gl3 m3' k3' z3 ⊢
 have ge7 : Ge g h7 := ⟨by have := ge6.1; omega, fun i hi => by
  rw [k3' i (fun hm => by have := (gl2.lo i hm).1; omega) (by have := ge6.1; omega), ge6.2 i hi]⟩
 have hch : ChP h7 R c (chC c yp yc yx yl yk) := ⟨yp, yc, yx, yl, yk, rfl, F3.ge ge7⟩
 refine q _ (es.take a ++ [chC c yp yc yx yl yk] ++ es.drop k) h7 (g3.trans ge7) (z3 w6) ⟨gl3.fr.p.mono fun j _ hj => hR j (by omega), ?_⟩
 rw [hput2, show L.take a ++ c :: L.drop k = L.take a ++ [c] ++ L.drop k by simp]
 have at7 : AtR (ChP h7 R) L es := (l3.ge ge7).at'
 exact ((at7.take a).append (AtR.single hch)).append (at7.drop k)
end Go.Am

namespace Go.Am
open Go.Proofs

set_option maxRecDepth 100000
theorem zgH {h : H} {v : V} {L : List Chg} {es : List (List V)} (s : CsAt h.get v L es) (z : ∀ c ∈ L, AttSz c.att) (hl : L.length ≤ 1000000) {Q : V -> H -> Prop}
  (q : ∀ w fs h', Ge h h' -> h'.WF -> LfP h' (fun j => h.next ≤ j) w L fs -> Q w h') : Acalls Tryz.prog 24 [v] h Q := by
 refine zai Tryz.func24 S.a3c S.a3e (Nat.le_of_ble_eq_true rfl) fun wf => ?_; simp only [S.a3]
 have hlen := s.sls.len
 rw [s.len] at hlen
 simp
 refine zal (fun i t h' => ∃ w fs, (t 0 = v ∧ t 3 = w ∧ t 4 = .int .i64 (i : Nat)) ∧ Ge h h' ∧ h'.WF ∧ Gl h' h.next 23 w fs ∧ AtR (ChP h' fun j => h.next ≤ j) (L.take i) fs) L.length ⟨.nilsl, [], by simp, Ge.refl _, wf, Gl.nil _ _ _, AtR.nil _⟩ ?_
 rintro i t h' hi ⟨w, fs, ⟨t0, t3, t4⟩, gb, wb, gl, ar⟩ K hK
 have sb := s.ge wf gb
 replace hlen := sb.sls.len
 rw [sb.len] at hlen
 have nb := gb.1
 by_cases hlt : i < L.length
 ·have hw := zam hlt (by omega : L.length < 9223372036854775808)
  obtain ⟨p, qq, o, cs, vp, vc, vx, vl, vk, e1, e2, e3, e4, e5, B, _, _⟩ := sb.atG wb hlt
  have e3' := e3 h' (Ge.refl _)
  obtain ⟨c, hc⟩ : ∃ c, c = L[i] := ⟨_, rfl⟩
  rw [<- hc] at e5 B
  have zc : AttSz c.att := by rw [hc]; exact z _ (List.getElem_mem hlt)
  obtain ⟨o1, o2, o3, o4, o5⟩ := B.one
  obtain ⟨h1, hh1⟩ : ∃ h1, h1 = h'.push (.row (chC c vp vc vx vl vk)) := ⟨_, rfl⟩
  have g1 : Ge h' h1 := by rw [hh1]; exact (Ge.refl _).push _
  have w1 : h1.WF := by rw [hh1]; exact wb.push _
  have n1 : h1.next = h'.next + 1 := by rw [hh1]; simp
  have x1 : h1.get h'.next = some (.row (chC c vp vc vx vl vk)) := by rw [hh1]; simp
  have c1 : zac h1.get h'.next 23 = some (chC c vp vc vx vl vk) := (zad (n := 23) x1 rfl).trans rfl
  have ow := fun Q q => zg4 (Q := Q) (B.ge wb g1) zc q
  simp only [attC] at ow
  simp only [chC] at e5 hh1 x1 c1
  simp [t0, t4, hlen, hlt, e1, e3', e4, e5, o1, o2, o3, o4, o5]
  rw [za5 _ _ _ rfl, <- hh1]
  refine ow _ fun yp yc yx yl yk h2 g2 w2 F => ?_
  obtain ⟨f1, f2, f3, f4, f5⟩ := F.one
  have n2 := g2.1
  have x2 := (g2.2 h'.next (by omega)).trans x1
  obtain ⟨h3, hh3⟩ : ∃ h3, h3 = h2.set h'.next (.row (chC c yp yc yx yl yk)) := ⟨_, rfl⟩
  have c3 : zac h3.get h'.next 23 = some (chC c yp yc yx yl yk) := (zad (n := 23) (show h3.get h'.next = some (.row (chC c yp yc yx yl yk)) by rw [hh3]; simp) rfl).trans rfl
  have n3 : h3.next = h2.next := by rw [hh3]; simp
  have w3 : h3.WF := by rw [hh3]; exact w2.set (by omega) _
  have k3 : ∀ j, j ≠ h'.next -> h3.get j = h2.get j := fun j hj => by rw [hh3, H.get_set, if_neg hj]
  have g3 : Ge h' h3 := by rw [hh3]; exact (g1.trans g2).set (Nat.le_refl _) _
  have F3 : AttP h3 (fun j => h.next ≤ j) c.att yp yc yx yl yk := (F.p.keep (by omega) fun j s cs hj _ e => (k3 j (by omega)).trans e).mono fun j _ hj => by omega
  have gl3 : Gl h3 h.next 23 w fs := gl.keep g3.1 fun j hj => g3.2 j (gl.lo j hj).2
  have fl : fs.length = i := by rw [ar.1, List.length_take]; omega
  have f23 : ∀ e ∈ fs, e.length = 23 := fun e he => by obtain ⟨_, _, f⟩ := ar.mem e he; exact f.at.len
  obtain ⟨v', d, ea, gl5, n5, k5, w5, _⟩ := zdV (bytes := 240) (chC c yp yc yx yl yk) gl3 (by omega) f23 rfl (by simp [chC, f1, f2, f3, f4, f5]) (by decide) (by omega) (by omega)
  obtain ⟨h5, hh5⟩ : ∃ h5, h5 = (h3.push (.row (chC c yp yc yx yl yk))).app d := ⟨_, rfl⟩
  rw [<- hh5] at gl5 n5 k5 w5
  rw [n3] at ea
  simp only [chC] at hh3 c3 ea hh5
  simp [x2, f1, f2, f3, f4, f5]
  rw [<- hh3]
  simp [t3, t4, ea, <- hh5, hw]
  have kp : ∀ x, x ∉ w.ids -> x < h3.next -> h5.get x = h3.get x := k5
  have g5 : Ge h h5 := ⟨by omega, fun x hx => by
   rw [kp x (fun hv => by have := (gl.lo x hv).1; omega) (by omega), g3.2 x (by omega)]; exact gb.2 x hx⟩
  have kch : ∀ {c : Chg} {e : List V}, ChP h3 (fun j => h.next ≤ j) c e -> ChP h5 (fun j => h.next ≤ j) c e := fun f => f.keep3 n5 fun j sz cs h3s _ hj e => by
   by_cases hv : j ∈ w.ids
   ·rcases gl3 with ⟨_, rfl⟩ | ⟨hne, j2, a1, a2, rfl, a3⟩
    ·simp [V.ids] at hv
    ·simp [V.ids] at hv
     subst hv
     rw [a3] at e
     cases e
     omega
   ·rw [kp j hv hj]; exact e
  refine hK _ _ hlt ?_
  refine ⟨v', fs ++ [chC c yp yc yx yl yk], by simp [t0], g5, w5 w3, gl5, ?_⟩
  rw [List.take_add_one, List.getElem?_eq_getElem hlt, <- hc]
  exact (ar.mono fun c e f => kch (f.ge g3)).append (AtR.single (kch ⟨yp, yc, yx, yl, yk, rfl, F3⟩))
 ·have hi2 : i = L.length := by omega
  subst hi2
  rw [List.take_length] at ar
  simp [t0, t3, t4, hlen]
  exact q w fs h' gb wb ⟨gl.fr.p.mono fun j _ hj => hj.1, ar⟩
theorem zbS {h : H} {v w : V} {L M : List Chg} {es fs : List (List V)} (s : CsAt h.get v L es) (r : CsAt h.get w M fs) : Pure Tryz.prog 26 [v, w] h (.bool (decide (L = M))) := by
 refine zae Tryz.func26 S.a4c S.a4e rfl (Nat.le_of_ble_eq_true rfl) fun wf => ?_; simp only [S.a4]
 have l1 := s.sls.len
 have l2 := r.sls.len
 have b1 := s.sls.bound
 rw [s.len] at l1 b1
 rw [r.len] at l2
 by_cases hl : L.length = M.length
 ·have bl : (((L.length : Nat) : Int) != ((M.length : Nat) : Int)) = false := by rw [hl]; simp
  simp [l1, l2, bl]
  refine zal (fun i t h' => (t 0 = v ∧ t 1 = w ∧ t 5 = .int .i64 (i : Nat)) ∧ h' = h ∧ L.take i = M.take i) L.length ⟨by simp, rfl, by simp⟩ ?_
  rintro i t h' hi ⟨⟨t0, t1, t5⟩, rfl, htk⟩ K hK
  by_cases hlt : i < L.length
  ·have hw := zam hlt b1
   obtain ⟨p, qq, o, cs, vp, vc, vx, vl, vk, e1, e2, e3, e4, e5, A, _, _⟩ := s.atG wf hlt
   obtain ⟨p', qq', o', cs', wp, wc, wx, wl, wk, e1', e2', e3', e4', e5', B, _, _⟩ := r.atG wf (k := i) (by omega)
   have rs := zpG A B
   have y1 := e3 h' (Ge.refl _)
   have y2 := e3' h' (Ge.refl _)
   have tk1 : L.take (i + 1) = L.take i ++ [L[i]] := by rw [List.take_add_one, List.getElem?_eq_getElem hlt]; rfl
   have tk2 : M.take (i + 1) = M.take i ++ [M[i]'(by omega)] := by rw [List.take_add_one, List.getElem?_eq_getElem (by omega)]; rfl
   simp [t0, t5, l1, hlt]
   refine zaU ?_
   simp [t0, t1, t5, e1, e1', y1, y2, e4, e4', e5, e5']
   refine zdc rs ?_
   cases hx : decide (L[i] = M[i]'(by omega)) with
   | true =>
    have hx' := of_decide_eq_true hx
    simp [t5, hw]
    refine hK _ _ hlt ⟨by simp [t0, t1], rfl, by rw [tk1, tk2, htk, hx']⟩
   | false =>
    have hx' := of_decide_eq_false hx
    have : L ≠ M := fun e => by subst e; exact hx' rfl
    simp [this]
  ·have hi2 : i = L.length := by omega
   have : L = M := by rw [hi2, List.take_length, hl, List.take_length] at htk; exact htk
   have hlt2 : ¬ i < M.length := by omega
   simp [t0, t5, l1, hlt2, this]
 ·have bl : (((L.length : Nat) : Int) != ((M.length : Nat) : Int)) = true := by simp; omega
  have : L ≠ M := fun e => hl (by rw [e])
  simp [l1, l2, bl, this]
theorem zkX {h : H} {c : Chg} {vp vc vx vl vk : V} (A : AttAt h.get c.att vp vc vx vl vk) : Pure Tryz.prog 117 [.agg (chC c vp vc vx vl vk)] h (.bool (za1 c)) := by
 refine zae Tryz.func117 S.a76c S.a76e rfl (Nat.le_of_ble_eq_true rfl) fun wf => ?_; simp only [S.a76]
 obtain ⟨o1, o2, o3, o4, o5⟩ := A.one
 obtain ⟨h2, hh2⟩ : ∃ h2, h2 = h.push (.row (chC c vp vc vx vl vk)) := ⟨_, rfl⟩
 have g2 : Ge h h2 := by rw [hh2]; exact (Ge.refl _).push _
 have c2 : zac h2.get h.next 23 = some (chC c vp vc vx vl vk) := by rw [hh2]; simp [chC]
 have A2 := A.ge wf g2
 have nc := zlF (h := h2) (n := c.n)
 have sa := zg5 A2 (zkY h2.get)
 have ck := zi8 A2
 simp only [chC] at hh2 c2
 simp only [nlC] at nc
 simp only [attC, att0] at sa ck
 simp [chC, o1, o2, o3, o4, o5]
 rw [<- hh2]
 refine nc _ ?_
 cases hm : mayN c.n with
 | false => simp [za1, hm, g2]
 | true =>
  simp [c2]
  cases hg : c.gone with
  | true =>
   simp
   by_cases hl : c.n.label = 0
   ·simp [hl, c2]
    refine sa _ ?_
    simp [za1, hm, hg, hl, g2, att0]
   ·have hl2 : ((c.n.label : Int) == 0) = false := by simpa using hl
    simp [hl, hl2, c2, za1, hm, hg, g2]
  | false =>
   simp [c2]
   refine ck _ ?_
   cases hb : attB c.att <;> simp [za1, hm, hg, hb, g2]
theorem zlC {h : H} {v : V} {L : List Chg} {es : List (List V)} (s : CsAt h.get v L es) : Pure Tryz.prog 82 [v] h (.bool (L.all za1)) := by
 refine zae Tryz.func82 S.a49c S.a49e rfl (Nat.le_of_ble_eq_true rfl) fun wf => ?_; simp only [S.a49]
 have l1 := s.sls.len
 have b1 := s.sls.bound
 rw [s.len] at l1 b1
 simp
 refine zal (fun i t h' => (t 0 = v ∧ t 3 = .int .i64 (i : Nat)) ∧ h' = h ∧ (L.take i).all za1 = true) L.length ⟨by simp, rfl, by simp⟩ ?_
 rintro i t h' hi ⟨⟨t0, t3⟩, rfl, htk⟩ K hK
 by_cases hlt : i < L.length
 ·have hw := zam hlt b1
  obtain ⟨p, qq, o, cs, vp, vc, vx, vl, vk, e1, e2, e3, e4, e5, A, _, _⟩ := s.atG wf hlt
  have y1 := e3 h' (Ge.refl _)
  have rm := zkX A
  simp [t0, t3, l1, hlt, e1, y1, e4, e5]
  refine rm _ ?_
  cases hx : za1 L[i] with
  | true =>
   simp [t3, hw]
   refine hK _ _ hlt ⟨by simp [t0], rfl, ?_⟩
   rw [List.take_add_one, List.getElem?_eq_getElem hlt, List.all_append, htk]; simp [hx]
  | false =>
   have : L.all za1 = false := by
    cases hA : L.all za1 with
    | false => rfl
    | true => have := List.all_eq_true.1 hA _ (List.getElem_mem hlt); rw [hx] at this; cases this
   simp [this]
 ·have hi2 : i = L.length := by omega
  rw [hi2, List.take_length] at htk
  simp [t0, t3, l1, hlt, htk]
end Go.Am

namespace Go.Am
open Go.Proofs

set_option maxRecDepth 100000
theorem ziR : ∀ (L : List Chg) {g : H}, g.WF -> (∀ c ∈ L, AttSz c.att) -> ∃ (es : List (List V)) (g' : H), Ge g g' ∧ g'.WF ∧ AtR (ChP g' fun j => g.next ≤ j) L es
 | [], g, w, _ => ⟨[], g, Ge.refl _, w, AtR.nil _⟩
 | c :: L, g, w, z => by
  obtain ⟨yp, yc, yx, yl, yk, g1, a1, b1, f1⟩ := ziA w (z c (by simp))
  obtain ⟨es, g2, a2, b2, f2⟩ := ziR L b1 fun x hx => z x (by simp [hx])
  refine ⟨chC c yp yc yx yl yk :: es, g2, a1.trans a2, b2, ?_⟩
  have h1 : ChP g2 (fun j => g.next ≤ j) c (chC c yp yc yx yl yk) := ⟨yp, yc, yx, yl, yk, rfl, (f1.p.ge a2).mono fun j _ hj => hj.1⟩
  exact (AtR.single h1).append (f2.mono fun c e f => f.mono fun j _ hj => by have := a1.1; omega)
theorem zdC {g : H} (w : g.WF) {L : List Chg} (z : ∀ c ∈ L, AttSz c.att) : ∃ v es g', Ge g g' ∧ g'.WF ∧ LfP g' (fun j => g.next ≤ j) v L es := by
 obtain ⟨es, g1, a1, b1, f1⟩ := ziR L w z
 obtain ⟨v, g2, a2, b2, f2⟩ := zdx b1 (sz := 23) es
 refine ⟨v, es, g2, a1.trans a2, b2, f2.fr.p.mono fun j _ hj => by have := a1.1; omega, f1.mono fun c e f => f.ge a2⟩
theorem LfP.szs {h : H} {R : Nat -> Prop} {v : V} {L : List Chg} {es : List (List V)} (l : LfP h R v L es) : ∀ c ∈ L, AttSz c.att := fun c hc => by
 obtain ⟨i, hi, rfl⟩ := List.mem_iff_getElem.1 hc
 obtain ⟨e, _, f⟩ := l.at'.2 i _ (List.getElem?_eq_getElem hi)
 exact f.sz
theorem zpq {c : Chg} (h : za1 c = true) : AttSz c.att := by
 simp only [za1, Bool.and_eq_true] at h
 have h2 := h.2
 split at h2
 ·simp only [Bool.and_eq_true, decide_eq_true_eq] at h2
  rw [h2.2]; exact (zgE ⟨0, fun _ => none⟩ fun _ => True).sz
 ·exact zkn h2
theorem zlN {c : Chg} (h : za1 c = true) : c.n.p.addr.length < 9223372036854775808 := by
 simp only [za1, Bool.and_eq_true] at h
 have h2 := h.1
 simp only [mayN, mayP, Bool.and_eq_true, decide_eq_true_eq] at h2
 have : zaY c.n.p.fam ≤ 16 := by unfold zaY; split <;> (try split) <;> omega
 omega
def rpC (P : Pc) (w : V) : List V := [.int .i64 (P.gap : Nat), .int .u64 (P.op : Nat), .int .u64 (P.last : Nat), w]
def zkT (R : Nat -> Prop) (h : H) (P' : Pc) (out : List Chg) (err : Int) (r : V) (h' : H) : Prop :=
 ∃ w es o eo, r = .tup [.agg (rpC P' w), o, .int .i64 err] ∧ Ge h h' ∧ h'.WF ∧ LfP h' R w P'.S es ∧ LfP h' R o out eo
theorem zfA {R : Nat -> Prop} {h : H} (w : h.WF) (hR : ∀ j, h.next ≤ j -> R j) {P' : Pc} {out : List Chg} (z1 : ∀ c ∈ P'.S, AttSz c.att) (z2 : ∀ c ∈ out, AttSz c.att) (err : Int) : ∃ r h', zkT R h P' out err r h' := by
 obtain ⟨v1, e1, g1, a1, b1, f1⟩ := zdC w z1
 obtain ⟨v2, e2, g2, a2, b2, f2⟩ := zdC b1 z2
 exact ⟨_, g2, v1, e1, v2, e2, rfl, a1.trans a2, b2, (f1.ge a2).mono fun j _ hj => hR j hj, f2.mono fun j _ hj => hR j (by have := a1.1; omega)⟩
theorem zgM {h : H} {gap : Int} : Pure Tryz.prog 36 [.int .i64 gap] h (if gap < 0 ∨ 3600 < gap then .tup [.agg [.int .i64 0, .int .u64 0, .int .u64 0, .nilsl], .int .i64 2] else .tup [.agg (rpC ⟨gap.toNat, 0, 0, []⟩ .nilsl), .int .i64 0]) := by
 refine zae Tryz.func36 S.a11c S.a11e (by split <;> rfl) (Nat.le_of_ble_eq_true rfl) fun wf => ?_; simp only [S.a11]
 by_cases h1 : gap < 0
 ·simp [h1]
 ·by_cases h2 : 3600 < gap
  ·simp [h1, h2]
  ·obtain ⟨g, rfl⟩ : ∃ g : Nat, gap = g := ⟨gap.toNat, by omega⟩
   simp [h1, h2, rpC]
theorem zjP {h : H} {R : Nat -> Prop} {P : Pc} {w : V} {es : List (List V)} (l : LfP h R w P.S es) : Pure Tryz.prog 40 [.agg (rpC P w)] h (.tup [.int .u64 ((if P.S = [] then 0 else P.op : Nat) : Nat), .bool (!decide (P.S = []))]) := by
 refine zae Tryz.func40 S.a15c S.a15e rfl (Nat.le_of_ble_eq_true rfl) fun wf => ?_; simp only [S.a15]
 have o1 := l.one
 obtain ⟨h2, hh2⟩ : ∃ h2, h2 = h.push (.row (rpC P w)) := ⟨_, rfl⟩
 have g2 : Ge h h2 := by rw [hh2]; exact (Ge.refl _).push _
 have c2 : zac h2.get h.next 4 = some (rpC P w) := by rw [hh2]; simp [rpC]
 have hl := l.len h2.get
 simp only [rpC] at hh2 c2
 simp [rpC, o1]
 rw [<- hh2]
 by_cases h0 : P.S = []
 ·simp [h0] at hl
  simp [hl, h0, g2]
 ·have h1 : (((P.S.length : Nat) : Int) == 0) = false := by simpa using h0
  simp [c2, hl, h1, h0, g2]
theorem zfv {h : H} {R : Nat -> Prop} {P : Pc} {w : V} {es : List (List V)} (l : LfP h R w P.S es) (hg : P.gap ≤ 3600) {now : Nat} : Acalls Tryz.prog 37 [.agg (rpC P w), .int .u64 (now : Nat)] h
  (zkT R h (if zbb P now = true then zba P now else P) (if zbb P now = true then zbl P now else []) (if zbb P now = true then 0 else 2)) := by
 refine zai Tryz.func37 S.a12c S.a12e (Nat.le_of_ble_eq_true rfl) fun wf => ?_; simp only [S.a12]
 have o1 := l.one
 have n01 : ¬ h.next = h.next + 1 := by omega
 obtain ⟨h2, hh2⟩ : ∃ h2, h2 = (h.push (.row (rpC P w))).push (.row [.int .i64 0, .int .u64 0, .int .u64 0, .nilsl]) := ⟨_, rfl⟩
 have g2 : Ge h h2 := by rw [hh2]; exact ((Ge.refl _).push _).push _
 have w2 : h2.WF := by rw [hh2]; exact (wf.push _).push _
 have n2 : h2.next = h.next + 2 := by rw [hh2]; simp
 have x2 : h2.get h.next = some (.row (rpC P w)) := by rw [hh2]; simp
 have y2 : h2.get (h.next + 1) = some (.row [.int .i64 0, .int .u64 0, .int .u64 0, .nilsl]) := by rw [hh2]; simp
 have c2 : zac h2.get h.next 4 = some (rpC P w) := (zad (n := 4) x2 rfl).trans rfl
 simp only [rpC] at hh2 x2 c2
 simp [rpC, o1]
 rw [<- hh2]
 by_cases h1 : now ≤ 1099511627776
 ·have h1' : ¬ (1099511627776 : Int) < (now : Nat) := by omega
  by_cases q3 : P.last ≤ now
  ·have q3' : ¬ ((now : Nat) : Int) < (P.last : Nat) := by omega
   have ht : zbb P now = true := by simp [zbb, h1, q3]
   obtain ⟨h3, hh3⟩ : ∃ h3, h3 = h2.set h.next (.row [.int .i64 (P.gap : Nat), .int .u64 (P.op : Nat), .int .u64 (now : Nat), w]) := ⟨_, rfl⟩
   have g3 : Ge h h3 := by rw [hh3]; exact g2.set (Nat.le_refl _) _
   have w3 : h3.WF := by rw [hh3]; exact w2.set (by omega) _
   have n3 : h3.next = h2.next := by rw [hh3]; simp
   have x3 : h3.get h.next = some (.row [.int .i64 (P.gap : Nat), .int .u64 (P.op : Nat), .int .u64 (now : Nat), w]) := by rw [hh3]; simp
   have c3 : zac h3.get h.next 4 = some [.int .i64 (P.gap : Nat), .int .u64 (P.op : Nat), .int .u64 (now : Nat), w] := (zad (n := 4) x3 rfl).trans rfl
   have y3 : h3.get (h.next + 1) = some (.row [.int .i64 0, .int .u64 0, .int .u64 0, .nilsl]) := by rw [hh3, H.get_set, if_neg (by omega)]; exact y2
   have hl := l.len h3.get
   have fin : ∀ (ro rn : List V), Ge h ((h3.set h.next (.row ro)).set (h.next + 1) (.row rn)) ∧ ((h3.set h.next (.row ro)).set (h.next + 1) (.row rn)).WF := fun ro rn => ⟨(g3.set (Nat.le_refl _) _).set (by omega) _, (w3.set (by omega) _).set (by simp; omega) _⟩
   have fin1 : ∀ (rn : List V), Ge h (h3.set (h.next + 1) (.row rn)) ∧ (h3.set (h.next + 1) (.row rn)).WF := fun rn => ⟨g3.set (by omega) _, w3.set (by omega) _⟩
   simp [x2, c2, h1', q3', ht]
   rw [<- hh3]
   by_cases ho : now < P.op
   ·have hgo : zbf P now = false := by simp [zbf, ho]
    have fp : zba P now = ⟨P.gap, P.op, now, P.S⟩ := by rw [zba, hgo]; rfl
    have fo : zbl P now = [] := by rw [zbl, hgo]; rfl
    simp [c3, ho, y3, o1]
    obtain ⟨a, b⟩ := fin1 [.int .i64 (P.gap : Nat), .int .u64 (P.op : Nat), .int .u64 (now : Nat), w]
    refine ⟨w, es, .nilsl, [], by rw [fp]; rfl, a, b, by rw [fp]; exact l.ge a, by rw [fo]; exact LfP.nil _ _⟩
   ·by_cases h0 : P.S = []
    ·have hgo : zbf P now = false := by simp [zbf, h0]
     have fp : zba P now = ⟨P.gap, P.op, now, P.S⟩ := by rw [zba, hgo]; rfl
     have fo : zbl P now = [] := by rw [zbl, hgo]; rfl
     have hl' := hl
     rw [h0] at hl'
     simp at hl'
     simp [c3, ho, y3, o1, hl']
     obtain ⟨a, b⟩ := fin1 [.int .i64 (P.gap : Nat), .int .u64 (P.op : Nat), .int .u64 (now : Nat), w]
     refine ⟨w, es, .nilsl, [], by rw [fp]; rfl, a, b, by rw [fp]; exact l.ge a, by rw [fo]; exact LfP.nil _ _⟩
    ·have hgo : zbf P now = true := by simp [zbf, ho, h0]
     have h0' : (((P.S.length : Nat) : Int) == 0) = false := by simpa using h0
     have fp : zba P now = ⟨P.gap, now + P.gap, now, []⟩ := by rw [zba, hgo]; rfl
     have fo : zbl P now = P.S := by rw [zbl, hgo]; rfl
     have hu : IntKind.u64.wrap (P.gap : Int) = P.gap := zhi (by omega)
     have hu2 : IntKind.u64.wrap ((now : Int) + (P.gap : Int)) = ((now + P.gap : Nat) : Int) := by rw [<- Int.natCast_add]; exact zhi (by omega)
     simp [c3, ho, y3, x3, hl, h0', hu, hu2]
     obtain ⟨a, b⟩ := fin [.int .i64 (P.gap : Nat), .int .u64 ((now + P.gap : Nat) : Nat), .int .u64 (now : Nat), .nilsl] [.int .i64 (P.gap : Nat), .int .u64 ((now + P.gap : Nat) : Nat), .int .u64 (now : Nat), .nilsl]
     simp at a b
     refine ⟨.nilsl, [], w, es, by rw [fp]; simp [rpC], a, b, by rw [fp]; exact LfP.nil _ _, by rw [fo]; exact l.ge a⟩
  ·have q3' : ((now : Nat) : Int) < (P.last : Nat) := by omega
   have ht : zbb P now = false := by simp [zbb, q3]
   simp [c2, h1', q3', ht, y2, o1]
   refine ⟨w, es, .nilsl, [], rfl, g2.set (by omega) _, w2.set (by omega) _, l.ge (g2.set (by omega) _), LfP.nil _ _⟩
 ·have h1' : (1099511627776 : Int) < (now : Nat) := by omega
  have ht : zbb P now = false := by simp [zbb, h1]
  simp [c2, h1', ht, y2, o1]
  refine ⟨w, es, .nilsl, [], rfl, g2.set (by omega) _, w2.set (by omega) _, l.ge (g2.set (by omega) _), LfP.nil _ _⟩
end Go.Am

namespace Go.Am
open Go.Proofs

set_option maxRecDepth 100000
theorem zjK {h : H} {R : Nat -> Prop} {P : Pc} {w v : V} {es fs : List (List V)} {L : List Chg} (l : LfP h R w P.S es) (hR : ∀ j, h.next ≤ j -> R j) (rs : Rise cmpC P.S) (s : CsAt h.get v L fs) (hb : P.S.length + L.length ≤ 100000) (hg : P.gap ≤ 3600) {now : Nat} {ok : Bool} (hok : ok = (zbb P now && L.all za1)) : Acalls Tryz.prog 38 [.agg (rpC P w), v, .int .u64 (now : Nat)] h
  (zkT R h (if ok = true then zba (zbe P L) now else P) (if ok = true then zbl (zbe P L) now else []) (if ok = true then 0 else 2)) := by
 refine zai Tryz.func38 S.a13c S.a13e (Nat.le_of_ble_eq_true rfl) fun wf => ?_; simp only [S.a13]
 have o1 := l.one
 have n01 : ¬ h.next = h.next + 1 := by omega
 obtain ⟨h2, hh2⟩ : ∃ h2, h2 = (h.push (.row (rpC P w))).push (.row [.int .i64 0, .int .u64 0, .int .u64 0, .nilsl]) := ⟨_, rfl⟩
 have g2 : Ge h h2 := by rw [hh2]; exact ((Ge.refl _).push _).push _
 have w2 : h2.WF := by rw [hh2]; exact (wf.push _).push _
 have n2 : h2.next = h.next + 2 := by rw [hh2]; simp
 have x2 : h2.get h.next = some (.row (rpC P w)) := by rw [hh2]; simp
 have y2 : h2.get (h.next + 1) = some (.row [.int .i64 0, .int .u64 0, .int .u64 0, .nilsl]) := by rw [hh2]; simp
 have c2 : zac h2.get h.next 4 = some (rpC P w) := (zad (n := 4) x2 rfl).trans rfl
 have s2 := s.ge wf g2
 have ml := zlC s2
 have hbd := s.sls.bound
 rw [s.len] at hbd
 have bad : ok = false -> ∀ rn : List V, zkT R h (if ok = true then zba (zbe P L) now else P) (if ok = true then zbl (zbe P L) now else []) (if ok = true then 0 else 2) (.tup [.agg (rpC P w), .nilsl, .int .i64 2]) (h2.set (h.next + 1) (.row rn)) := fun e rn => by
  rw [e]
  exact ⟨w, es, .nilsl, [], rfl, g2.set (by omega) _, w2.set (by omega) _, l.ge (g2.set (by omega) _), LfP.nil _ _⟩
 simp only [rpC] at hh2 x2 c2 bad
 simp [rpC, o1]
 rw [<- hh2]
 refine ml _ ?_
 cases hm : L.all za1 with
 | false =>
  simp [c2, y2, o1]
  have := bad (by rw [hok, hm, Bool.and_false]) [.int .i64 (P.gap : Nat), .int .u64 (P.op : Nat), .int .u64 (P.last : Nat), w]
  exact this
 | true =>
  by_cases h1 : now ≤ 1099511627776
  ·have h1' : ¬ (1099511627776 : Int) < (now : Nat) := by omega
   by_cases q3 : P.last ≤ now
   ·have q3' : ¬ ((now : Nat) : Int) < (P.last : Nat) := by omega
    have ht : zbb P now = true := by simp [zbb, h1, q3]
    have hok2 : ok = true := by rw [hok, ht, hm]; rfl
    rw [hok2]
    simp [c2, h1', q3']
    refine zal (fun i t h' => (t 1 = v ∧ t 2 = .int .u64 (now : Nat) ∧ t 3 = .ptr h.next 4 0 ∧ t 6 = .ptr (h.next + 1) 4 0 ∧ t 9 = .int .i64 (i : Nat)) ∧ Ge h h' ∧ h2.next ≤ h'.next ∧ h'.WF ∧ h'.get (h.next + 1) = some (.row [.int .i64 0, .int .u64 0, .int .u64 0, .nilsl]) ∧ ∃ w' es', h'.get h.next = some (.row (rpC (zbe P (L.take i)) w')) ∧ LfP h' R w' (zbe P (L.take i)).S es') L.length
     ⟨by simp, g2, Nat.le_refl _, w2, y2, w, es, x2, l.ge g2⟩ ?_
    rintro i t h' hi ⟨⟨t1, t2, t3, t6, t9⟩, gb, nb, wb, yb, w', es', xb, lb⟩ K hK
    have sb := s.ge wf gb
    have hl := sb.sls.len
    rw [sb.len] at hl
    have ob := lb.one
    have cb : zac h'.get h.next 4 = some (rpC (zbe P (L.take i)) w') := (zad (n := 4) xb rfl).trans rfl
    simp only [rpC] at xb cb
    by_cases hlt : i < L.length
    ·have hw := zam hlt hbd
     obtain ⟨p, qq, o, cs, vp, vc, vx, vl, vk, e1, e2, e3, e4, e5, A, _, _⟩ := sb.atG wb hlt
     have e3' := e3 h' (Ge.refl _)
     obtain ⟨c, hc⟩ : ∃ c, c = L[i] := ⟨_, rfl⟩
     rw [<- hc] at e5 A
     have hcm : za1 c = true := by rw [hc]; exact List.all_eq_true.1 hm _ (List.getElem_mem hlt)
     have hz := zpq hcm
     obtain ⟨S, hS⟩ : ∃ S, S = (zbe P (L.take i)).S := ⟨_, rfl⟩
     have hSl : S.length ≤ P.S.length + L.length := by
      rw [hS]
      have := zdX (L.take i) P.S
      rw [List.length_take] at this
      show (List.foldl putC P.S (L.take i)).length ≤ _
      omega
     have rS : Rise cmpC S := by rw [hS]; exact zft rs _
     rw [<- hS] at lb
     have hRb : ∀ j, h'.next ≤ j -> R j := fun j hj => hR j (by omega)
     have rp := fun Q q => zkK (Q := Q) lb hRb rS A hz (zlN hcm) (by omega) q
     have zs : ∀ d ∈ putC S c, AttSz d.att := fun d hd => by
      rcases (zdY rS).1 hd with rfl | ⟨hd, _⟩
      ·exact hz
      ·exact lb.szs d hd
     obtain ⟨v9, e9, g9, a9, b9, f9⟩ := zdC wb zs
     have hS2 : (zbe P (L.take (i + 1))).S = putC S c := by
      rw [hS]
      show (L.take (i + 1)).foldl putC P.S = putC ((L.take i).foldl putC P.S) c
      rw [List.take_add_one, List.getElem?_eq_getElem hlt, <- hc, List.foldl_append]; rfl
     simp only [chC] at e5 rp
     simp [t1, t9, hl, hlt]
     refine zaU ?_
     simp [t1, t3, t9, cb, e1, e3', e4, e5]
     refine ⟨fun r g => ∃ es2, Ge h' g ∧ g.WF ∧ LfP g R r (putC S c) es2, ⟨v9, g9, e9, a9, b9, f9.mono fun j _ hj => hRb j hj⟩, rp _ fun v' es2 g a b f => ⟨es2, a, b, f⟩, ?_⟩
     rintro r g ⟨es2, gg, wg, lg⟩
     have og := lg.one
     have ng := gg.1
     have xg := (gg.2 h.next (by omega)).trans xb
     simp [t3, t9, xg, zaq og, zap og, hw]
     obtain ⟨hF, hhF⟩ : ∃ hF, hF = g.set h.next (.row (rpC (zbe P (L.take i)) r)) := ⟨_, rfl⟩
     simp only [rpC] at hhF
     have gF : Ge h hF := by rw [hhF]; exact (gb.trans gg).set (Nat.le_refl _) _
     rw [<- hhF]
     have kF : ∀ j, j ≠ h.next -> hF.get j = g.get j := fun j hj => by rw [hhF, H.get_set, if_neg hj]
     refine hK _ hF hlt ⟨by simp [t1, t2, t3, t6], gF, by rw [hhF]; simp; omega, by rw [hhF]; exact wg.set (by omega) _, ?_, r, es2, by rw [hhF]; simp [rpC, zbe], ?_⟩
     ·rw [kF _ (by omega), gg.2 _ (by omega)]; exact yb
     ·rw [hS2]
      exact lg.keepG (by rw [hhF]; simp) fun j sz cs _ _ e => (kF j (fun e2 => by subst e2; rw [xg] at e; cases e)).trans e
    ·have hi2 : i = L.length := by omega
     subst hi2
     rw [List.take_length] at lb xb cb
     simp [t1, t2, t3, t9, hl, cb]
     refine (zfv (P := zbe P L) lb hg (now := now)).mono ?_
     rintro r g ⟨w9, es9, o9, eo9, rfl, g9, w9', l9, l9'⟩
     have ht' : zbb (zbe P L) now = true := ht
     rw [ht'] at l9 l9'
     have q1 := l9.one
     have q2 := l9'.one
     have y9 := (g9.2 (h.next + 1) (by omega)).trans yb
     simp only [rpC]
     simp [t6, y9, q1]
     obtain ⟨hF, hhF⟩ : ∃ hF, hF = g.set (h.next + 1) (.row (rpC (zba (zbe P L) now) w9)) := ⟨_, rfl⟩
     simp only [rpC] at hhF
     rw [ht']
     simp
     rw [<- hhF]
     have n9 := g9.1
     have gF : Ge h hF := by rw [hhF]; exact (gb.trans g9).set (by omega) _
     have kg : ∀ j sz cs, g.get j = some (.grow sz cs) -> hF.get j = some (.grow sz cs) := fun j sz cs e => by
      rw [hhF, H.get_set, if_neg (fun e2 => by rw [e2, y9] at e; cases e)]; exact e
     have nF : g.next ≤ hF.next := by rw [hhF]; simp
     refine ⟨w9, es9, o9, eo9, rfl, gF, by rw [hhF]; exact w9'.set (by omega) _, ?_, ?_⟩
     ·simpa using l9.keepG nF fun j sz cs _ _ e => kg j sz cs e
     ·simpa using l9'.keepG nF fun j sz cs _ _ e => kg j sz cs e
   ·have q3' : ((now : Nat) : Int) < (P.last : Nat) := by omega
    have ht : zbb P now = false := by simp [zbb, q3]
    simp [c2, h1', q3', y2, o1]
    have := bad (by rw [hok, ht]; rfl) [.int .i64 (P.gap : Nat), .int .u64 (P.op : Nat), .int .u64 (P.last : Nat), w]
    exact this
  ·have h1' : (1099511627776 : Int) < (now : Nat) := by omega
   have ht : zbb P now = false := by simp [zbb, h1]
   simp [c2, h1', y2, o1]
   have := bad (by rw [hok, ht]; rfl) [.int .i64 (P.gap : Nat), .int .u64 (P.op : Nat), .int .u64 (P.last : Nat), w]
   exact this
end Go.Am

namespace Go.Am
open Go.Proofs

set_option maxRecDepth 100000
structure Sp (R : Nat -> Prop) (h h' : H) : Prop where
 next : h'.next = h.next
 wf : h'.WF
 get : ∀ j, h'.get j = h.get j ∨ (R j ∧ ∃ cs cs', h.get j = some (.grow 1 cs) ∧ h'.get j = some (.grow 1 cs') ∧ cs'.length = cs.length)
theorem Sp.refl {R : Nat -> Prop} {h : H} (w : h.WF) : Sp R h h := ⟨rfl, w, fun _ => .inl rfl⟩
theorem Sp.out {R : Nat -> Prop} {h h' : H} (s : Sp R h h') {j : Nat} (hj : ¬ R j) : h'.get j = h.get j := by
 rcases s.get j with e | ⟨r, _⟩
 ·exact e
 ·exact absurd r hj
theorem Sp.row {R : Nat -> Prop} {h h' : H} (s : Sp R h h') {j : Nat} {o : O} (e : h.get j = some o) (ho : ∀ cs, o ≠ .grow 1 cs) : h'.get j = some o := by
 rcases s.get j with e2 | ⟨_, cs, _, e2, _⟩
 ·exact e2.trans e
 ·rw [e] at e2; cases e2; exact absurd rfl (ho cs)
theorem Sp.grow {R : Nat -> Prop} {h h' : H} (s : Sp R h h') {j : Nat} {cs : List V} (e : h.get j = some (.grow 1 cs)) : ∃ cs', h'.get j = some (.grow 1 cs') ∧ cs'.length = cs.length := by
 rcases s.get j with e2 | ⟨_, cs0, cs', e2, e3, e4⟩
 ·exact ⟨cs, e2.trans e, rfl⟩
 ·rw [e] at e2; cases e2; exact ⟨cs', e3, e4⟩
theorem Sp.set {R : Nat -> Prop} {h h' : H} (s : Sp R h h') {j : Nat} {cs cs2 : List V} (r : R j) (e : h'.get j = some (.grow 1 cs)) (hl : cs2.length = cs.length) : Sp R h (h'.set j (.grow 1 cs2)) := by
 refine ⟨by simpa using s.next, s.wf.set (s.wf.lt e) _, fun k => ?_⟩
 rw [H.get_set]
 by_cases hk : k = j
 ·subst hk
  rw [if_pos rfl]
  right
  refine ⟨r, ?_⟩
  rcases s.get k with e2 | ⟨_, c0, c1, e2, e3, e4⟩
  ·exact ⟨cs, cs2, e2.symm.trans e, rfl, hl⟩
  ·rw [e] at e3; cases e3
   exact ⟨c0, cs2, e2, rfl, hl.trans e4⟩
 ·rw [if_neg hk]; exact s.get k
theorem Sp.mono {R R' : Nat -> Prop} {h h' : H} (s : Sp R h h') (k : ∀ j, R j -> R' j) : Sp R' h h' := ⟨s.next, s.wf, fun j => (s.get j).imp id fun ⟨r, x⟩ => ⟨k j r, x⟩⟩
theorem RwP.at {h : H} {R : Nat -> Prop} {v : V} {es : List (List V)} (f : RwP h R 23 v es) (hs : ∀ e ∈ es, e.length = 23) {k : Nat} (hk : k < es.length) :
  ∃ j n o, (∀ kd, zaC 23 v (.int kd (k : Int)) = some (.ptr j n (k * 23))) ∧ h.get j = some o ∧ (∀ cs, o ≠ .grow 1 cs) ∧ o.len = n ∧ k * 23 + 23 ≤ n ∧ ∀ i, i < 23 -> o.cells[k * 23 + i]? = es[k][i]? := by
 have hl := zaA hs
 rcases f with ⟨rfl, _⟩ | ⟨hne, j, ca, o, _, b, rfl, d, e⟩
 ·simp at hk
 ·have hm : k * 23 + 23 ≤ es.length * 23 := by omega
  have oc : o.cells = es.flatten := by rcases e with rfl | rfl <;> rfl
  refine ⟨j, es.flatten.length, o, fun kd => ?_, d, by rcases e with rfl | rfl <;> simp, by rcases e with rfl | rfl <;> simp, by omega, fun i hi => ?_⟩
  ·simp only [zbm, Int.toNat_natCast]
   rw [if_pos ⟨by omega, by omega⟩]; simp
  ·have := zeb hs hk
   rw [oc, <- this, List.getElem?_take, if_pos hi, List.getElem?_drop]
theorem zd3 {h : H} {R : Nat -> Prop} {v : V} {L : List Chg} {es : List (List V)} (l : LsP h R v L es) (hl : L.length ≤ 1000000) {Q : V -> H -> Prop} (q : ∀ h', Sp R h h' -> Q (.tup []) h') : Acalls Tryz.prog 39 [v] h Q := by
 refine zai Tryz.func39 S.a14c S.a14e (Nat.le_of_ble_eq_true rfl) fun wf => ?_; simp only [S.a14]
 have hlen : ∀ g, lenV 1 g v = some (.int .i64 (L.length : Nat)) := fun g => by
  rw [<- l.len]
  rcases l.fc with ⟨rfl, rfl | ⟨k, rfl⟩⟩ | ⟨_, j, ca, o, _, _, rfl, _⟩ <;> simp [lenV]
 simp
 refine zal (fun i t h' => (t 0 = v ∧ t 2 = .int .i64 (i : Nat)) ∧ Sp R h h') L.length ⟨by simp, Sp.refl wf⟩ ?_
 rintro i t h' hi ⟨⟨t0, t2⟩, sp⟩ K hK
 by_cases hlt : i < L.length
 ·have hw := zam hlt (by omega : L.length < 9223372036854775808)
  have hie : i < es.length := by rw [l.len]; exact hlt
  obtain ⟨j, n, o, f1, f2, f3, f4, f5, f6⟩ := l.fc.at l.lens hie
  obtain ⟨e, he, vp, vc, vx, vl, vk, hee, A⟩ := l.at' i _ (List.getElem?_eq_getElem hlt)
  have hee2 : es[i] = chC L[i] vp vc vx vl vk := by rw [List.getElem?_eq_getElem hie, Option.some.injEq] at he; rw [he, hee]
  have i17 := f6 17 (by omega)
  rw [hee2] at i17
  simp [chC] at i17
  have fc := A.comms
  have spine : ∀ g, Sp R h g -> zac g.get j n = some o.cells := fun g s => by rw [zad (s.row f2 f3) f4]
  obtain ⟨cl, hcl⟩ : ∃ cl, cl = L[i].att.comms := ⟨_, rfl⟩
  rw [<- hcl] at fc
  have zc := A.sz.comms
  rw [<- hcl] at zc
  have clen : ∀ g, lenV 1 g vc = some (.int .i64 (cl.length : Nat)) := fun g => by
   rcases fc with ⟨e, rfl | ⟨k, rfl⟩⟩ | ⟨_, j, _, _, rfl, _⟩
   ·simp at e; simp [e, lenV]
   ·simp at e; simp [e, lenV]
   ·simp [lenV]
  simp [t0, t2, hlen, hlt]
  refine zal (fun m t g => (t 0 = v ∧ t 2 = .int .i64 (i : Nat) ∧ t 3 = .int .i64 (m : Nat)) ∧ Sp R h g) cl.length ⟨by simp [t0, t2], sp⟩ ?_
  rintro m t g hm ⟨⟨u0, u2, u3⟩, sg⟩ K2 hK2
  have cg := spine g sg
  by_cases hmt : m < cl.length
  ·have hw2 := zam hmt (by omega : cl.length < 9223372036854775808)
   rcases fc with ⟨e, _⟩ | ⟨hne, j2, r2, b2, rfl, d2⟩
   ·simp at e; subst e; simp at hmt
   ·obtain ⟨cs2, e2, l2⟩ := sg.grow d2
    have fl : (cl.map cP).flatten.length = cl.length := by rw [zaA (zcc _)]; simp
    have ix : zaC 1 (.sl j2 (cl.map cP).flatten.length 0 (cl.map cP).length none) (.int .i64 (m : Int)) = some (.ptr j2 (cl.map cP).flatten.length m) := by
     simp only [zbm, Int.toNat_natCast]
     rw [if_pos ⟨by omega, by simp; omega⟩]; simp
    rw [fl] at ix l2
    rw [fl] at clen i17
    rw [List.length_map] at ix clen i17
    have hml : m ≤ cs2.length := by omega
    have hml2 : m + 1 ≤ cl.length := by omega
    simp [u0, u2, u3, f1, cg, i17, clen, hmt, ix, e2, l2, hw2, hml2]
    refine hK2 _ _ hmt ?_
    refine ⟨by simp [u0, u2], ?_⟩
    exact sg.set r2 e2 (by simp; omega)
  ·simp [u0, u2, u3, f1, cg, i17, clen, hmt, hw]
   refine hK _ _ hlt ⟨by simp [u0], sg⟩
 ·simp [t0, t2, hlen, hlt]
  exact q _ sp
end Go.Am

namespace Go.Am
open Go.Proofs

set_option maxRecDepth 100000
theorem p_no : Fr.KnownOk Tryz.prog [] := fun _ h => by cases h
theorem zjn : Fr.plainRun (Fr.runO8 [] Fr.q.tab 100000 60) 63 [.str [118, 52, 32, 49, 48, 46, 48, 46, 48, 46, 48, 47, 56]] = some (.tup [.agg [.int .i64 1, .int .u64 0, .str [10, 0, 0, 0], .int .i64 8], .int .i64 0]) := by kernel_rfl
theorem zjH (h : H) : Pure Tryz.prog 63 [.str [118, 52, 32, 49, 48, 46, 48, 46, 48, 46, 48, 47, 56]] h (.tup [.agg [.int .i64 1, .int .u64 0, .str [10, 0, 0, 0], .int .i64 8], .int .i64 0]) := zjU p_no Fr.q.tab_ok zjn h
theorem zni (g : Nat -> Option O) {a : Att} (h1 : a.path = []) (h2 : a.comms = []) (h3 : a.exts = []) (h4 : a.larges = []) (h5 : a.clus = []) : AttAt g a .nilsl .nilsl .nilsl .nilsl .nilsl := by
 refine ⟨⟨[], zcl _ _, by rw [h1]; rfl, by simp [h1]⟩, ?_, ?_, ?_, ?_⟩
 ·rw [h2]; exact zcl _ _
 ·rw [h3]; exact zcl _ _
 ·rw [h4]; exact zcl _ _
 ·rw [h5]; exact zcl _ _
def chN (c : Chg) : List V := chC c .nilsl .nilsl .nilsl .nilsl .nilsl
def NoL (a : Att) : Prop := a.path = [] ∧ a.comms = [] ∧ a.exts = [] ∧ a.larges = [] ∧ a.clus = []
theorem zhO (i : Nat) : NoL (attM i) := ⟨rfl, rfl, rfl, rfl, rfl⟩
theorem zqf {g : Nat -> Option O} {j : Nat} {c : Chg} (hc : NoL c.att) (hj : g j = some (.row (chN c))) : CsAt g (.sl j 23 0 1 (some 1)) [c] [chN c] := by
 refine ⟨⟨.inr ⟨j, 23, 0, some 1, rfl⟩, by simp [chN, chC], ?_, by simp⟩, rfl, fun i c' hi => ?_⟩
 ·rw [zaI, if_neg (by simp), zad (n := 23) hj rfl]
  simp [chN, chC]
 ·cases i with
  | zero =>
   simp at hi; subst hi
   exact ⟨chN c, rfl, _, _, _, _, _, rfl, zni _ hc.1 hc.2.1 hc.2.2.1 hc.2.2.2.1 hc.2.2.2.2⟩
  | succ i => simp at hi
def zax (id med : Nat) : Chg := ⟨false, ⟨⟨1, 0, [10, 0, 0, 0], 8⟩, id, 0⟩, attM med⟩
theorem zfk {h : H} {id med : Nat} : Pure Tryz.prog 42 [.str [118, 52, 32, 49, 48, 46, 48, 46, 48, 46, 48, 47, 56], .int .u32 (id : Nat), .int .u32 (med : Nat)] h (.agg (chN (zax id med))) := by
 refine zae Tryz.func42 S.a17c S.a17e rfl (Nat.le_of_ble_eq_true rfl) fun wf => ?_; simp only [S.a17]
 simp
 refine zjH _ _ ?_
 simp [chN, chC, zax, attM]
 exact ((((Ge.refl _).push _).push _).set (by omega) _).set (Nat.le_refl _) _
theorem zol (i : Nat) : attB (attM i) = true := by simp [attB, attM, zco, risB, adjB]
theorem zrX : ∀ k4, k4 < 4 -> ∀ k2, k2 < 2 -> mayN ⟨⟨1, 0, [UInt8.ofNat (10 + k4), 0, 0, 0], 8⟩, k2, 0⟩ = true := by decide +kernel
theorem zfd (id i : Nat) (h : id < 2) : za1 (zax id i) = true := by
 have := zrX 0 (by omega) id h
 have e : (UInt8.ofNat (10 + 0)) = 10 := rfl
 rw [e] at this
 simp [za1, zax, this, zol]
theorem zf4 {h : H} {p m : Nat} {P : Pc} (wf : h.WF) (x : PaceAt h (fun _ => True) p m P) {c : Chg} (hc : NoL c.att) (hm : za1 c = true) (hb : P.S.length + 1 ≤ 100000) (hg : P.gap ≤ 3600) {now : Nat} (ht : zbb P now = true) {Q : V -> H -> Prop}
  (q : ∀ w fs h', But h h' p m -> h'.WF -> PaceAt h' (fun _ => True) p m (zba (zbe P [c]) now) -> LsP h' (fun j => h.next ≤ j) w (zbl (zbe P [c]) now) fs -> Q (.tup [w, .int .i64 0]) h') :
  Acalls Tryz.prog 31 [.ptr p 4 0, .sl h.next 23 0 1 (some 1), .int .u64 (now : Nat)] (h.push (.row (chN c))) Q := by
 have g1 : Ge h (h.push (.row (chN c))) := (Ge.refl _).push _
 obtain ⟨lp, lm, _⟩ := x.lt wf
 refine zk0 (x.ge wf g1) (fun _ _ => trivial) (v := .sl h.next 23 0 1 (some 1)) (L := [c]) (es := [chN c]) (fun h' b => zqf hc ?_) (by simpa using hb) hg (fun e => ?_) (fun _ _ w fs h' a b cc d => q w fs h' ((g1.but p m).trans a) b cc (d.mono fun j _ hj => by have := g1.1; have : (h.push (.row (chN c))).next ≤ j := hj; omega))
 ·rw [b.keep h.next (by simp) (by omega) (by omega)]; simp
 ·simp [ht, hm] at e
theorem LsP.lenV {h : H} {R : Nat -> Prop} {v : V} {L : List Chg} {es : List (List V)} (s : LsP h R v L es) (g : Nat -> Option O) : lenV 1 g v = some (.int .i64 (L.length : Nat)) := by
 rw [<- s.len]
 rcases s.fc with ⟨rfl, rfl | ⟨k, rfl⟩⟩ | ⟨_, j, ca, o, _, _, rfl, _⟩ <;> simp
theorem zge (h : H) : Pure Tryz.prog 35 [] h (.bool true) := by
 refine zae Tryz.func35 S.a10c S.a10e rfl (Nat.le_of_ble_eq_true rfl) fun wf => ?_; simp only [S.a10]
 simp
 refine zjM (gap := 5) (fun e => by omega) fun _ h1 g1 w1 x1 => ?_
 obtain ⟨p, hp⟩ : ∃ p, p = h.next + 1 := ⟨_, rfl⟩
 obtain ⟨m, hm⟩ : ∃ m, m = h.next := ⟨_, rfl⟩
 rw [<- hp, <- hm] at x1
 rw [<- hp]
 have cm1 : za1 (zax 0 1) = true := zfd 0 1 (by omega)
 have cm2 : za1 (zax 0 2) = true := zfd 0 2 (by omega)
 have cm3 : za1 (zax 0 3) = true := zfd 0 3 (by omega)
 simp
 refine zfk (id := 0) (med := 1) _ ?_
 simp [chN, chC, zax, attM]
 have pc1 := fun Q q => zf4 (Q := Q) w1 x1 (zhO 1 : NoL (zax 0 1).att) cm1 (by simp) (by simp) (now := 3) (by rfl) q
 have f1 : zba (zbe ⟨5, 0, 0, []⟩ [zax 0 1]) 3 = ⟨5, 8, 3, []⟩ := rfl
 have u1 : zbl (zbe ⟨5, 0, 0, []⟩ [zax 0 1]) 3 = [zax 0 1] := rfl
 have e5 : (5 : Int).toNat = 5 := rfl
 simp only [chN, chC, zax, attM, e5] at pc1 f1 u1
 rw [f1, u1] at pc1
 refine pc1 _ fun a1 es1 h2 b2 w2 x2 l2 => ?_
 clear pc1
 simp
 refine zfk (id := 0) (med := 2) _ ?_
 simp [chN, chC, zax, attM]
 have pc2 := fun Q q => zf4 (Q := Q) w2 x2 (zhO 2 : NoL (zax 0 2).att) cm2 (by simp) (by simp) (now := 4) (by rfl) q
 have f2 : zba (zbe ⟨5, 8, 3, []⟩ [zax 0 2]) 4 = ⟨5, 8, 4, [zax 0 2]⟩ := rfl
 have u2 : zbl (zbe ⟨5, 8, 3, []⟩ [zax 0 2]) 4 = [] := rfl
 simp only [chN, chC, zax, attM] at pc2 f2 u2
 rw [f2, u2] at pc2
 refine pc2 _ fun a2 es2 h3 b3 w3 x3 l3 => ?_
 clear pc2
 simp
 refine zfk (id := 0) (med := 3) _ ?_
 simp [chN, chC, zax, attM]
 have pc3 := fun Q q => zf4 (Q := Q) w3 x3 (zhO 3 : NoL (zax 0 3).att) cm3 (by simp) (by simp) (now := 7) (by rfl) q
 have f3 : zba (zbe ⟨5, 8, 4, [zax 0 2]⟩ [zax 0 3]) 7 = ⟨5, 8, 7, [zax 0 3]⟩ := rfl
 have u3 : zbl (zbe ⟨5, 8, 4, [zax 0 2]⟩ [zax 0 3]) 7 = [] := rfl
 simp only [chN, chC, zax, attM] at pc3 f3 u3
 rw [f3, u3] at pc3
 refine pc3 _ fun a3 es3 h4 b4 w4 x4 l4 => ?_
 clear pc3
 simp
 refine zjZ x4 _ ?_
 simp
 have f4 : zba ⟨5, 8, 7, [zax 0 3]⟩ 8 = ⟨5, 13, 8, []⟩ := rfl
 have u4 : zbl ⟨5, 8, 7, [zax 0 3]⟩ 8 = [zax 0 3] := rfl
 simp only [zax, attM] at f4 u4
 refine zih x4 (by simp) (by simp) (now := 8) (fun e => by cases e) fun _ a4 es4 h5 b5 w5 x5 l5 => ?_
 rw [u4] at l5
 have c1 := l2.lenV h5.get
 have c2 := l3.lenV h5.get
 have c3 := l4.lenV h5.get
 have c4 := l5.lenV h5.get
 obtain ⟨pp, q, o, cs, vp, vc, vx, vl, vk, i1, _, i2, i3, i4, _, _, i5⟩ := (l5.at (by simp)).atG w5 (k := 0) (by simp)
 have i2' := i2 h5 (Ge.refl _)
 have i6 := i5 11 (by omega)
 simp [chC] at i6
 have i1' := i1 .i64
 simp at i1'
 simp only [List.length_nil, List.length_cons] at c1 c2 c3 c4
 simp [c1, c2, c3, c4, i1', i2', i6]
 have n1 := g1.1
 have m1 := b2.next
 have m2 := b3.next
 have m3 := b4.next
 have m4 := b5.next
 exact ⟨by omega, fun k hk => by rw [b5.keep k (by omega) (by omega) (by omega), b4.keep k (by omega) (by omega) (by omega), b3.keep k (by omega) (by omega) (by omega), b2.keep k (by omega) (by omega) (by omega), g1.2 k hk]⟩
end Go.Am

namespace Go.Am
open Go.Proofs

set_option maxRecDepth 100000
theorem zll {h : H} {R : Nat -> Prop} {p m : Nat} {P : Pc} (x : PaceAt h R p m P) {Q : V -> H -> Prop}
  (q : ∀ h' p' m', Ge h h' -> h'.WF -> h.next ≤ p' -> h.next ≤ m' -> PaceAt h' R p' m' P -> Q (.ptr p' 4 0) h') : Acalls Tryz.prog 41 [.ptr p 4 0] h Q := by
 refine zai Tryz.func41 S.a16c S.a16e (Nat.le_of_ble_eq_true rfl) fun wf => ?_; simp only [S.a16]
 obtain ⟨hp, hm, hpm⟩ := x.lt wf
 have xr := x.row
 have c : zac h.get p 4 = some [.int .i64 (P.gap : Nat), .int .u64 (P.op : Nat), .int .u64 (P.last : Nat), .map m] := (zad (n := 4) xr rfl).trans rfl
 simp
 refine zex x _ ?_
 obtain ⟨h1, hh1⟩ : ∃ h1, h1 = h.push (.row [.int .i64 (P.gap : Nat), .int .u64 (P.op : Nat), .int .u64 (P.last : Nat), .map m]) := ⟨_, rfl⟩
 have g1 : Ge h h1 := by rw [hh1]; exact (Ge.refl _).push _
 have w1 : h1.WF := by rw [hh1]; exact wf.push _
 have n1 : h1.next = h.next + 1 := by rw [hh1]; simp
 have x1 := x.ge wf g1
 have y1 : h1.get h.next = some (.row [.int .i64 (P.gap : Nat), .int .u64 (P.op : Nat), .int .u64 (P.last : Nat), .map m]) := by rw [hh1]; simp
 have c1 : zac h1.get p 4 = some [.int .i64 (P.gap : Nat), .int .u64 (P.op : Nat), .int .u64 (P.last : Nat), .map m] := (zad (n := 4) x1.row rfl).trans rfl
 obtain ⟨es, bs, tk, L, a1, a2, a3, a4, a5⟩ := x1.held
 have mo : (V.map m).one = true := rfl
 have pn : ¬ p = h.next := by omega
 simp [c, mo, pn]
 rw [za5 _ _ _ rfl, <- hh1]
 refine zjN Tryz.mclone83 (F := 83) rfl (by kernel_rfl) a1 ?_
 obtain ⟨h2, hh2⟩ : ∃ h2, h2 = h1.push (.mapo es bs tk) := ⟨_, rfl⟩
 have g2 : Ge h1 h2 := by rw [hh2]; exact (Ge.refl _).push _
 have w2 : h2.WF := by rw [hh2]; exact w1.push _
 have n2 : h2.next = h1.next + 1 := by rw [hh2]; simp
 have y2 : h2.get h.next = some (.row [.int .i64 (P.gap : Nat), .int .u64 (P.op : Nat), .int .u64 (P.last : Nat), .map m]) := (g2.2 _ (by omega)).trans y1
 have m2 : h2.get h1.next = some (.mapo es bs tk) := by rw [hh2]; simp
 have mo1 : (V.map h1.next).solid = true := rfl
 have mo2 : (V.map h1.next).cells = [V.map h1.next] := rfl
 rw [<- hh2]
 simp [y2, mo1, mo2]
 obtain ⟨hF, hhF⟩ : ∃ hF, hF = h2.set h.next (.row [.int .i64 (P.gap : Nat), .int .u64 (P.op : Nat), .int .u64 (P.last : Nat), .map h1.next]) := ⟨_, rfl⟩
 have kF : ∀ j, j ≠ h.next -> hF.get j = h2.get j := fun j hj => by rw [hhF, H.get_set, if_neg hj]
 have gF : Ge h hF := by rw [hhF]; exact (g1.trans g2).set (Nat.le_refl _) _
 rw [<- hhF]
 refine q hF h.next h1.next gF (by rw [hhF]; exact w2.set (by omega) _) (Nat.le_refl _) (by omega) ⟨by rw [hhF]; simp, es, bs, tk, L, ?_, a2, a3, a4, fun i c hi => ?_⟩
 ·rw [kF _ (by omega)]; exact m2
 ·obtain ⟨e, b1, b2⟩ := a5 i c hi
  refine ⟨e, b1, b2.keep (by rw [hhF]; simp; omega) fun j s cs _ hj e => ?_⟩
  rw [kF j (fun e2 => by subst e2; rw [y1] at e; cases e), g2.2 j hj]; exact e
theorem zmA {P : Program} {F : List Nat} {K : Tm -> H -> Prop} {d : Option Nat} {g m : Nat} {w : Bool} {x : X} {is : List (SI × Nat)} {t : Tm} {h : H} (e : t g = .bool w) (c : Awp P F K ((⟨d, none, x⟩, m) :: is) t h) : Awp P F K ((⟨d, some (g, w), x⟩, m) :: is) t h := by
 simp only [Awp, Astep, Sstep, zat, e, beq_self_eq_true] at c ⊢
 exact ⟨c.1, fun h => by have := c.2 h; simp only [FootIn, zat, e, beq_self_eq_true] at this ⊢; exact this⟩
theorem LsP.none {h : H} {R R' : Nat -> Prop} {v : V} {es : List (List V)} (s : LsP h R v [] es) : LsP h R' v [] es := by
 refine ⟨?_, s.len, by simp⟩
 have : es = [] := List.eq_nil_of_length_eq_zero s.len
 subst this
 rcases s.fc with h1 | ⟨h1, _⟩
 ·exact .inl h1
 ·exact absurd rfl h1
theorem PaceAt.none {h : H} {R R' : Nat -> Prop} {p m : Nat} {P : Pc} (x : PaceAt h R p m P) (e : P.S = []) : PaceAt h R' p m P := by
 obtain ⟨es, bs, tk, L, a1, a2, a3, a4, a5⟩ := x.held
 refine ⟨x.row, es, bs, tk, L, a1, a2, a3, a4, fun i c hi => ?_⟩
 have : L = [] := by have := a3.perm.length_eq; rw [e] at this; exact List.eq_nil_of_length_eq_zero (by simpa using this)
 subst this
 simp at hi
theorem PaceAt.mono {h : H} {R R' : Nat -> Prop} {p m : Nat} {P : Pc} (x : PaceAt h R p m P) (k : ∀ j, j < h.next -> R j -> R' j) : PaceAt h R' p m P := ⟨x.row, x.held.mono k⟩
theorem PaceAt.sp {h h' : H} {R R' : Nat -> Prop} {p m : Nat} {P : Pc} (x : PaceAt h R p m P) (s : Sp R' h h') (k : ∀ j, R j -> ¬ R' j) : PaceAt h' R p m P := by
 obtain ⟨es, bs, tk, L, a1, _⟩ := x.held
 exact x.keep (by rw [s.next]; exact Nat.le_refl _) ((s.row x.row (by simp)).trans x.row.symm) ((s.row a1 (by simp)).trans a1.symm) fun j sz cs hj _ e => by rw [s.out (k j hj)]; exact e
theorem LfP.sp {h h' : H} {R R' : Nat -> Prop} {v : V} {L : List Chg} {es : List (List V)} (l : LfP h R v L es) (s : Sp R' h h') (k : ∀ j, R j -> ¬ R' j) : LfP h' R v L es :=
 l.keep (by rw [s.next]; exact Nat.le_refl _) fun j hj _ => s.out (k j hj)
theorem LsP.sp {h h' : H} {R R' : Nat -> Prop} {v : V} {L : List Chg} {es : List (List V)} (l : LsP h R v L es) (s : Sp R' h h') (k : ∀ j, R j -> ¬ R' j) : LsP h' R v L es :=
 l.keep (by rw [s.next]; exact Nat.le_refl _) fun j hj _ => s.out (k j hj)
theorem zn2 (P : Pc) (now : Nat) : zbl P now = [] ∨ (zba P now).S = [] := by
 cases hg : zbf P now with
 | true => exact .inr (by rw [zba, hg]; rfl)
 | false => exact .inl (by rw [zbl, hg]; rfl)
theorem zlH (P : Pc) (now : Nat) : (zba P now).S.length ≤ P.S.length ∧ (zba P now).gap = P.gap ∧ (zbl P now).length ≤ P.S.length := by
 cases hg : zbf P now with
 | true => rw [zba, zbl, hg]; simp
 | false => rw [zba, zbl, hg]; simp
theorem PaceAt.szs {h : H} {R : Nat -> Prop} {p m : Nat} {P : Pc} (x : PaceAt h R p m P) : ∀ c ∈ P.S, AttSz c.att := fun c hc => by
 obtain ⟨es, bs, tk, L, _, _, a3, _, a5⟩ := x.held
 obtain ⟨i, hi, rfl⟩ := List.mem_iff_getElem.1 (a3.perm.mem_iff.2 hc)
 obtain ⟨e, _, f⟩ := a5 i _ (List.getElem?_eq_getElem hi)
 exact f.sz
theorem LsP.szs {h : H} {R : Nat -> Prop} {v : V} {L : List Chg} {es : List (List V)} (l : LsP h R v L es) : ∀ c ∈ L, AttSz c.att := fun c hc => by
 obtain ⟨i, hi, rfl⟩ := List.mem_iff_getElem.1 hc
 obtain ⟨e, _, f⟩ := l.at' i _ (List.getElem?_eq_getElem hi)
 exact f.sz
def zpy (R : Nat -> Prop) (h : H) (p m : Nat) (P' : Pc) (out : List Chg) (err : Int) (r : V) (h' : H) : Prop :=
 ∃ wa ea, r = .tup [wa, .int .i64 err] ∧ But h h' p m ∧ h'.WF ∧ PaceAt h' R p m P' ∧ LsP h' (fun j => h.next ≤ j) wa out ea
theorem zeS {h : H} {R : Nat -> Prop} {p m : Nat} {P : Pc} (wf : h.WF) (x : PaceAt h R p m P) (hb : P.S.length ≤ 100000) (hg : P.gap ≤ 3600) {now : Nat} {ok : Bool} (hok : ok = zbb P now) : Acalls Tryz.prog 30 [.ptr p 4 0, .int .u64 (now : Nat)] h (zpy R h p m (if ok = true then zba P now else P) (if ok = true then zbl P now else []) (if ok = true then 0 else 2)) := by
 refine zih x hb hg (fun e => ?_) fun e w es h' a b c d => ?_
 ·have e' := hok.trans e
  subst e'
  exact ⟨.nilsl, [], rfl, But.refl _ _ _, wf, x, LsP.nil _ _⟩
 ·have e' := hok.trans e
  subst e'
  exact ⟨w, es, rfl, a, b, c, d⟩
theorem zl9 {h : H} {R : Nat -> Prop} {p m : Nat} {P : Pc} (wf : h.WF) (x : PaceAt h R p m P) (hR : ∀ j, h.next ≤ j -> R j) {v : V} {L : List Chg} {es : List (List V)} (lk : ∀ h', But h h' p m -> CsAt h'.get v L es) (hb : P.S.length + L.length ≤ 100000) (hg : P.gap ≤ 3600) {now : Nat} {ok : Bool} (hok : ok = (zbb P now && L.all za1)) : Acalls Tryz.prog 31 [.ptr p 4 0, v, .int .u64 (now : Nat)] h (zpy R h p m (if ok = true then zba (zbe P L) now else P) (if ok = true then zbl (zbe P L) now else []) (if ok = true then 0 else 2)) := by
 refine zk0 x hR lk hb hg (fun e => ?_) fun e1 e2 w es h' a b c d => ?_
 ·have e' := hok.trans e
  subst e'
  exact ⟨.nilsl, [], rfl, But.refl _ _ _, wf, x, LsP.nil _ _⟩
 ·have e' : ok = true := by rw [hok, e1, e2]; rfl
  subst e'
  exact ⟨w, es, rfl, a, b, c, d⟩
structure ActOk (P2 : Pc) (out : List Chg) (n : Nat) : Prop where
 rise : Rise cmpC P2.S
 len : P2.S.length ≤ n
 olen : out.length ≤ n
 gap : P2.gap ≤ 3600
 or' : out = [] ∨ P2.S = []
theorem zmM {P P3 : Pc} {now n : Nat} (ok : Bool) (r : Rise cmpC P.S) (r3 : Rise cmpC P3.S) (l : P.S.length ≤ n) (l3 : P3.S.length ≤ n) (g : P.gap ≤ 3600) (g3 : P3.gap ≤ 3600) : ActOk (if ok = true then zba P3 now else P) (if ok = true then zbl P3 now else []) n := by
 obtain ⟨a, b, c⟩ := zlH P3 now
 cases ok with
 | true => exact ⟨ziX r3 now, by simp; omega, by simp; omega, by simp; omega, by simpa using zn2 P3 now⟩
 | false => exact ⟨r, l, by simp, g, .inl rfl⟩
end Go.Am

namespace Go.Am
open Go.Proofs

set_option maxRecDepth 100000
structure PAct where
 fire : Bool
 now : Nat
 L : List Chg
structure PActs (g : Nat -> Option O) (v : V) (l : List PAct) (es : List (List V)) : Prop where
 sls : Sls g 3 v es
 len : es.length = l.length
 at' : ∀ (i : Nat) (a : PAct), l[i]? = some a -> ∃ w ls, es[i]? = some [.bool a.fire, .int .u64 (a.now : Nat), w] ∧ CsAt g w a.L ls ∧ zcp w ∧ ∀ c ∈ a.L, AttSz c.att
theorem CsAt.take {g : Nat -> Option O} {v : V} {L : List Chg} {es : List (List V)} (s : CsAt g v L es) (c : zcp v) {k : Nat} (hk : k ≤ L.length) (kd : IntKind) :
  ∃ v', zaB 23 none (some (.int kd (k : Int))) none v = some v' ∧ CsAt g v' (L.take k) (es.take k) := by
 obtain ⟨v', e, s', _⟩ := s.sls.take c (k := k) (by rw [s.len]; exact hk) kd
 refine ⟨v', e, s', by simp [s.len], fun i c hi => ?_⟩
 rw [List.getElem?_take] at hi ⊢
 split at hi
 ·rename_i h
  rw [if_pos h]; exact s.at' i c hi
 ·cases hi
structure PlInv (h : H) (p m b : Nat) (P : Pc) (w : V) (es : List (List V)) (i : Nat) : Prop where
 pace : PaceAt h (fun _ => True) p m P
 row : h.get b = some (.row (rpC P w))
 ref : LfP h (fun _ => True) w P.S es
 rise : Rise cmpC P.S
 len : P.S.length ≤ 20 * i
 gap : P.gap ≤ 3600
theorem zok {h : H} {R : Nat -> Prop} {p m b : Nat} {P : Pc} {w : V} (x : PaceAt h R p m P) (r : h.get b = some (.row (rpC P w))) (hw : ∀ k, w ≠ .map k) : b ≠ p ∧ b ≠ m := by
 obtain ⟨es, bs, tk, L, a1, _⟩ := x.held
 have xr := x.row
 constructor
 ·intro e
  subst e
  rw [r] at xr
  simp only [rpC, Option.some.injEq, O.row.injEq, List.cons.injEq, and_true] at xr
  exact hw _ xr.2.2.2
 ·intro e; subst e; rw [r] at a1; cases a1
theorem LfP.nomap {h : H} {R : Nat -> Prop} {v : V} {L : List Chg} {es : List (List V)} (l : LfP h R v L es) (k : Nat) : v ≠ .map k := by
 rcases l.fc with ⟨_, rfl | ⟨j, rfl⟩⟩ | ⟨_, j, _, _, rfl, _⟩ <;> simp
theorem zrm {h : H} {v : V} {l : List PAct} {es : List (List V)} {gap : Int} (hs : PActs h.get v l es) (hn : ∀ a ∈ l, a.now < 18446744073709551616) : Pure Tryz.prog 9 [.int .i64 gap, v] h (.bool true) := by
 refine zae Tryz.func9 S.a0c S.a0e rfl (Nat.le_of_ble_eq_true rfl) fun wf => ?_; simp only [S.a0]
 have hb := hs.sls.bound
 have hlv := hs.sls.len
 rw [hs.len] at hb hlv
 simp
 refine zjM (gap := gap) (fun e => ?_) fun e h1 g1 w1 x1 => ?_
 ·have rn := zgM (h := h) (gap := gap)
  rw [if_pos e] at rn
  simp
  refine rn _ ?_
  simp
  refine zge _ _ ?_
  simp
 have rn := zgM (h := h1) (gap := gap)
 rw [if_neg e] at rn
 simp only [rpC] at rn
 simp
 refine rn _ ?_
 obtain ⟨p, hp⟩ : ∃ p, p = h.next + 1 := ⟨_, rfl⟩
 obtain ⟨m, hm⟩ : ∃ m, m = h.next := ⟨_, rfl⟩
 rw [<- hp, <- hm] at x1
 rw [<- hp]
 obtain ⟨g, hg⟩ : ∃ g : Nat, g = gap.toNat := ⟨_, rfl⟩
 rw [<- hg] at x1 ⊢
 simp
 obtain ⟨b, hbd⟩ : ∃ b, b = h1.next := ⟨_, rfl⟩
 obtain ⟨h2, hh2⟩ : ∃ h2, h2 = h1.push (.row [.int .i64 (g : Nat), .int .u64 0, .int .u64 0, .nilsl]) := ⟨_, rfl⟩
 have g2 : Ge h1 h2 := by rw [hh2]; exact (Ge.refl _).push _
 have w2 : h2.WF := by rw [hh2]; exact w1.push _
 have r2 : h2.get b = some (.row (rpC ⟨g, 0, 0, []⟩ .nilsl)) := by rw [hh2, hbd]; simp [rpC]
 have x2 := x1.ge w1 g2
 rw [za5 _ _ _ rfl, <- hh2, <- hbd]
 have lt1 := x1.lt w1
 have n2 : h2.next = h1.next + 1 := by rw [hh2]; simp
 obtain ⟨n, hnn⟩ : ∃ n, n = min l.length 50 := ⟨_, rfl⟩
 have gap36 : g ≤ 3600 := by omega
 refine zal (fun i t h' => (t 0 = .int .i64 gap ∧ t 1 = v ∧ t 5 = .ptr p 4 0 ∧ t 7 = .ptr b 4 0 ∧ t 9 = .int .i64 (i : Nat)) ∧ h'.WF ∧ h2.next ≤ h'.next ∧ (∀ k, k < h.next -> h'.get k = h.get k) ∧ ∃ P w es, PlInv h' p m b P w es i) n
  ⟨by simp, w2, Nat.le_refl _, fun k hk => by rw [g2.2 k (by have := g1.1; omega), g1.2 k hk], _, _, [], ⟨x2, r2, LfP.nil _ _, List.Pairwise.nil, by simp, gap36⟩⟩ ?_
 rintro i t h' hi ⟨⟨t0, t1, t5, t7, t9⟩, wb, nb, kb, P, w, es', pv⟩ K hK
 have gh' : Ge h h' := ⟨by have := g1.1; omega, kb⟩
 have sb := hs.sls.ge wf gh'
 have hl' := sb.len
 rw [hs.len] at hl'
 obtain ⟨x, rr, lr, rs, len, gp⟩ := pv
 have bne := zok x rr lr.nomap
 obtain ⟨lp, lm, lpm⟩ := x.lt wb
 have lb := wb.lt rr
 by_cases hlt : i < n
 ·have hlt1 : i < l.length := by omega
  have hlt2 : (i : Int) < 50 := by omega
  obtain ⟨a, ha⟩ : ∃ a, a = l[i] := ⟨_, rfl⟩
  obtain ⟨wL, ls, he, sL, cL, zL⟩ := hs.at' i a (by rw [ha]; exact List.getElem?_eq_getElem hlt1)
  have hna := hn a (by rw [ha]; exact List.getElem_mem hlt1)
  obtain ⟨pp, q, o, cs, f1, f2, f3, f4, f5, f6⟩ := hs.sls.atG wf (k := i) (by rw [hs.len]; exact hlt1)
  have hee : es[i]'(by rw [hs.len]; exact hlt1) = [.bool a.fire, .int .u64 (a.now : Nat), wL] := by rw [List.getElem?_eq_getElem (by rw [hs.len]; exact hlt1), Option.some.injEq] at he; exact he
  rw [hee] at f5 f6
  have i0 := f6 0 (by omega)
  have i1 := f6 1 (by omega)
  have i2 := f6 2 (by omega)
  simp at i0 i1 i2
  have f3' := f3 h' gh'
  have sL' := sL.ge wf gh'
  have lL := sL'.sls.len
  rw [sL'.len] at lL
  have bL := sL'.sls.bound
  rw [sL'.len] at bL
  obtain ⟨k20, hk20⟩ : ∃ k : Nat, k = min a.L.length 20 := ⟨_, rfl⟩
  obtain ⟨vL, eL, sT⟩ := sL'.take cL (k := k20) (by omega) .i64
  obtain ⟨L, hL⟩ : ∃ L, L = a.L.take k20 := ⟨_, rfl⟩
  rw [<- hL] at sT
  have hLl : L.length ≤ 20 := by rw [hL, List.length_take]; omega
  have zT : ∀ c ∈ L, AttSz c.att := fun c hc => zL c (by rw [hL] at hc; exact List.mem_of_mem_take hc)
  have mn : (if ((a.L.length : Nat) : Int) ≤ 20 then ((a.L.length : Nat) : Int) else 20) = (k20 : Int) := by split <;> omega
  have mn2 : (if (20 : Int) < ((a.L.length : Nat) : Int) then (20 : Int) else ((a.L.length : Nat) : Int)) = (k20 : Int) := by split <;> omega
  simp [t1, t9, hl', hlt1, hlt2]
  refine zaU ?_
  simp [t1, t9, f1, f3', i2, lL, mn2, eL]
  obtain ⟨n0, hn0⟩ : ∃ k, k = h'.next := ⟨_, rfl⟩
  obtain ⟨v9, e9, g9, a9, b9, f9⟩ := zdC wb zT
  refine ⟨fun r g => ∃ fs, Ge h' g ∧ g.WF ∧ LfP g (fun j => n0 ≤ j) r L fs, ⟨v9, g9, e9, a9, b9, f9.mono fun j _ hj => by omega⟩, zgH sT zT (by omega) fun r fs g a b f => ⟨fs, a, b, f.mono fun j _ hj => by omega⟩, ?_⟩
  rintro vi h3 ⟨fi, g3, w3, lfi⟩
  obtain ⟨n1, hn1⟩ : ∃ k, k = h3.next := ⟨_, rfl⟩
  have n3 := g3.1
  have ofi := lfi.one
  simp
  refine zgH (lfi.ls.at (by omega)) zT (by omega) fun vs fs h4 g4 w4 lfs => ?_
  obtain ⟨n2', hn2⟩ : ∃ k, k = h4.next := ⟨_, rfl⟩
  have n4 := g4.1
  have ofs := lfs.one
  have lfi4 : LfP h4 (fun j => n0 ≤ j ∧ j < n1) vi L fi := (lfi.mono (R' := fun j => n0 ≤ j ∧ j < n1) fun j hj hr => ⟨hr, by omega⟩).ge g4
  have lfs4 : LfP h4 (fun j => n1 ≤ j ∧ j < n2') vs L fs := lfs.mono fun j hj hr => ⟨by omega, by omega⟩
  have g34 : Ge h' h4 := g3.trans g4
  have gh4 : Ge h h4 := gh'.trans g34
  have x4 : PaceAt h4 (fun j => j < n0 ∨ n1 ≤ j) p m P := (x.mono fun j hj _ => .inl (by omega)).ge wb g34
  have r4 : h4.get b = some (.row (rpC P w)) := (g34.2 b lb).trans rr
  have l4 : LfP h4 (fun j => j < n0) w P.S es' := (lr.mono fun j hj _ => by omega).ge g34
  have f34 := f3 h4 gh4
  have c4 : zac h4.get b 4 = some (rpC P w) := (zad (n := 4) r4 rfl).trans rfl
  obtain ⟨J, hJ⟩ : ∃ J : Tm -> H -> Prop, J = fun t' g => (t' 0 = .int .i64 gap ∧ t' 1 = v ∧ t' 5 = .ptr p 4 0 ∧ t' 7 = .ptr b 4 0 ∧ t' 9 = .int .i64 (i : Nat) ∧ t' 10 = vi ∧ t' 11 = vs) ∧ g.WF ∧ n2' ≤ g.next ∧ (∀ k, k < n2' -> k ≠ p -> k ≠ m -> k ≠ b -> g.get k = h4.get k) ∧
   ∃ (n3 : Nat) (P2 : Pc) (out : List Chg) (err : Int) (wa wb' wq : V) (ea eb eq : List (List V)), t' 12 = wa ∧ t' 6 = .int .i64 err ∧ t' 13 = wb' ∧ t' 8 = .int .i64 err ∧ n2' ≤ n3 ∧ n3 ≤ g.next ∧ PaceAt g (fun j => j < n0 ∨ n1 ≤ j) p m P2 ∧ g.get b = some (.row (rpC P2 wq)) ∧ LsP g (fun j => n2' ≤ j ∧ j < n3) wa out ea ∧ LfP g (fun j => j < n0 ∨ n3 ≤ j) wb' out eb ∧ LfP g (fun j => j < n0 ∨ n3 ≤ j) wq P2.S eq ∧
    ActOk P2 out (20 * (i + 1)) := ⟨_, rfl⟩
  obtain ⟨now, hnow⟩ : ∃ k, k = a.now := ⟨_, rfl⟩
  rw [<- hnow] at i1 hna
  -- the reference's side of a round
  have reft : ∀ (g : H) (P2 : Pc) (out : List Chg) (err : Int) (wa : V) (ea : List (List V)), But h4 g p m -> g.WF -> PaceAt g (fun j => j < n0 ∨ n1 ≤ j) p m P2 -> LsP g (fun j => n2' ≤ j) wa out ea -> ActOk P2 out (20 * (i + 1)) ->
    ∀ (r : V) (g' : H), zkT (fun j => j < n0 ∨ g.next ≤ j) g P2 out err r g' -> ∃ wq wb' : V, r = .tup [.agg (rpC P2 wq), wb', .int .i64 err] ∧ wq.one = true ∧ wb'.one = true ∧ (∃ oo, g'.get b = some (.row oo) ∧ oo.length = 4) ∧ ∀ tt : Tm, (tt 0 = .int .i64 gap ∧ tt 1 = v ∧ tt 5 = .ptr p 4 0 ∧ tt 7 = .ptr b 4 0 ∧ tt 9 = .int .i64 (i : Nat) ∧ tt 10 = vi ∧ tt 11 = vs) -> tt 12 = wa -> tt 6 = .int .i64 err -> tt 13 = wb' -> tt 8 = .int .i64 err -> J tt (g'.set b (.row (rpC P2 wq))) := by
   rintro g P2 out err wa ea bt wg xg lg ao r g' ⟨wq, eq, wb', eb, rfl, gg, wg', lq, lo⟩
   have nb2 := bt.next
   have ng := gg.1
   have rg : g'.get b = some (.row (rpC P w)) := by rw [gg.2 b (by omega), bt.keep b (by omega) bne.1 bne.2]; exact r4
   refine ⟨wq, wb', rfl, lq.one, lo.one, ⟨_, rg, rfl⟩, fun tt rt e12 e6 e13 e8 => ?_⟩
   have ks : ∀ j, j ≠ b -> (g'.set b (.row (rpC P2 wq))).get j = g'.get j := fun j hj => by rw [H.get_set, if_neg hj]
   have kg : ∀ j sz cs, g'.get j = some (.grow sz cs) -> (g'.set b (.row (rpC P2 wq))).get j = some (.grow sz cs) := fun j sz cs e => by rw [ks j (fun e2 => by subst e2; rw [rg] at e; cases e)]; exact e
   obtain ⟨xp, xm, _⟩ := xg.lt wg
   rw [hJ]
   refine ⟨rt, wg'.set (by omega) _, by simp; omega, fun k hk k1 k2 k3 => ?_, g.next, P2, out, err, wa, wb', wq, ea, eb, eq, e12, e6, e13, e8, by omega, by simpa using ng, ?_, by simp, ?_, ?_, ?_, ao⟩
   ·rw [ks k k3, gg.2 k (by omega)]; exact bt.keep k (by omega) k1 k2
   ·refine (xg.ge wg gg).keep (by simp) (ks p (fun e => bne.1 e.symm)) (ks m (fun e => bne.2 e.symm)) fun j sz cs _ _ e => kg j sz cs e
   ·refine ((lg.mono (R' := fun j => n2' ≤ j ∧ j < g.next) fun j hj hr => ⟨hr, hj⟩).ge gg).keep (by simp) fun j hj _ => ks j (by omega)
   ·exact lo.keepG (by simp) fun j sz cs _ _ e => kg j sz cs e
   ·exact lq.keepG (by simp) fun j sz cs _ _ e => kg j sz cs e
  simp [t1, t9, f1, f34, i0]
  refine ziM J (fun e R hR => ?_) (fun e R hR => ?_) ?_
  ·obtain ⟨ok, hok⟩ : ∃ ok, ok = zbb P now := ⟨_, rfl⟩
   have ao := zmM (now := now) (n := 20 * (i + 1)) ok rs rs (by omega) (by omega) gp gp
   have pf := zeS (now := now) w4 x4 (by omega) gp hok
   simp [t1, t5, t9, f1, f34, i1]
   refine pf.mono ?_
   rintro _ g ⟨wa, ea, rfl, bt, wg, xg, lg⟩
   have nb2 := bt.next
   have ogw := lg.one
   have gg : Ge h g := ⟨by have := gh4.1; omega, fun k hk => by have := gh4.1; rw [bt.keep k (by omega) (by omega) (by omega)]; exact gh4.2 k hk⟩
   have f3g := f3 g gg
   have rg : g.get b = some (.row (rpC P w)) := by rw [bt.keep b (by omega) bne.1 bne.2]; exact r4
   have cg : zac g.get b 4 = some (rpC P w) := (zad (n := 4) rg rfl).trans rfl
   have lrg : LfP g (fun j => j < n0 ∨ g.next ≤ j) w P.S es' := (l4.mono (R' := fun j => j < n0 ∨ g.next ≤ j) fun j _ hr => .inl hr).keepG (by omega) fun j sz cs hr hj e => by
    rw [bt.keep j hj (fun e2 => by subst e2; rw [x4.row] at e; cases e) (fun e2 => by subst e2; obtain ⟨_, _, _, _, q1, _⟩ := x4.held; rw [q1] at e; cases e)]; exact e
   have rf := zfv (now := now) lrg gp
   rw [<- hok] at rf
   have rt := reft g _ _ (if ok = true then 0 else 2) wa ea bt wg xg (lg.mono fun j _ hr => by omega) ao
   obtain ⟨P2, hP2⟩ : ∃ P2, P2 = if ok = true then zba P now else P := ⟨_, rfl⟩
   obtain ⟨out, hout⟩ : ∃ out, out = if ok = true then zbl P now else [] := ⟨_, rfl⟩
   obtain ⟨er, her⟩ : ∃ er : Int, er = if ok = true then 0 else 2 := ⟨_, rfl⟩
   rw [<- hP2, <- hout, <- her] at rf rt
   rw [<- hP2] at xg ao
   rw [<- hout] at lg ao
   rw [<- her]
   have sat := zfA (R := fun j => j < n0 ∨ g.next ≤ j) wg (fun j hj => .inr hj) (P' := P2) (out := out) xg.szs lg.szs er
   simp only [rpC] at rf cg
   simp
   refine zaU ?_
   simp [t1, t7, t9, f1, f3g, i1, cg]
   refine ⟨_, sat, rf, ?_⟩
   intro r g' hr
   obtain ⟨wq, wb', rfl, o1, o2, ⟨oo, ho1, ho2⟩, fin⟩ := rt r g' hr
   simp only [rpC] at fin
   have od : oo.drop 4 = [] := List.drop_eq_nil_of_le (by omega)
   simp [ho1, ho2, o1, rpC, t7, od]
   refine hR _ _ ?_
   refine fin _ ?_ ?_ ?_ ?_ ?_
   ·simp [t0, t1, t5, t7, t9]
   ·simp
   ·simp
   ·simp
   ·simp
  ·obtain ⟨ok, hok⟩ : ∃ ok, ok = (zbb P now && L.all za1) := ⟨_, rfl⟩
   have hfl := zdX L P.S
   have ao := zmM (now := now) (P3 := zbe P L) (n := 20 * (i + 1)) ok rs (zft rs L) (by omega) (by show (L.foldl putC P.S).length ≤ _; omega) gp gp
   have pf := zl9 (now := now) w4 x4 (fun j hj => .inr (by omega)) (v := vi) (L := L) (es := fi) (fun h9 bt => (lfi4.keepG bt.next fun j sz cs hr hj e => by
    rw [bt.keep j hj (fun e2 => by subst e2; rw [x4.row] at e; cases e) (fun e2 => by subst e2; obtain ⟨_, _, _, _, q1, _⟩ := x4.held; rw [q1] at e; cases e)]; exact e).ls.at (by omega)) (by omega) gp hok
   simp [t1, t5, t9, f1, f34, i1]
   refine pf.mono ?_
   rintro _ g ⟨wa, ea, rfl, bt, wg, xg, lg⟩
   have nb2 := bt.next
   have ogw := lg.one
   have gg : Ge h g := ⟨by have := gh4.1; omega, fun k hk => by have := gh4.1; rw [bt.keep k (by omega) (by omega) (by omega)]; exact gh4.2 k hk⟩
   have f3g := f3 g gg
   have rg : g.get b = some (.row (rpC P w)) := by rw [bt.keep b (by omega) bne.1 bne.2]; exact r4
   have cg : zac g.get b 4 = some (rpC P w) := (zad (n := 4) rg rfl).trans rfl
   have lrg : LfP g (fun j => j < n0 ∨ g.next ≤ j) w P.S es' := (l4.mono (R' := fun j => j < n0 ∨ g.next ≤ j) fun j _ hr => .inl hr).keepG (by omega) fun j sz cs hr hj e => by
    rw [bt.keep j hj (fun e2 => by subst e2; rw [x4.row] at e; cases e) (fun e2 => by subst e2; obtain ⟨_, _, _, _, q1, _⟩ := x4.held; rw [q1] at e; cases e)]; exact e
   have lsg : LfP g (fun j => n1 ≤ j ∧ j < n2') vs L fs := lfs4.keepG (by omega) fun j sz cs hr hj e => by
    rw [bt.keep j hj (fun e2 => by subst e2; rw [x4.row] at e; cases e) (fun e2 => by subst e2; obtain ⟨_, _, _, _, q1, _⟩ := x4.held; rw [q1] at e; cases e)]; exact e
   have rf := zjK (now := now) lrg (fun j hj => .inr hj) rs (lsg.ls.at (by omega)) (by omega) gp hok
   have rt := reft g _ _ (if ok = true then 0 else 2) wa ea bt wg xg (lg.mono fun j _ hr => by omega) ao
   obtain ⟨P2, hP2⟩ : ∃ P2, P2 = if ok = true then zba (zbe P L) now else P := ⟨_, rfl⟩
   obtain ⟨out, hout⟩ : ∃ out, out = if ok = true then zbl (zbe P L) now else [] := ⟨_, rfl⟩
   obtain ⟨er, her⟩ : ∃ er : Int, er = if ok = true then 0 else 2 := ⟨_, rfl⟩
   rw [<- hP2, <- hout, <- her] at rf rt
   rw [<- hP2] at xg ao
   rw [<- hout] at lg ao
   rw [<- her]
   have sat := zfA (R := fun j => j < n0 ∨ g.next ≤ j) wg (fun j hj => .inr hj) (P' := P2) (out := out) xg.szs lg.szs er
   simp only [rpC] at rf cg
   simp
   refine zaU ?_
   simp [t1, t7, t9, f1, f3g, i1, cg]
   refine ⟨_, sat, rf, ?_⟩
   intro r g' hr
   obtain ⟨wq, wb', rfl, o1, o2, ⟨oo, ho1, ho2⟩, fin⟩ := rt r g' hr
   simp only [rpC] at fin
   have od : oo.drop 4 = [] := List.drop_eq_nil_of_le (by omega)
   simp [ho1, ho2, o1, rpC, t7, od]
   refine hR _ _ ?_
   refine fin _ ?_ ?_ ?_ ?_ ?_
   ·simp [t0, t1, t5, t7, t9]
   ·simp
   ·simp
   ·simp
   ·simp
  ·rintro t2 h5 hJ2
   rw [hJ] at hJ2
   obtain ⟨⟨u0, u1, u5, u7, u9, u10, u11⟩, w5, nb5, k5, nn3, P2, out, err, wa, wb', wq, ea, eb, eq, u12, u6, u13, u8, m1, m2, x5, r5, la, lo, lq, ao⟩ := hJ2
   have lfi5 : LfP h5 (fun j => n0 ≤ j ∧ j < n1) vi L fi := lfi4.keep (by omega) fun j hj _ => k5 j (by omega) (by omega) (by omega) (by omega)
   have lfs5 : LfP h5 (fun j => n1 ≤ j ∧ j < n2') vs L fs := lfs4.keep (by omega) fun j hj _ => k5 j (by omega) (by omega) (by omega) (by omega)
   have aol := ao.olen
   have aol2 := ao.len
   simp [u12, u13]
   refine zbS (la.at (by omega)) (lo.ls.at (by omega)) _ ?_
   simp [u6, u8, u10, u11]
   refine zbS (lfi5.ls.at (by omega)) (lfs5.ls.at (by omega)) _ ?_
   simp [u10]
   refine zd3 lfi5.ls (by omega) fun h6 s6 => ?_
   have n6 := s6.next
   have x6 := x5.sp s6 (fun j hj => by omega)
   have r6 := s6.row r5 (by simp)
   have la6 := la.sp s6 (fun j hj => by omega)
   have lq6 := lq.sp s6 (fun j hj => by omega)
   obtain ⟨A, hA, la7, x7'⟩ : ∃ A : Nat -> Prop, (∀ j, A j -> n2' ≤ j ∧ j < nn3) ∧ LsP h6 A wa out ea ∧ PaceAt h6 (fun j => ¬ A j) p m P2 := by
    rcases ao.or' with e | e
    ·refine ⟨fun _ => False, fun j hj => hj.elim, ?_, x6.mono fun _ _ _ => id⟩
     rw [e] at la6 ⊢
     exact la6.none
    ·exact ⟨_, fun j hj => hj, la6, x6.none e⟩
   simp [u12]
   refine zd3 la7 (by omega) fun h7 s7 => ?_
   have n7 := s7.next
   have x7 : PaceAt h7 (fun _ => True) p m P2 := (x7'.sp s7 fun j hj => hj).mono fun _ _ _ => trivial
   have r7 := s7.row r6 (by simp)
   have lq7 := lq6.sp s7 (fun j hj hj2 => by have := hA j hj2; omega)
   have c7 : zac h7.get b 4 = some (rpC P2 wq) := (zad (n := 4) r7 rfl).trans rfl
   have rd := zjP lq7
   simp only [rpC] at c7 rd
   simp [u5]
   refine zjZ x7 _ ?_
   simp [u7, c7]
   refine rd _ ?_
   simp [u5]
   refine zeQ x7 (by omega) fun w8 e8 h8 g8 w8' l8 => ?_
   have n8 := g8.1
   have x8 := x7.ge s7.wf g8
   have r8 := (g8.2 b (s7.wf.lt r7)).trans r7
   have lq8 := lq7.ge g8
   have c8 : zac h8.get b 4 = some (rpC P2 wq) := (zad (n := 4) r8 rfl).trans rfl
   have oq := lq8.one
   simp only [rpC] at c8
   simp [eqB, u7, c8]
   refine zbS (l8.at (by omega)) (lq8.ls.at (by omega)) _ ?_
   simp
   refine zd3 (l8.mono (R' := fun j => h7.next ≤ j ∧ j < h8.next) fun j hj hr => ⟨hr, hj⟩) (by omega) fun h9 s9 => ?_
   have n9 := s9.next
   have x9 : PaceAt h9 (fun _ => True) p m P2 := ((x7.mono (R' := fun j => j < h7.next) fun j hj _ => hj).ge s7.wf g8 |>.sp s9 fun j hj => by omega).mono fun _ _ _ => trivial
   have r9 := s9.row r8 (by simp)
   have lq9 : LfP h9 (fun j => j < h7.next) wq P2.S eq := ((lq7.mono (R' := fun j => j < h7.next) fun j hj _ => hj).ge g8).sp s9 fun j hj => by omega
   have c9 : zac h9.get b 4 = some (rpC P2 wq) := (zad (n := 4) r9 rfl).trans rfl
   obtain ⟨v9', e9', g9', a9', b9', f9'⟩ := zdC s9.wf x9.szs
   have lt9 := s9.wf.lt r9
   simp only [rpC] at c9
   refine zcI [b] [0, 1, 0, 2, 0, 0] rfl (by rfl) ?_
   simp [u5, I.foot]
   refine ⟨by decide, fun w g => ∃ e, Ge h9 g ∧ g.WF ∧ LsP g (fun j => h9.next ≤ j) w P2.S e, ⟨v9', g9', e9', a9', b9', f9'.ls⟩, zeQ x9 (by omega) fun w e g a b f => ⟨e, a, b, f⟩, ?_⟩
   rintro wh hA' ⟨eh, gA, wA, lA⟩
   refine ⟨fun _ => fun k hk => ?_, ?_⟩
   ·simp only [List.mem_cons, List.not_mem_nil, or_false] at hk
    subst hk; exact gA.2 _ lt9
   have rA := (gA.2 b lt9).trans r9
   have cA : zac hA'.get b 4 = some (rpC P2 wq) := (zad (n := 4) rA rfl).trans rfl
   have lqA := lq9.ge gA
   simp only [rpC] at cA
   have rsA := zbS (lA.at (by omega)) (lqA.ls.at (by omega))
   simp [u7, I.foot, za3, cA]
   refine zbC rsA (by decide) (fun e => by cases e) ?_
   have hw := zam hlt (by omega : n < 9223372036854775808)
   simp [u9, hw]
   have nA := gA.1
   refine hK _ hA' hlt ?_
   refine ⟨by simp [u0, u1, u5, u7], wA, by omega, fun k hk => ?_, P2, wq, eq, (x9.ge s9.wf gA), rA, (lqA.mono fun _ _ _ => trivial), ao.rise, ao.len, ao.gap⟩
   have := gh4.1
   have : k < n0 := by omega
   rw [gA.2 k (by omega), s9.out (by omega), g8.2 k (by omega), s7.out (fun hj => by have := hA k hj; omega), s6.out (by omega), k5 k (by omega) (by omega) (by omega) (by omega)]
   exact gh4.2 k hk
 ·have hi2 : i = n := by omega
  have lx := len
  have cx := fun Q q => zll (Q := Q) x q
  have finish : ∀ (tt : Tm), tt 5 = .ptr p 4 0 -> tt 7 = .ptr b 4 0 -> True := fun _ _ _ => trivial
  by_cases hl1 : i < l.length
  ·have hl2 : ¬ (i : Int) < 50 := by omega
   simp [t1, t5, t9, hl', hl1, hl2]
   refine cx _ fun h3 p' m' g3 w3 q1 q2 y3 => ?_
   have eqp : eqV TS.ptr (.ptr p' 4 0) .nilptr = some false := rfl
   simp [eqp]
   refine (zeS (now := 1099511627776) w3 y3 (by omega) gp rfl).mono ?_
   rintro _ h5 ⟨wa, ea, rfl, b5, w5, y5, l5⟩
   have n3 := g3.1
   have n5 := b5.next
   have k5 : ∀ k, k < h'.next -> h5.get k = h'.get k := fun k hk => by rw [b5.keep k (by omega) (by omega) (by omega), g3.2 k hk]
   have gg5 : Ge h' h5 := ⟨by omega, k5⟩
   have x5 := x.ge wb gg5
   have r5 := (gg5.2 b lb).trans rr
   have l5' := lr.ge gg5
   have c5 : zac h5.get b 4 = some (rpC P w) := (zad (n := 4) r5 rfl).trans rfl
   obtain ⟨v9', e9', g9', a9', b9', f9'⟩ := zdC w5 x5.szs
   have lt5 := w5.lt r5
   simp only [rpC] at c5
   simp
   refine zcI [b] [0, 1, 0, 2, 0, 0, 0, 0, 0] rfl (by rfl) ?_
   simp [t5, I.foot]
   refine ⟨by decide, fun w g => ∃ e, Ge h5 g ∧ g.WF ∧ LsP g (fun j => h5.next ≤ j) w P.S e, ⟨v9', g9', e9', a9', b9', f9'.ls⟩, zeQ x5 (by omega) fun w e g a b f => ⟨e, a, b, f⟩, ?_⟩
   rintro wh hA' ⟨eh, gA, wA, lA⟩
   refine ⟨fun _ => fun k hk => ?_, ?_⟩
   ·simp only [List.mem_cons, List.not_mem_nil, or_false] at hk
    subst hk; exact gA.2 _ lt5
   have rA := (gA.2 b lt5).trans r5
   have cA : zac hA'.get b 4 = some (rpC P w) := (zad (n := 4) rA rfl).trans rfl
   have lqA := l5'.ge gA
   simp only [rpC] at cA
   have rsA := zbS (lA.at (by omega)) (lqA.ls.at (by omega))
   simp [t7, I.foot, za3, cA]
   refine zbC rsA (by decide) (fun e => by cases e) ?_
   simp
   refine zmA (by simp) ?_
   simp
   refine zbC (zge hA') (by decide) (fun e => by cases e) ?_
   simp
   exact gh'.trans (gg5.trans gA)
  ·simp [t1, t5, t9, hl', hl1]
   refine cx _ fun h3 p' m' g3 w3 q1 q2 y3 => ?_
   have eqp : eqV TS.ptr (.ptr p' 4 0) .nilptr = some false := rfl
   simp [eqp]
   refine (zeS (now := 1099511627776) w3 y3 (by omega) gp rfl).mono ?_
   rintro _ h5 ⟨wa, ea, rfl, b5, w5, y5, l5⟩
   have n3 := g3.1
   have n5 := b5.next
   have k5 : ∀ k, k < h'.next -> h5.get k = h'.get k := fun k hk => by rw [b5.keep k (by omega) (by omega) (by omega), g3.2 k hk]
   have gg5 : Ge h' h5 := ⟨by omega, k5⟩
   have x5 := x.ge wb gg5
   have r5 := (gg5.2 b lb).trans rr
   have l5' := lr.ge gg5
   have c5 : zac h5.get b 4 = some (rpC P w) := (zad (n := 4) r5 rfl).trans rfl
   obtain ⟨v9', e9', g9', a9', b9', f9'⟩ := zdC w5 x5.szs
   have lt5 := w5.lt r5
   simp only [rpC] at c5
   simp
   refine zcI [b] [0, 1, 0, 2, 0, 0, 0, 0, 0] rfl (by rfl) ?_
   simp [t5, I.foot]
   refine ⟨by decide, fun w g => ∃ e, Ge h5 g ∧ g.WF ∧ LsP g (fun j => h5.next ≤ j) w P.S e, ⟨v9', g9', e9', a9', b9', f9'.ls⟩, zeQ x5 (by omega) fun w e g a b f => ⟨e, a, b, f⟩, ?_⟩
   rintro wh hA' ⟨eh, gA, wA, lA⟩
   refine ⟨fun _ => fun k hk => ?_, ?_⟩
   ·simp only [List.mem_cons, List.not_mem_nil, or_false] at hk
    subst hk; exact gA.2 _ lt5
   have rA := (gA.2 b lt5).trans r5
   have cA : zac hA'.get b 4 = some (rpC P w) := (zad (n := 4) rA rfl).trans rfl
   have lqA := l5'.ge gA
   simp only [rpC] at cA
   have rsA := zbS (lA.at (by omega)) (lqA.ls.at (by omega))
   simp [t7, I.foot, za3, cA]
   refine zbC rsA (by decide) (fun e => by cases e) ?_
   simp
   refine zmA (by simp) ?_
   simp
   refine zbC (zge hA') (by decide) (fun e => by cases e) ?_
   simp
   exact gh'.trans (gg5.trans gA)
end Go.Am

namespace Go.Am
open Go.Proofs

structure ChIn (g : Nat -> Option O) (c : Chg) (e : List V) : Prop where
 ch : ∃ vp vc vx vl vk, e = chC c vp vc vx vl vk ∧ AttIn g c.att vp vc vx vl vk
 rd : c.n.p.rd < 18446744073709551616
 addr : c.n.p.addr.length ≤ maxLen
 fam : (Lit.int .i64 c.n.p.fam).wf = true
 len : (Lit.int .i64 c.n.p.len).wf = true
 id : c.n.id < 4294967296
 label : c.n.label < 4294967296
theorem ChIn.at {g : Nat -> Option O} {c : Chg} {e : List V} (x : ChIn g c e) : ChA g c e := by
 obtain ⟨vp, vc, vx, vl, vk, a, b⟩ := x.ch
 exact ⟨vp, vc, vx, vl, vk, a, b.at'⟩
theorem ChIn.sz {g : Nat -> Option O} {c : Chg} {e : List V} (x : ChIn g c e) : AttSz c.att := by
 obtain ⟨vp, vc, vx, vl, vk, a, b⟩ := x.ch
 exact b.sz
def chgL : List Dl := .lf .bool :: .lf (.int .i64) :: .lf (.int .u64) :: .lf .str :: .lf (.int .i64) :: .lf (.int .u32) :: .lf (.int .u32) :: attL
theorem zqA {g : Nat -> Option O} {e : List V} (h : Dls.ok g chgL e) : ∃ c, ChIn g c e := by
 obtain ⟨v1, r1, rfl, ⟨b1, rfl⟩, v2, r2, rfl, ⟨n2, rfl, f2⟩, v3, r3, rfl, h3, v4, r4, rfl, ⟨s4, rfl, f4⟩, v5, r5, rfl, ⟨n5, rfl, f5⟩, v6, r6, rfl, h6, v7, r7, rfl, h7, h8⟩ := h
 obtain ⟨n3, rfl, f3⟩ := zcr zkQ h3
 obtain ⟨n6, rfl, f6⟩ := zcr zcs h6
 obtain ⟨n7, rfl, f7⟩ := zcr zcs h7
 obtain ⟨a, vp, vc, vx, vl, vk, r, rfl, ai, hr⟩ := zpl (rest := []) (by simpa using h8)
 obtain rfl : r = [] := hr
 exact ⟨⟨b1, ⟨⟨n2, n3, s4, n5⟩, n6, n7⟩, a⟩, ⟨vp, vc, vx, vl, vk, by simp [chC, attC], ai⟩, f3, f4, f2, f5, f6, f7⟩
theorem zkf {g : Nat -> Option O} : ∀ (ess : List (List V)), (∀ es ∈ ess, Dls.ok g chgL es) -> ∃ L : List Chg, ess.length = L.length ∧ ∀ (i : Nat) (c : Chg), L[i]? = some c -> ∃ e, ess[i]? = some e ∧ ChIn g c e
 | [], _ => ⟨[], rfl, by simp⟩
 | es :: ess, h => by
  obtain ⟨L, e1, e2⟩ := zkf ess fun e he => h e (List.mem_cons_of_mem _ he)
  obtain ⟨c, hc⟩ := zqA (h es (by simp))
  refine ⟨c :: L, by simp [e1], fun i x hi => ?_⟩
  cases i with
  | zero => simp at hi; subst hi; exact ⟨es, rfl, hc⟩
  | succ i => simpa using e2 i x (by simpa using hi)
structure CsIn (g : Nat -> Option O) (v : V) (L : List Chg) (es : List (List V)) : Prop where
 sls : Sls g 23 v es
 cap : zcp v
 len : es.length = L.length
 at' : ∀ (i : Nat) (c : Chg), L[i]? = some c -> ∃ e, es[i]? = some e ∧ ChIn g c e
theorem CsIn.cs {g : Nat -> Option O} {v : V} {L : List Chg} {es : List (List V)} (s : CsIn g v L es) : CsAt g v L es :=
 ⟨s.sls, s.len, fun i c hi => by obtain ⟨e, a, b⟩ := s.at' i c hi; exact ⟨e, a, b.at⟩⟩
theorem CsIn.all {g : Nat -> Option O} {v : V} {L : List Chg} {es : List (List V)} (s : CsIn g v L es) : ∀ c ∈ L, ∃ e, ChIn g c e := fun c hc => by
 obtain ⟨i, hi, rfl⟩ := List.mem_iff_getElem.1 hc
 obtain ⟨e, _, b⟩ := s.at' i _ (List.getElem?_eq_getElem hi)
 exact ⟨e, b⟩
theorem zr2 {g : Nat -> Option O} {v : V} (h : Dl.ok g (.sl 240 chgL) v) : ∃ L es, CsIn g v L es := by
 obtain ⟨ess, s, c, d, q⟩ := h
 obtain ⟨L, e1, e2⟩ := zkf ess q
 exact ⟨L, ess, s, c, e1, e2⟩
def zpD : List Dl := [.lf .bool, .lf (.int .u64), .sl 240 chgL]
def zrJ : Dl := .sl 40 zpD
theorem zgy {g : Nat -> Option O} : ∀ (ess : List (List V)), (∀ es ∈ ess, Dls.ok g zpD es) -> ∃ l : List PAct, ess.length = l.length ∧ (∀ (i : Nat) (a : PAct), l[i]? = some a -> ∃ w ls, ess[i]? = some [.bool a.fire, .int .u64 (a.now : Nat), w] ∧ CsIn g w a.L ls) ∧ ∀ a ∈ l, a.now < 18446744073709551616
 | [], _ => ⟨[], rfl, by simp, by simp⟩
 | es :: ess, h => by
  obtain ⟨l, e1, e2, e3⟩ := zgy ess fun e he => h e (List.mem_cons_of_mem _ he)
  obtain ⟨v1, r1, rfl, ⟨b1, rfl⟩, v2, r2, rfl, h2, v3, r3, rfl, h3, rfl⟩ := h es (by simp)
  obtain ⟨n2, rfl, f2⟩ := zcr zkQ h2
  obtain ⟨L, ls, cs⟩ := zr2 h3
  refine ⟨⟨b1, n2, L⟩ :: l, by simp [e1], fun i x hi => ?_, fun x hx => ?_⟩
  ·cases i with
   | zero => simp at hi; subst hi; exact ⟨v3, ls, rfl, cs⟩
   | succ i => simpa using e2 i x (by simpa using hi)
  ·rcases List.mem_cons.1 hx with rfl | hx
   ·exact f2
   ·exact e3 x hx
theorem zq8 {g : Nat -> Option O} {v : V} (h : Dl.ok g zrJ v) : ∃ l es, PActs g v l es ∧ ∀ a ∈ l, a.now < 18446744073709551616 := by
 obtain ⟨ess, s, c, d, q⟩ := h
 obtain ⟨l, e1, e2, e3⟩ := zgy ess q
 refine ⟨l, ess, ⟨s, e1, fun i a hi => ?_⟩, e3⟩
 obtain ⟨w, ls, a1, a2⟩ := e2 i a hi
 exact ⟨w, ls, a1, a2.cs, a2.cap, fun c hc => by obtain ⟨_, x⟩ := a2.all c hc; exact x.sz⟩
end Go.Am
