/-
 PC5, PL0, PC6, PC7, PC8, PP0, PP1, PP2, PP3, PP4, PP5, PC9, PP6, PN, PN1, in one text.
-/
import Derived.Test.YtpgcodeckphanaaGreatDoorHMC
import Derived.Test.YtpgcodeckphanaaGreatDoorHMA
import Derived.Test.YtpgcodeckphanaaGreatDoorHAm32
import Derived.Test.YtpgcodeckphanaaGreatDoorHShS
import Derived.Test.YtpgcodeckphanaaGreatDoorHAm40
import Derived.Test.YtpgcodeckphanaaGreatDoorHMB
import Derived.Test.YtpgcodeckphanaaGreatDoorHAm37
import Derived.Test.YtpgcodeckphanaaGreatDoorHAmL
import Derived.Test.YtpgcodeckphanaaGreatDoorHAm21
import Derived.Test.YtpgcodeckphanaaGreatDoorHAm36
import Derived.Test.YtpgcodeckphanaaGreatDoorHQwTab
import Derived.KernelRfl
import Derived.Test.YtpgcodeckphanaaGreatDoorHShC
import Derived.Test.YtpgcodeckphanaaGreatDoorHAm47
namespace Go.Am
open Go.Proofs

set_option maxRecDepth 100000
theorem zo8 {h : H} {q : Nat} {a b : Int} (hq : h.get q = some (.row [.int .i64 a, .int .i64 b])) : Pure Tryz.prog 80 [.sl q 2 0 2 (some 2)] h (.int .i64 (orI a b)) := by
 refine zae Tryz.func80 S.a37c S.a37e rfl (Nat.le_of_ble_eq_true rfl) fun wf => ?_; simp only [S.a37]
 have c1 : zac h.get q 2 = some [.int .i64 a, .int .i64 b] := by rw [zaf hq (by rfl)]; rfl
 simp
 refine zaO (fun i t h' => (t 3 = .int .i64 0 ∧ t 6 = .sl q 2 0 2 (some 2) ∧ t 7 = .int .i64 2 ∧ t 8 = .int .i64 (i : Nat)) ∧ h = h' ∧ (0 < i -> a = 0) ∧ (1 < i -> b = 0)) 2 ⟨by simp, rfl, by omega, by omega⟩ ?_
 rintro i t h' hi ⟨⟨t3, t6, t7, t8⟩, rfl, k1, k2⟩ K hK
 have w1 : IntKind.i64.wrap 1 = 1 := by decide
 have w2 : IntKind.i64.wrap 2 = 2 := by decide
 rcases (by omega : i = 0 ∨ i = 1 ∨ i = 2) with rfl | rfl | rfl
 ·by_cases hz : a = 0
  ·simp [t3, t6, t7, t8, c1, hz, w1]
   exact hK _ _ (by omega) ⟨by simp [t3, t6, t7], rfl, fun _ => hz, by omega⟩
  ·have hb : (a != 0) = true := by simpa using hz
   simp [t3, t6, t7, t8, c1, hb, zcr hz]
 ·have z1 := k1 (by omega)
  by_cases hz : b = 0
  ·simp [t3, t6, t7, t8, c1, hz, w2]
   exact hK _ _ (by omega) ⟨by simp [t3, t6, t7], rfl, fun _ => z1, fun _ => hz⟩
  ·have hb : (b != 0) = true := by simpa using hz
   simp [t3, t6, t7, t8, c1, hb, z1, zbc]
 ·have z1 := k1 (by omega)
  have z2 := k2 (by omega)
  simp [t3, t7, t8, z1, z2, zbc]
theorem zkV {h : H} {a b : Chg} {vp vc vx vl vk wp wc wx wl wk : V} (o1 : vp.one = true) (o2 : vc.one = true) (o3 : vx.one = true) (o4 : vl.one = true) (o5 : vk.one = true) (p1 : wp.one = true) (p2 : wc.one = true) (p3 : wx.one = true) (p4 : wl.one = true) (p5 : wk.one = true) :
  Pure Tryz.prog 79 [.agg (chC a vp vc vx vl vk), .agg (chC b wp wc wx wl wk)] h (.int .i64 (cmpC a b)) := by
 refine zae Tryz.func79 S.a36c S.a36e rfl (Nat.le_of_ble_eq_true rfl) fun wf => ?_; simp only [S.a36]
 obtain ⟨h2, hh2⟩ : ∃ h2, h2 = (h.push (.row (chC a vp vc vx vl vk))).push (.row (chC b wp wc wx wl wk)) := ⟨_, rfl⟩
 have g2 : Ge h h2 := by rw [hh2]; exact ((Ge.refl _).push _).push _
 have n01 : ¬ h.next = h.next + 1 := by omega
 have c1 : zac h2.get h.next 23 = some (chC a vp vc vx vl vk) := by rw [hh2]; simp [chC]
 have c2 : zac h2.get (h.next + 1) 23 = some (chC b wp wc wx wl wk) := by rw [hh2]; simp [chC]
 simp only [chC] at hh2 c1 c2 ⊢
 simp [o1, o2, o3, o4, o5, p1, p2, p3, p4, p5]
 rw [<- hh2]
 have r2 : zaj 2 [V.int .i64 0] = [.int .i64 0, .int .i64 0] := rfl
 refine zfh _ zmo (by rfl) ?_
 simp [List.lookup, c1, c2, zmI]
 refine zij (zo8 (q := h2.next) (a := cmp4 a.n.p.fam a.n.p.rd a.n.p.len b.n.p.fam b.n.p.rd b.n.p.len a.n.p.addr b.n.p.addr) (b := cmpI a.n.id b.n.id) (by simp [r2])) ?_
 simp [cmpC, zjy, zaH, zjx, cmp4]
 exact g2.push _
open Go.Sort in
theorem swo_c : SWO (ltOf cmpC) := by
 refine ⟨fun x => ?_, fun x y z h1 h2 => ?_, fun x y z h1 h2 => ?_⟩
 ·simp [ltOf, ordr_c.self x]
 ·simp only [ltOf, decide_eq_true_eq] at *
  exact ordr_c.down _ _ _ h1 h2
 ·simp only [ltOf, decide_eq_false_iff_not] at *
  intro h
  have a := ordr_c.anti x y
  rcases Int.lt_trichotomy (cmpC y x) 0 with k | k | k
  ·exact h2 (ordr_c.down y x z k h)
  ·have := ordr_c.same y x z k; omega
  ·omega
theorem zjt : ∀ {ds : List (List V)} {sz : Nat} (_ : ∀ e ∈ ds, e.length = sz) {k : Nat} (_ : k < ds.length) {e : List V} (_ : e.length = sz), ds.flatten.take (k * sz) ++ (e ++ ds.flatten.drop (k * sz + sz)) = (ds.set k e).flatten := by
 intro ds sz hs k hk e he
 have e1 := zeE hs k
 have e2 := zeu hs (k + 1)
 rw [Nat.add_mul, Nat.one_mul] at e2
 rw [List.set_eq_take_append_cons_drop, if_pos hk, List.flatten_append, List.flatten_cons, e1, e2]
open Go.Sort in
theorem zk8 {h : H} {j : Nat} {ca : Option Nat} {l : List (Chg × List V)} {o : O} (hg : h.get j = some o) (ho : o = .row (l.map Prod.snd).flatten ∨ o = .grow 23 (l.map Prod.snd).flatten) (he : ∀ x ∈ l, ∃ vp vc vx vl vk, x.2 = chC x.1 vp vc vx vl vk ∧ vp.one = true ∧ vc.one = true ∧ vx.one = true ∧ vl.one = true ∧ vk.one = true) (hl : l.length ≤ 1000000) (hne : l ≠ []) {g : FuncId} (heg : zaa Tryz.prog g = true)
  (hcmp : ∀ (a b : Chg) (h' : H), Pure Tryz.prog g [.agg (chC a .any .any .any .any .any), .agg (chC b .any .any .any .any .any)] h' (.int .i64 (cmpC a b))) {Q : V -> H -> Prop}
  (q : ∀ l' : List (Chg × List V), l'.Perm l -> l'.Pairwise (fun x y => ¬ cmpC y.1 x.1 < 0) -> Q (.tup []) (h.set j (match o with | .row _ => .row (l'.map Prod.snd).flatten | _ => .grow 23 (l'.map Prod.snd).flatten))) :
  Acalls Tryz.prog 78 [.sl j (l.length * 23) 0 l.length ca, .func (.func g) [] []] h Q := by
 have h23 : ∀ {m : List (Chg × List V)}, (∀ x ∈ m, x ∈ l) -> ∀ e ∈ m.map Prod.snd, e.length = 23 := fun hm e hx => by
  obtain ⟨x, hx1, rfl⟩ := List.mem_map.1 hx
  obtain ⟨_, _, _, _, _, e, _⟩ := he x (hm x hx1)
  rw [e]; rfl
 have hfl := zau (h23 (m := l) fun x hx => hx)
 simp only [List.length_map] at hfl
 have hone : ∀ e ∈ l.map Prod.snd, e.all V.one = true := fun e hx => by
  obtain ⟨x, hx1, rfl⟩ := List.mem_map.1 hx
  obtain ⟨_, _, _, _, _, e, o1, o2, o3, o4, o5⟩ := he x hx1
  rw [e]; simp [chC, o1, o2, o3, o4, o5]
 have oc : o.cells = (l.map Prod.snd).flatten := by rcases ho with rfl | rfl <;> simp
 have orr : o.rowish = true := by rcases ho with rfl | rfl <;> rfl
 have ol : o.len = l.length * 23 := by rcases ho with rfl | rfl <;> simpa using hfl
 have S : SortIn h j (l.length * 23) 0 23 (l.map Prod.snd) o := ⟨hg, orr, ol, by rw [oc]; simp [hfl], by rw [oc]; simp only [List.drop_zero, List.length_map]; rw [<- hfl, List.take_length], h23 fun x hx => hx, hone⟩
 refine zks Tryz.sort78 (F := 78) (g := g) (k := 23) rfl (by kernel_rfl) Tryz.isAgg48 Tryz.sizeOf48 (by decide) S (encV := Prod.snd) (shV := fun x => chC x.1 .any .any .any .any .any) (cmpB := fun x y => cmpC x.1 y.1) ⟨fun x => swo_c.irrefl _, fun x y z => swo_c.trans _ _ _, fun x y z => swo_c.ntrans _ _ _⟩ (fun x hx => ?_) heg rfl (by omega) (List.length_pos_iff.2 hne) (fun x _ y _ h' => hcmp x.1 y.1 h') (fun l' o' hp hs hput => ?_)
 ·obtain ⟨vp, vc, vx, vl, vk, e, o1, o2, o3, o4, o5⟩ := he x hx
  rw [e]
  have nr : ∀ v : V, v.ids = [] -> Weak v v := fun v hv => .inr ⟨rfl, hv⟩
  have an : ∀ v : V, v.one = true -> Weak v .any := fun v hv => .inl ⟨rfl, hv⟩
  exact .cons (nr _ rfl) (.cons (nr _ rfl) (.cons (nr _ rfl) (.cons (nr _ rfl) (.cons (nr _ rfl) (.cons (nr _ rfl) (.cons (nr _ rfl) (.cons (nr _ rfl) (.cons (an _ o1) (.cons (nr _ rfl) (.cons (nr _ rfl) (.cons (nr _ rfl) (.cons (nr _ rfl) (.cons (nr _ rfl) (.cons (nr _ rfl) (.cons (nr _ rfl) (.cons (nr _ rfl) (.cons (an _ o2) (.cons (an _ o3) (.cons (an _ o4) (.cons (nr _ rfl) (.cons (nr _ rfl) (.cons (an _ o5) .nil))))))))))))))))))))))
 ·have hfl' := zau (h23 (m := l') fun x hx => hp.mem_iff.1 hx)
  simp only [List.length_map] at hfl'
  have hle := hp.length_eq
  have hs' : l'.Pairwise (fun x y => ¬ cmpC y.1 x.1 < 0) := hs.imp fun {a b} h => by simpa [ltOf] using h
  have hQ := q l' hp hs'
  rcases ho with rfl | rfl
  ·have e : o' = .row (l'.map Prod.snd).flatten := by
    rw [zg3, if_pos (by rw [hfl', hfl, hle]; omega)] at hput
    cases hput
    unfold putCells
    rw [List.take_zero, List.nil_append, Nat.zero_add, hfl', hle, <- hfl, List.drop_length, List.append_nil]
   rw [e]; exact hQ
  ·have e : o' = .grow 23 (l'.map Prod.snd).flatten := by
    rw [zhJ, if_pos (by rw [hfl', hfl, hle]; omega)] at hput
    cases hput
    unfold putCells
    rw [List.take_zero, List.nil_append, Nat.zero_add, hfl', hle, <- hfl, List.drop_length, List.append_nil]
   rw [e]; exact hQ
end Go.Am

namespace Go.Am

structure Pc where
 gap : Nat
 op : Nat
 last : Nat
 S : List Chg
def zch (P : Pc) (now : Nat) : Bool := !(decide (now < P.op) || decide (P.S = []))
def zdd (P : Pc) (now : Nat) : Pc := if zch P now = true then ⟨P.gap, now + P.gap, now, []⟩ else ⟨P.gap, P.op, now, P.S⟩
def zdo (P : Pc) (now : Nat) : List Chg := if zch P now = true then P.S else []
def zct (P : Pc) (l : List Chg) : Pc := ⟨P.gap, P.op, P.last, l.foldl putC P.S⟩
structure Stp where
 key : Nat
 wait : Nat
 gone : Bool
 fire : Bool
def attM (i : Nat) : Att := ⟨0, [], [], true, i, false, 0, false, 0, 0, [], [], [], false, 0, []⟩
def nlOf (k : Nat) : Nl := ⟨⟨1, 0, [UInt8.ofNat (10 + k % 4), 0, 0, 0], 8⟩, k % 8 / 4, 0⟩
def ze6 (x : Stp) (i : Nat) : Chg := ⟨x.gone, nlOf x.key, if x.gone = true then att0 else attM i⟩
def ixOf (c : Chg) : Nat := ((c.n.p.addr.getD 0 0).toNat - 10) + 4 * c.n.id
theorem zif (x : Stp) (i : Nat) : ixOf (ze6 x i) = x.key % 8 := by
 have : (UInt8.ofNat (10 + x.key % 4)).toNat = 10 + x.key % 4 := by
  rw [UInt8.toNat_ofNat']; omega
 simp only [ixOf, ze6, nlOf, List.getD_cons_zero, this]
 omega
theorem zmT {x y : Stp} {i j : Nat} (h : x.key % 8 = y.key % 8) : zaH (ze6 x i) = zaH (ze6 y j) := by
 have h1 : x.key % 4 = y.key % 4 := by omega
 simp only [zaH, ze6, nlOf, h, h1]
def zov (l : List Stp) (put sent : Nat -> Nat) (c : Chg) : Prop := ∃ k x, k < 8 ∧ put k ≠ sent k ∧ l[put k - 1]? = some x ∧ x.key % 8 = k ∧ c = ze6 x (put k - 1)
structure PInv (g : Nat) (l : List Stp) (i : Nat) (P : Pc) (put sent : Nat -> Nat) : Prop where
 gap : P.gap = g
 le : ∀ k, k < 8 -> sent k ≤ put k
 pl : ∀ k, k < 8 -> put k ≤ i
 pk : ∀ k, k < 8 -> 0 < put k -> ∃ x, l[put k - 1]? = some x ∧ x.key % 8 = k
 rise : Rise cmpC P.S
 mem : ∀ c, c ∈ P.S ↔ zov l put sent c
theorem PInv.zero (g : Nat) (l : List Stp) (op last : Nat) : PInv g l 0 ⟨g, op, last, []⟩ (fun _ => 0) (fun _ => 0) :=
 ⟨rfl, fun _ _ => Nat.le_refl _, fun _ _ => Nat.le_refl _, fun _ _ h => by omega, List.Pairwise.nil, fun c => ⟨fun h => (by cases h), fun ⟨_, _, _, h, _⟩ => absurd rfl h⟩⟩
def upAt (f : Nat -> Nat) (j v : Nat) : Nat -> Nat := fun k => if k = j then v else f k
theorem zcu (f : Nat -> Nat) (j v : Nat) : upAt f j v j = v := by simp [upAt]
theorem zeX (f : Nat -> Nat) {j k : Nat} (v : Nat) (h : k ≠ j) : upAt f j v k = f k := by simp [upAt, h]
theorem PInv.put {g i : Nat} {l : List Stp} {P : Pc} {put sent : Nat -> Nat} (v : PInv g l i P put sent) {x : Stp} (hx : l[i]? = some x) :
  PInv g l (i + 1) (zct P [ze6 x i]) (upAt put (x.key % 8) (i + 1)) sent := by
 refine ⟨v.gap, fun k hk => ?_, fun k hk => ?_, fun k hk hp => ?_, zdq v.rise, fun c => ?_⟩
 ·have := v.le k hk
  have := v.pl k hk
  unfold upAt
  split <;> omega
 ·have := v.pl k hk
  unfold upAt
  split <;> omega
 ·by_cases e : k = x.key % 8
  ·subst e; rw [zcu]; exact ⟨x, by simpa using hx, rfl⟩
  ·rw [zeX _ _ e] at hp ⊢; exact v.pk k hk hp
 ·show c ∈ putC P.S (ze6 x i) ↔ _
  rw [zed v.rise]
  constructor
  ·rintro (rfl | ⟨hc, hne⟩)
   ·refine ⟨x.key % 8, x, Nat.mod_lt _ (by decide), ?_, by rw [zcu]; simpa using hx, rfl, by rw [zcu]; simp⟩
    have := v.le (x.key % 8) (Nat.mod_lt _ (by decide))
    have := v.pl (x.key % 8) (Nat.mod_lt _ (by decide))
    rw [zcu]; omega
   ·obtain ⟨k, y, hk, h1, h2, h3, rfl⟩ := (v.mem c).1 hc
    have hkx : k ≠ x.key % 8 := fun e => hne (zmT (h3.trans e))
    exact ⟨k, y, hk, by rw [zeX _ _ hkx]; exact h1, by rw [zeX _ _ hkx]; exact h2, h3, by rw [zeX _ _ hkx]⟩
  ·rintro ⟨k, y, hk, h1, h2, h3, rfl⟩
   by_cases e : k = x.key % 8
   ·subst e
    rw [zcu] at h2 ⊢
    simp only [Nat.add_sub_cancel, hx, Option.some.injEq] at h2
    subst h2
    exact .inl (by simp)
   ·rw [zeX _ _ e] at h1 h2 ⊢
    refine .inr ⟨(v.mem _).2 ⟨k, y, hk, h1, h2, h3, rfl⟩, fun e2 => e ?_⟩
    have a := zif y (put k - 1)
    have b := zif x i
    unfold ixOf at a b
    simp only [zaH, Ky.mk.injEq] at e2
    rw [e2.1, e2.2] at a
    omega
theorem PInv.up {g i : Nat} {l : List Stp} {P : Pc} {put sent : Nat -> Nat} (v : PInv g l i P put sent) : PInv g l (i + 1) P put sent :=
 ⟨v.gap, v.le, fun k hk => Nat.le_succ_of_le (v.pl k hk), v.pk, v.rise, v.mem⟩
def zj8 (put : Nat -> Nat) (sent : Nat -> Nat) (m : List Chg) : Nat -> Nat := fun k => if k ∈ m.map ixOf then put k else sent k
theorem PInv.one {g i : Nat} {l : List Stp} {P : Pc} {put sent : Nat -> Nat} (v : PInv g l i P put sent) {c : Chg} (hc : c ∈ P.S) :
  ixOf c < 8 ∧ 0 < put (ixOf c) ∧ put (ixOf c) ≤ i ∧ put (ixOf c) ≠ sent (ixOf c) ∧ ∃ x, l[put (ixOf c) - 1]? = some x ∧ x.key % 8 = ixOf c ∧ c = ze6 x (put (ixOf c) - 1) := by
 obtain ⟨k, x, hk, h1, h2, h3, rfl⟩ := (v.mem c).1 hc
 rw [zif, h3]
 have := v.le k hk
 exact ⟨hk, by omega, v.pl k hk, h1, x, h2, h3, rfl⟩
theorem PInv.ix_nodup {g i : Nat} {l : List Stp} {P : Pc} {put sent : Nat -> Nat} (v : PInv g l i P put sent) : (P.S.map ixOf).Nodup := by
 unfold List.Nodup
 rw [List.pairwise_map]
 refine v.rise.imp_of_mem fun {a b} ha hb hab e => ?_
 obtain ⟨_, _, _, _, x, hx, _, ea⟩ := v.one ha
 obtain ⟨_, _, _, _, y, hy, _, eb⟩ := v.one hb
 rw [e, hy] at hx
 cases hx
 have : a = b := by rw [ea, eb, e]
 subst this
 have := ordr_c.self a
 omega
theorem PInv.ix_mem {g i : Nat} {l : List Stp} {P : Pc} {put sent : Nat -> Nat} (v : PInv g l i P put sent) {k : Nat} (hk : k < 8) : k ∈ P.S.map ixOf ↔ put k ≠ sent k := by
 constructor
 ·intro h
  obtain ⟨c, hc, rfl⟩ := List.mem_map.1 h
  exact (v.one hc).2.2.2.1
 ·intro h
  have h0 : 0 < put k := by have := v.le k hk; omega
  obtain ⟨x, hx, e⟩ := v.pk k hk h0
  refine List.mem_map.2 ⟨ze6 x (put k - 1), (v.mem _).2 ⟨k, x, hk, h, hx, e, rfl⟩, ?_⟩
  rw [zif, e]
theorem PInv.count {g i : Nat} {l : List Stp} {P : Pc} {put sent : Nat -> Nat} (v : PInv g l i P put sent) : P.S.length = ((List.range 8).filter fun k => decide (put k ≠ sent k)).length := by
 have : (P.S.map ixOf).Perm ((List.range 8).filter fun k => decide (put k ≠ sent k)) := by
  refine (List.perm_ext_iff_of_nodup v.ix_nodup (List.nodup_range.filter _)).2 fun k => ?_
  rw [List.mem_filter, decide_eq_true_eq, List.mem_range]
  constructor
  ·intro h
   obtain ⟨c, hc, rfl⟩ := List.mem_map.1 h
   have := v.one hc
   exact ⟨this.1, this.2.2.2.1⟩
  ·exact fun ⟨h1, h2⟩ => (v.ix_mem h1).2 h2
 rw [<- this.length_eq, List.length_map]
theorem PInv.gone {g i : Nat} {l : List Stp} {P : Pc} {put sent : Nat -> Nat} (v : PInv g l i P put sent) (op last : Nat) : PInv g l i ⟨P.gap, op, last, []⟩ put (zj8 put sent P.S) := by
 refine ⟨v.gap, fun k hk => ?_, v.pl, v.pk, List.Pairwise.nil, fun c => ⟨fun h => (by cases h), ?_⟩⟩
 ·have := v.le k hk
  unfold zj8
  split <;> omega
 ·rintro ⟨k, x, hk, h1, _⟩
  unfold zj8 at h1
  split at h1
  ·exact absurd rfl h1
  ·rename_i h2
   exact absurd ((v.ix_mem hk).2 h1) h2
theorem PInv.with {g i : Nat} {l : List Stp} {P : Pc} {put sent : Nat -> Nat} (v : PInv g l i P put sent) (op last : Nat) : PInv g l i ⟨P.gap, op, last, P.S⟩ put sent := ⟨v.gap, v.le, v.pl, v.pk, v.rise, v.mem⟩
end Go.Am

namespace Go.Am
open Go.Proofs

set_option maxRecDepth 100000
theorem zpy {h : H} : Pure Tryz.prog 149 [.int .u64 0] h (.int .i64 0) := by
 refine zae Tryz.func149 S.a65c S.a65e rfl (Nat.le_of_ble_eq_true rfl) fun wf => ?_; simp only [S.a65]
 have w : IntKind.u8.wrap 0 = 0 := by decide
 have w2 : IntKind.i64.wrap 0 = 0 := by decide
 simp [w, w2]
theorem lenz {h : H} : Pure Tryz.prog 115 [.int .u64 0] h (.int .i64 0) := by
 refine zae Tryz.func115 S.a57c S.a57e rfl (Nat.le_of_ble_eq_true rfl) fun wf => ?_; simp only [S.a57]
 simp
 refine zpy _ ?_
 simp
theorem zpm {h : H} {v c : V} : Pure Tryz.prog 140 [v, .int .i64 0, .int .i64 0, c] h (.tup []) := by
 refine zae Tryz.func140 S.a64c S.a64e rfl (Nat.le_of_ble_eq_true rfl) fun wf => ?_; simp only [S.a64]
 have w : IntKind.i64.wrap 1 = 1 := by decide
 simp [w]
 refine zaO (fun i t h' => (t 2 = .int .i64 0 ∧ t 8 = .int .i64 1) ∧ h' = h) 0 ⟨by simp, rfl⟩ ?_
 rintro i t h' hi ⟨⟨t2, t8⟩, rfl⟩ K hK
 simp [t2, t8]
theorem pdqz {h : H} {v lim c : V} : Pure Tryz.prog 114 [v, .int .i64 0, .int .i64 0, lim, c] h (.tup []) := by
 refine zae Tryz.func114 S.a56c S.a56e rfl (Nat.le_of_ble_eq_true rfl) fun wf => ?_; simp only [S.a56]
 have w : IntKind.i64.wrap 0 = 0 := by decide
 simp
 refine zaO (fun i t h' => (t 0 = v ∧ t 1 = .int .i64 0 ∧ t 2 = .int .i64 0 ∧ t 4 = c) ∧ h' = h) 0 ⟨by simp, rfl⟩ ?_
 rintro i t h' hi ⟨⟨t0, t1, t2, t4⟩, rfl⟩ K hK
 simp [t0, t1, t2, t4, w]
 refine zpm _ ?_
 simp
theorem zqX {h : H} {v c : V} (hv : ∀ g, lenV 1 g v = some (.int .i64 0)) : Pure Tryz.prog 78 [v, c] h (.tup []) := by
 refine zae Tryz.func78 S.a35c S.a35e rfl (Nat.le_of_ble_eq_true rfl) fun wf => ?_; simp only [S.a35]
 have w : IntKind.u64.wrap 0 = 0 := by decide
 simp [hv, w]
 refine lenz _ ?_
 simp
 refine pdqz _ ?_
 simp

theorem zgG {S : List Chg} (hk : zbN S) (hw : S.Pairwise fun x y => ¬ cmpC y x < 0) : Rise cmpC S := by
 unfold zbN List.Nodup at hk
 rw [List.pairwise_map] at hk
 refine (hk.and hw).imp fun {a b} h => ?_
 have h1 := ordr_c.anti a b
 have h2 : cmpC a b ≠ 0 := fun e => h.1 (zgZ e)
 have := h.2
 omega
def HeldAt (h : H) (R : Nat -> Prop) (m : Nat) (S : List Chg) : Prop := ∃ es bs tk L, h.get m = some (.mapo es bs tk) ∧ MapB es bs tk ∧ Srt L S ∧ es.length = L.length ∧ ∀ (i : Nat) (c : Chg), L[i]? = some c -> ∃ e, es[i]? = some (kyV (zaH c), .agg e) ∧ ChP h R c e
structure PaceAt (h : H) (R : Nat -> Prop) (p m : Nat) (P : Pc) : Prop where
 row : h.get p = some (.row [.int .i64 (P.gap : Nat), .int .u64 (P.op : Nat), .int .u64 (P.last : Nat), .map m])
 held : HeldAt h R m P.S
theorem HeldAt.keep {h h' : H} {R : Nat -> Prop} {m : Nat} {S : List Chg} (x : HeldAt h R m S) (hn : h.next ≤ h'.next) (hm : h'.get m = h.get m) (k : ∀ j s cs, R j -> j < h.next -> h.get j = some (.grow s cs) -> h'.get j = some (.grow s cs)) : HeldAt h' R m S := by
 obtain ⟨es, bs, tk, L, a, b, c, d, e⟩ := x
 exact ⟨es, bs, tk, L, hm.trans a, b, c, d, fun i q hi => by obtain ⟨e1, h1, h2⟩ := e i q hi; exact ⟨e1, h1, h2.keep hn k⟩⟩
theorem HeldAt.mono {h : H} {R R' : Nat -> Prop} {m : Nat} {S : List Chg} (x : HeldAt h R m S) (k : ∀ j, j < h.next -> R j -> R' j) : HeldAt h R' m S := by
 obtain ⟨es, bs, tk, L, a, b, c, d, e⟩ := x
 exact ⟨es, bs, tk, L, a, b, c, d, fun i q hi => by obtain ⟨e1, h1, h2⟩ := e i q hi; exact ⟨e1, h1, h2.mono k⟩⟩
theorem HeldAt.len {h : H} {R : Nat -> Prop} {m : Nat} {S : List Chg} (x : HeldAt h R m S) (g : Nat -> Option O) (hg : g m = h.get m) : lenV 2 g (.map m) = some (.int .i64 (S.length : Nat)) := by
 obtain ⟨es, bs, tk, L, a, b, c, d, e⟩ := x
 simp [lenV, hg, a, d, c.perm.length_eq]
theorem zfL {h : H} {R : Nat -> Prop} {p m : Nat} {P : Pc} (x : PaceAt h R p m P) : Pure Tryz.prog 75 [.ptr p 4 0] h (.bool false) := by
 refine zae Tryz.func75 S.a32c S.a32e rfl (Nat.le_of_ble_eq_true rfl) fun wf => ?_; simp only [S.a32]
 have c : zac h.get p 4 = some [.int .i64 (P.gap : Nat), .int .u64 (P.op : Nat), .int .u64 (P.last : Nat), .map m] := (zaf (n := 4) x.row rfl).trans rfl
 simp [c, eqV]
theorem zeT {ds : List (List V)} {n sz : Nat} (h1 : ds.length = n) (h2 : ∀ e ∈ ds, e.length = sz) : ds.flatten.length = n * sz := by rw [<- h1]; exact zau h2
def chg0 : Chg := ⟨false, ⟨zq8, 0, 0⟩, att0⟩
theorem zj7 {h : H} {R : Nat -> Prop} {p m : Nat} {P : Pc} (x : PaceAt h R p m P) (hb : P.S.length ≤ 100000) {Q : V -> H -> Prop} (q : ∀ w es h', Ge h h' -> h'.WF -> LsP h' (fun j => h.next ≤ j) w P.S es -> Q w h') : Acalls Tryz.prog 33 [.ptr p 4 0] h Q := by
 refine zan Tryz.func33 S.a6c S.a6e (Nat.le_of_ble_eq_true rfl) fun wf => ?_; simp only [S.a6]
 have c : zac h.get p 4 = some [.int .i64 (P.gap : Nat), .int .u64 (P.op : Nat), .int .u64 (P.last : Nat), .map m] := (zaf (n := 4) x.row rfl).trans rfl
 obtain ⟨es, bs, tk, L, hm, mb, srt, hel, hent⟩ := x.held
 have hLl : L.length = P.S.length := srt.perm.length_eq
 simp
 refine zfL x _ ?_
 simp [c]
 refine ziN fun _ => ?_
 obtain ⟨h1, hh1⟩ : ∃ h1, h1 = h.push (.row [.map m]) := ⟨_, rfl⟩
 have g1 : Ge h h1 := by rw [hh1]; exact (Ge.refl _).push _
 have w1 : h1.WF := by rw [hh1]; exact wf.push _
 have n1 : h1.next = h.next + 1 := by rw [hh1]; simp
 have b1 : h1.get h.next = some (.row [.map m]) := by rw [hh1]; simp
 have m1 : h1.get m = some (.mapo es bs tk) := (g1.2 _ (wf.lt hm)).trans hm
 rw [<- hh1]
 have hes : ∀ (i : Nat) (y : V × V), es[i]? = some y -> ∃ e, y.2 = .agg e ∧ ChO e := fun i y hy => by
  have hil := (List.getElem?_eq_some_iff.1 hy).1
  obtain ⟨e, e1, vp, vc, vx, vl, vk, e2, e3⟩ := hent i (L[i]'(by omega)) (List.getElem?_eq_getElem _)
  rw [hy, Option.some.injEq] at e1
  obtain ⟨o1, o2, o3, o4, o5⟩ := e3.one
  exact ⟨e, by rw [e1], _, vp, vc, vx, vl, vk, e2, o1, o2, o3, o4, o5⟩
 simp
 refine ziz b1 m1 mb hes (by omega) fun v1 dn h2 g2 w2 hp gl => ?_
 obtain ⟨n, hn⟩ : ∃ n, n = es.length := ⟨_, rfl⟩
 rw [<- hn] at hp
 have hdl : dn.length = n := by rw [hp.length_eq]; simp
 have hdi : ∀ k, k < n -> ∃ i, dn[k]? = some i ∧ i < n := fun k hk => by
  refine ⟨dn[k]'(by omega), List.getElem?_eq_getElem _, ?_⟩
  have := hp.mem_iff.1 (List.getElem_mem (l := dn) (n := k) (by omega))
  simpa using this
 obtain ⟨M, hM⟩ : ∃ M : List Chg, M = dn.map fun i => L.getD i chg0 := ⟨_, rfl⟩
 obtain ⟨cs, hcs⟩ : ∃ cs, cs = dn.map (zc5 es) := ⟨_, rfl⟩
 have hMl : M.length = n := by rw [hM]; simpa using hdl
 have hcl : cs.length = n := by rw [hcs]; simpa using hdl
 have hMp : M.Perm L := by rw [hM]; exact zjO hp (by omega) chg0
 have at1 : ∀ k, k < n -> ∃ c e, M[k]? = some c ∧ cs[k]? = some e ∧ ChP h R c e := fun k hk => by
  obtain ⟨i, hi, hin⟩ := hdi k hk
  obtain ⟨e, e1, e2⟩ := hent i (L[i]'(by omega)) (List.getElem?_eq_getElem _)
  refine ⟨L[i]'(by omega), e, ?_, ?_, e2⟩
  ·simp [hM, List.getElem?_map, hi, List.getElem?_eq_getElem (show i < L.length by omega)]
  ·simp [hcs, List.getElem?_map, hi, zgQ e1]
 have c23 : ∀ e ∈ cs, e.length = 23 := fun e he => by
  obtain ⟨k, hk, rfl⟩ := List.mem_iff_getElem.1 he
  obtain ⟨_, e, _, e2, e3⟩ := at1 k (by omega)
  rw [List.getElem?_eq_getElem hk, Option.some.injEq] at e2
  rw [e2]; exact e3.at.len
 have cO : ∀ e ∈ cs, e.all V.one = true := fun e he => by
  obtain ⟨k, hk, rfl⟩ := List.mem_iff_getElem.1 he
  obtain ⟨_, e, _, e2, e3⟩ := at1 k (by omega)
  rw [List.getElem?_eq_getElem hk, Option.some.injEq] at e2
  rw [e2]; exact e3.at.ones
 rw [<- hcs] at gl
 have sl := gl.sls c23 (by omega)
 have hlen := sl.len
 rw [hcl] at hlen
 have hmk : zbF h2.next 23 240 chZ (.int .i64 (n : Nat)) (.int .i64 (n : Nat)) = some (.sl h2.next (n * 23) 0 n (some n), .push (.row (zaj n chZ))) := by
  have hc : (0 : Int) ≤ (n : Nat) ∧ ((n : Nat) : Int) ≤ (n : Nat) ∧ ((240 : Nat) : Int) * (n : Nat) ≤ 140737488355328 ∧ ((n : Nat) : Int) ≤ 9223372036854775807 := by omega
  simp only [zbF, if_pos hc, Int.toNat_natCast]
 simp only [chZ] at hmk
 simp [hlen, hmk]
 obtain ⟨h3, hh3⟩ : ∃ h3, h3 = h2.push (.row (zaj n chZ)) := ⟨_, rfl⟩
 have g3 : Ge h2 h3 := by rw [hh3]; exact (Ge.refl _).push _
 have w3 : h3.WF := by rw [hh3]; exact w2.push _
 have n3 : h3.next = h2.next + 1 := by rw [hh3]; simp
 have hfl := zeT hcl c23
 have hrl : (zaj n chZ).length = n * 23 := by simp [zaj, chZ]
 have x3 : h3.get h2.next = some (.row (zaj n chZ)) := by rw [hh3]; simp
 obtain ⟨D, hD, x4, k4, n4, w4⟩ : ∃ D, ze9 h3.get 23 (.sl h2.next (n * 23) 0 n (some n)) v1 = some (.int .i64 (n : Nat), D) ∧ (h3.app D).get h2.next = some (.row cs.flatten) ∧ (∀ k, k ≠ h2.next -> (h3.app D).get k = h3.get k) ∧ (h3.app D).next = h3.next ∧ (h3.app D).WF := by
  have rd := (sl.ge w2 g3).read
  rw [hcl] at rd
  by_cases h0 : n = 0
  ·have hc0 : cs = [] := List.length_eq_zero_iff.1 (by omega)
   refine ⟨.keep, ?_, ?_, fun _ _ => rfl, rfl, w3⟩
   ·unfold ze9; rw [rd]; simp [h0]
   ·show h3.get h2.next = _
    rw [x3, hc0, h0]; simp [zaj]
  ·refine ⟨.set h2.next (.row cs.flatten), ?_, by simp, fun k hk => by simp [hk], by simp, w3.set (by omega) _⟩
   unfold ze9
   rw [rd]
   have hall : (cs.flatten.take (n * 23)).all V.one = true := by
    rw [<- hfl, List.take_length, List.all_flatten]
    exact List.all_eq_true.2 fun e he => cO e he
   simp only [Nat.min_self]
   rw [if_neg h0, if_pos hall, x3]
   simp only [zj6, hrl, if_true, zg3]
   rw [if_pos (by rw [<- hfl, List.take_length]; omega)]
   simp only [Option.map_some, Option.some.injEq, Prod.mk.injEq, true_and]
   congr 2
   unfold putCells
   rw [<- hfl, List.take_length, List.take_zero, List.nil_append, Nat.zero_add, hfl, <- hrl, List.drop_length, List.append_nil]
 obtain ⟨h4, hh4⟩ : ∃ h4, h4 = h3.app D := ⟨_, rfl⟩
 rw [<- hh4] at x4 k4 n4 w4
 simp only [chZ] at hh3
 rw [<- hh3]
 simp [hD]
 rw [<- hh4]
 have nlt : n < 9223372036854775808 := by omega
 obtain ⟨j, hj⟩ : ∃ j, j = h2.next := ⟨_, rfl⟩
 rw [<- hj] at x4 k4 n3 x3 ⊢
 have hn2 := g2.1
 have base : ∀ k, k < h2.next -> h4.get k = h2.get k := fun k hk => (k4 k (by omega)).trans (g3.2 k hk)
 have gh2 : Ge h h2 := g1.trans g2
 refine zaO (fun i t h' => (t 4 = .sl j (n * 23) 0 n (some n) ∧ t 21 = .int .i64 (n : Nat) ∧ t 22 = .int .i64 (i : Nat)) ∧ h'.WF ∧ h4.next ≤ h'.next ∧ (∀ k, k < h2.next -> h'.get k = h2.get k) ∧ ∃ ds, h'.get j = some (.row ds.flatten) ∧ ds.length = n ∧ (∀ e ∈ ds, e.length = 23) ∧ (∀ k, k < n -> k < i -> ∃ c e, M[k]? = some c ∧ ds[k]? = some e ∧ ChP h' (fun y => h.next ≤ y) c e) ∧ ∀ k, i ≤ k -> ds[k]? = cs[k]?) n
  ⟨by simp, w4, Nat.le_refl _, base, cs, x4, hcl, c23, fun k _ hk => by omega, fun _ _ => rfl⟩ ?_
 rintro i t h' hi ⟨⟨t4, t21, t22⟩, wb, nb, kb, ds, xd, dl, d23, da, db⟩ K hK
 have dfl := zeT dl d23
 have hjn : j < h'.next := by omega
 have gh' : Ge h h' := ⟨by have := gh2.1; omega, fun k hk => (kb k (by have := gh2.1; omega)).trans (gh2.2 k hk)⟩
 by_cases hlt : i < n
 ·have hw := zaZ hlt nlt
  obtain ⟨c, e, m1', m2, m3⟩ := at1 i hlt
  obtain ⟨vp, vc, vx, vl, vk, rfl, ap⟩ := m3
  have hde : ds[i]? = some (chC c vp vc vx vl vk) := (db i (Nat.le_refl _)).trans m2
  have hdi' : ds[i]'(by omega) = chC c vp vc vx vl vk := by rw [List.getElem?_eq_getElem (by omega), Option.some.injEq] at hde; exact hde
  have hld : (ds.flatten.drop (i * 23)).take 23 = chC c vp vc vx vl vk := by rw [zdQ d23 (by omega), hdi']
  have cd : zac h'.get j (n * 23) = some ds.flatten := by rw [zaf xd (by simpa using dfl)]; simp
  have hi23 : i * 23 + 23 ≤ n * 23 := by omega
  have hix : ∀ kd, zaA 23 (.sl j (n * 23) 0 n (some n)) (.int kd (i : Int)) = some (.ptr j (n * 23) (i * 23)) := fun kd => by
   simp only [zbC, Int.toNat_natCast]
   rw [if_pos ⟨by omega, by omega⟩]; simp
  have A' := ap.at.ge wf gh'
  have ow := fun Q q => zjk (Q := Q) A' ap.sz q
  simp only [chC] at hld ow
  simp [t4, t21, t22, hlt, hix, cd, hld, dfl, hi23]
  refine ow _ fun wp wc wx wl wk h5 g5 w5 F5 => ?_
  obtain ⟨f1, f2, f3, f4, f5⟩ := F5.one
  have x5 : h5.get j = some (.row ds.flatten) := (g5.2 j hjn).trans xd
  simp [hix, x5, dfl, hi23, f1, f2, f3, f4, f5]
  simp [t22, hw]
  obtain ⟨e', he'⟩ : ∃ e', e' = chC c wp wc wx wl wk := ⟨_, rfl⟩
  have fp := zjt d23 (k := i) (by omega) (e := e') (by rw [he']; rfl)
  rw [he'] at fp
  simp only [chC, List.cons_append, List.nil_append] at fp
  rw [fp]
  have e2' : chC c wp wc wx wl wk = e' := he'.symm
  simp only [chC] at e2'
  rw [e2']
  obtain ⟨hF, hhF⟩ : ∃ hF, hF = h5.set j (.row (ds.set i e').flatten) := ⟨_, rfl⟩
  rw [<- hhF]
  have n5 := g5.1
  have kF : ∀ k, k ≠ j -> hF.get k = h5.get k := fun k hk => by rw [hhF, H.get_set, if_neg hk]
  have nF : hF.next = h5.next := by rw [hhF]; simp
  have keepF : ∀ {c : Chg} {e : List V}, ChP h5 (fun y => h.next ≤ y) c e -> ChP hF (fun y => h.next ≤ y) c e := fun f => f.keep (by omega) fun k s' c' _ hk hg => by rw [kF k (fun e => by subst e; rw [x5] at hg; cases hg)]; exact hg
  refine hK _ _ hlt ⟨by simp [t4, t21], by rw [hhF]; exact w5.set (by omega) _, by omega, fun k hk => ?_, ds.set i e', by rw [hhF]; simp, by simpa using dl, fun e he => ?_, fun k hk hki => ?_, fun k hk => ?_⟩
  ·rw [kF k (by omega), g5.2 k (by omega)]; exact kb k hk
  ·rcases List.mem_or_eq_of_mem_set he with he | rfl
   ·exact d23 e he
   ·rw [he']; rfl
  ·by_cases hkk : k = i
   ·subst hkk
    refine ⟨c, e', m1', by rw [List.getElem?_set_self (by omega)], keepF ⟨wp, wc, wx, wl, wk, he', F5.p.mono fun y _ hy => ?_⟩⟩
    have := gh'.1
    omega
   ·obtain ⟨c1, e1, a1, a2, a3⟩ := da k hk (by omega)
    exact ⟨c1, e1, a1, by rw [List.getElem?_set_ne (by omega)]; exact a2, keepF (a3.ge g5)⟩
  ·rw [List.getElem?_set_ne (by omega)]; exact db k (by omega)
 ·have hi2 : i = n := by omega
  subst hi2
  simp [t4, t21, t22]
  -- the list, told with its changes
  have key : ∀ k, k < i -> ∃ c e, M[k]? = some c ∧ ds[k]? = some e ∧ ChP h' (fun y => h.next ≤ y) c e := fun k hk => da k hk hk
  obtain ⟨l, hl⟩ : ∃ l, l = M.zip ds := ⟨_, rfl⟩
  have ll : l.length = i := by rw [hl, List.length_zip, hMl, dl]; simp
  have l1 : l.map Prod.fst = M := by rw [hl]; exact List.map_fst_zip (by omega)
  have l2 : l.map Prod.snd = ds := by rw [hl]; exact List.map_snd_zip (by omega)
  have hel2 : ∀ y ∈ l, ChP h' (fun y => h.next ≤ y) y.1 y.2 := fun y hy => by
   obtain ⟨k, hk, rfl⟩ := List.mem_iff_getElem.1 hy
   obtain ⟨c, e, a1, a2, a3⟩ := key k (by omega)
   have b1 : (l.map Prod.fst)[k]? = some l[k].1 := by rw [List.getElem?_map, List.getElem?_eq_getElem hk]; rfl
   have b2 : (l.map Prod.snd)[k]? = some l[k].2 := by rw [List.getElem?_map, List.getElem?_eq_getElem hk]; rfl
   rw [l1, a1] at b1
   rw [l2, a2] at b2
   cases b1
   cases b2
   exact a3
  have hS : ∀ l' : List (Chg × List V), l'.Perm l -> l'.Pairwise (fun x y => ¬ cmpC y.1 x.1 < 0) -> l'.map Prod.fst = P.S := fun l' hp' hs => by
   have p1 : (l'.map Prod.fst).Perm L := ((hp'.map Prod.fst).trans (by rw [l1])).trans hMp
   have k1 : zbN (l'.map Prod.fst) := by
    have := srt.keys
    unfold zbN at this ⊢
    exact (p1.map zaH).nodup_iff.2 this
   exact Srt.uniq ⟨p1.symm, zgG k1 (by rw [List.pairwise_map]; exact hs)⟩ srt
  by_cases h0 : i = 0
  ·have hl0 : l = [] := List.length_eq_zero_iff.1 (by omega)
   have hS0 : P.S = [] := by have := hS [] (by rw [hl0]) List.Pairwise.nil; simpa using this.symm
   refine zqX (fun g => by simp [lenV, h0]) _ ?_
   simp [t4]
   refine q _ [] h' gh' wb ?_
   rw [hS0, h0]
   exact ⟨.inl ⟨rfl, .inr ⟨j, by simp⟩⟩, rfl, by simp⟩
  ·have heL : ∀ y ∈ l, ∃ vp vc vx vl vk, y.2 = chC y.1 vp vc vx vl vk ∧ vp.one = true ∧ vc.one = true ∧ vx.one = true ∧ vl.one = true ∧ vk.one = true := fun y hy => by
    obtain ⟨vp, vc, vx, vl, vk, e, A⟩ := hel2 y hy
    obtain ⟨o1, o2, o3, o4, o5⟩ := A.one
    exact ⟨vp, vc, vx, vl, vk, e, o1, o2, o3, o4, o5⟩
   have hlL : l.length ≤ 1000000 := by omega
   have hneL : l ≠ [] := fun e => by rw [e] at ll; simp at ll; omega
   have hcm : ∀ (a b : Chg) (h' : H), Pure Tryz.prog 79 [.agg (chC a .any .any .any .any .any), .agg (chC b .any .any .any .any .any)] h' (.int .i64 (cmpC a b)) := fun a b h' => zkV rfl rfl rfl rfl rfl rfl rfl rfl rfl rfl
   have hcall : ∀ Q : V -> H -> Prop, (∀ l' : List (Chg × List V), l'.Perm l -> l'.Pairwise (fun x y => ¬ cmpC y.1 x.1 < 0) -> Q (.tup []) (h'.set j (.row (l'.map Prod.snd).flatten))) -> Acalls Tryz.prog 78 [.sl j (l.length * 23) 0 l.length (some i), .func (.func 79) [] []] h' Q := fun Q hQ =>
    zk8 xd (.inl (by rw [l2])) heL hlL hneL (by kernel_rfl) hcm hQ
   rw [ll] at hcall
   refine hcall _ fun l' hp' hs => ?_
   simp [t4]
   have hS1 := hS l' hp' hs
   have ll' : l'.length = i := by rw [hp'.length_eq, ll]
   have h23' : ∀ e ∈ l'.map Prod.snd, e.length = 23 := fun e he => by
    obtain ⟨y, hy, rfl⟩ := List.mem_map.1 he
    exact (hel2 y (hp'.mem_iff.1 hy)).at.len
   have hfl' := zeT (n := i) (by simpa using ll') h23'
   obtain ⟨hF, hhF⟩ : ∃ hF, hF = h'.set j (.row (l'.map Prod.snd).flatten) := ⟨_, rfl⟩
   rw [<- hhF]
   have keepF : ∀ {c : Chg} {e : List V}, ChP h' (fun y => h.next ≤ y) c e -> ChP hF (fun y => h.next ≤ y) c e := fun f => f.keep (by rw [hhF]; simp) fun k s' c' _ hk hg => by rw [hhF, H.get_set, if_neg (fun e => by subst e; rw [xd] at hg; cases hg)]; exact hg
   refine q _ (l'.map Prod.snd) hF (by rw [hhF]; exact gh'.set (by have := gh2.1; omega) _) (by rw [hhF]; exact wb.set hjn _) ⟨.inr ⟨fun e => ?_, j, some i, _, by have := gh2.1; omega, by rw [hhF]; simpa using hjn, ?_, by rw [hhF]; simp, .inl rfl⟩, by rw [<- hS1]; simp, fun k c hk => ?_⟩
   ·have h9 := congrArg List.length e
    rw [List.length_map, ll'] at h9; exact h0 h9
   ·rw [hfl']; simp [ll']
   ·rw [<- hS1, List.getElem?_map] at hk
    cases hlk : l'[k]? with
    | none => rw [hlk] at hk; cases hk
    | some y =>
     rw [hlk] at hk
     cases hk
     exact ⟨y.2, by rw [List.getElem?_map, hlk]; rfl, keepF (hel2 y (hp'.mem_iff.1 (List.mem_of_getElem? hlk)))⟩
end Go.Am

namespace Go.Am
open Go.Proofs

set_option maxRecDepth 100000
structure But (h h' : H) (p m : Nat) : Prop where
 next : h.next ≤ h'.next
 keep : ∀ k, k < h.next -> k ≠ p -> k ≠ m -> h'.get k = h.get k
theorem But.refl (h : H) (p m : Nat) : But h h p m := ⟨Nat.le_refl _, fun _ _ _ _ => rfl⟩
theorem But.trans {a b c : H} {p m : Nat} (x : But a b p m) (y : But b c p m) : But a c p m := ⟨Nat.le_trans x.next y.next, fun k hk h1 h2 => (y.keep k (Nat.lt_of_lt_of_le hk x.next) h1 h2).trans (x.keep k hk h1 h2)⟩
theorem Ge.but {h h' : H} (g : Ge h h') (p m : Nat) : But h h' p m := ⟨g.1, fun k hk _ _ => g.2 k hk⟩
theorem PaceAt.lt {h : H} {R : Nat -> Prop} {p m : Nat} {P : Pc} (x : PaceAt h R p m P) (w : h.WF) : p < h.next ∧ m < h.next ∧ p ≠ m := by
 obtain ⟨es, bs, tk, L, a, _⟩ := x.held
 exact ⟨w.lt x.row, w.lt a, fun e => by subst e; rw [x.row] at a; cases a⟩
theorem PaceAt.keep {h h' : H} {R : Nat -> Prop} {p m : Nat} {P : Pc} (x : PaceAt h R p m P) (hn : h.next ≤ h'.next) (hp : h'.get p = h.get p) (hm : h'.get m = h.get m) (k : ∀ j s cs, R j -> j < h.next -> h.get j = some (.grow s cs) -> h'.get j = some (.grow s cs)) : PaceAt h' R p m P :=
 ⟨hp.trans x.row, x.held.keep hn hm k⟩
theorem PaceAt.ge {h h' : H} {R : Nat -> Prop} {p m : Nat} {P : Pc} (x : PaceAt h R p m P) (w : h.WF) (g : Ge h h') : PaceAt h' R p m P :=
 x.keep g.1 (g.2 _ (x.lt w).1) (g.2 _ (x.lt w).2.1) fun j _ _ _ hj e => (g.2 j hj).trans e
theorem zfQ {h : H} {gap : Int} {Q : V -> H -> Prop} (q1 : (gap < 0 ∨ 3600 < gap) -> Q (.tup [.nilptr, .int .i64 2]) h)
  (q2 : ¬ (gap < 0 ∨ 3600 < gap) -> ∀ h', Ge h h' -> h'.WF -> PaceAt h' (fun _ => True) (h.next + 1) h.next ⟨gap.toNat, 0, 0, []⟩ -> Q (.tup [.ptr (h.next + 1) 4 0, .int .i64 0]) h') : Acalls Tryz.prog 29 [.int .i64 gap] h Q := by
 refine zan Tryz.func29 S.a3c S.a3e (Nat.le_of_ble_eq_true rfl) fun wf => ?_; simp only [S.a3]
 by_cases h1 : gap < 0
 ·simp [h1]
  exact q1 (.inl h1)
 ·by_cases h2 : 3600 < gap
  ·simp [h1, h2]
   exact q1 (.inr h2)
  ·obtain ⟨g, rfl⟩ : ∃ g : Nat, gap = g := ⟨gap.toNat, by omega⟩
   simp [h1, h2]
   refine q2 (by omega) _ (by simp) ((wf.push _).push _) ⟨?_, ?_⟩
   ·simp [V.cells]
   ·exact ⟨[], [], 0, [], by simp [show ¬ h.next = h.next + 1 by omega], MapB.nil _, ⟨List.Perm.refl _, List.Pairwise.nil⟩, rfl, by simp⟩
def zcZ (P : Pc) (now : Nat) : Bool := decide (now ≤ 1099511627776) && decide (P.last ≤ now)
theorem zhy {h : H} {R : Nat -> Prop} {p m : Nat} {P : Pc} (x : PaceAt h R p m P) {now : Nat} : Pure Tryz.prog 69 [.ptr p 4 0, .int .u64 (now : Nat)] h (.int .i64 (if zcZ P now = true then 0 else 2)) := by
 refine zae Tryz.func69 S.a26c S.a26e rfl (Nat.le_of_ble_eq_true rfl) fun wf => ?_; simp only [S.a26]
 have c : zac h.get p 4 = some [.int .i64 (P.gap : Nat), .int .u64 (P.op : Nat), .int .u64 (P.last : Nat), .map m] := (zaf (n := 4) x.row rfl).trans rfl
 simp
 refine zfL x _ ?_
 by_cases h1 : now ≤ 1099511627776
 ·have h1' : ¬ (1099511627776 : Int) < (now : Nat) := by omega
  by_cases h2 : P.last ≤ now
  ·have h2' : ¬ ((now : Nat) : Int) < (P.last : Nat) := by omega
   simp [zcZ, h1, h1', h2, h2', c]
  ·have h2' : ((now : Nat) : Int) < (P.last : Nat) := by omega
   simp [zcZ, h1, h1', h2, h2', c]
 ·have h1' : (1099511627776 : Int) < (now : Nat) := by omega
  simp [zcZ, h1, h1']
theorem zm3 {h : H} {R : Nat -> Prop} {p m : Nat} {P : Pc} (x : PaceAt h R p m P) : Pure Tryz.prog 34 [.ptr p 4 0] h (.tup [.int .u64 ((if P.S = [] then 0 else P.op : Nat) : Nat), .bool (!decide (P.S = []))]) := by
 refine zae Tryz.func34 S.a7c S.a7e rfl (Nat.le_of_ble_eq_true rfl) fun wf => ?_; simp only [S.a7]
 have c : zac h.get p 4 = some [.int .i64 (P.gap : Nat), .int .u64 (P.op : Nat), .int .u64 (P.last : Nat), .map m] := (zaf (n := 4) x.row rfl).trans rfl
 have l := x.held.len h.get rfl
 simp
 refine zfL x _ ?_
 by_cases h0 : P.S = []
 ·simp [c, l, h0]
 ·have h1 : (((P.S.length : Nat) : Int) == 0) = false := by simpa using h0
  simp [c, l, h0, h1]
theorem zjI {h : H} {R : Nat -> Prop} {p m : Nat} {P : Pc} (x : PaceAt h R p m P) (hb : P.S.length ≤ 100000) (hg : P.gap ≤ 3600) {now : Nat} (hnow : now ≤ 1099511627776) {Q : V -> H -> Prop}
  (q : ∀ w es h', But h h' p m -> h'.WF -> PaceAt h' R p m (zdd P now) -> LsP h' (fun j => h.next ≤ j) w (zdo P now) es -> Q w h') : Acalls Tryz.prog 70 [.ptr p 4 0, .int .u64 (now : Nat)] h Q := by
 refine zan Tryz.func70 S.a27c S.a27e (Nat.le_of_ble_eq_true rfl) fun wf => ?_; simp only [S.a27]
 obtain ⟨hp, hm, hpm⟩ := x.lt wf
 have xr := x.row
 obtain ⟨h1, hh1⟩ : ∃ h1, h1 = h.set p (.row [.int .i64 (P.gap : Nat), .int .u64 (P.op : Nat), .int .u64 (now : Nat), .map m]) := ⟨_, rfl⟩
 have n1 : h1.next = h.next := by rw [hh1]; simp
 have w1 : h1.WF := by rw [hh1]; exact wf.set hp _
 have k1 : ∀ k, k ≠ p -> h1.get k = h.get k := fun k hk => by rw [hh1, H.get_set, if_neg hk]
 have x1 : PaceAt h1 R p m ⟨P.gap, P.op, now, P.S⟩ := ⟨by rw [hh1]; simp, x.held.keep (by omega) (k1 m (fun e => hpm e.symm)) fun j s cs _ _ e => (k1 j (fun e2 => by subst e2; rw [xr] at e; cases e)).trans e⟩
 have b1 : But h h1 p m := ⟨by omega, fun k _ hk _ => k1 k hk⟩
 have c1 : zac h1.get p 4 = some [.int .i64 (P.gap : Nat), .int .u64 (P.op : Nat), .int .u64 (now : Nat), .map m] := (zaf (n := 4) x1.row rfl).trans rfl
 have l1 := x1.held.len h1.get rfl
 simp only at l1
 simp [xr]
 rw [<- hh1]
 by_cases ho : now < P.op
 ·have hgo : zch P now = false := by simp [zch, ho]
  simp [ho]
  refine q _ [] h1 b1 w1 (by rw [zdd, hgo]; exact x1) (by rw [zdo, hgo]; exact LsP.nil _ _)
 ·by_cases h0 : P.S = []
  ·have hgo : zch P now = false := by simp [zch, h0]
   simp [c1, ho, l1, h0]
   refine q _ [] h1 b1 w1 (by rw [zdd, hgo]; exact x1) (by rw [zdo, hgo]; exact LsP.nil _ _)
  ·have hgo : zch P now = true := by simp [zch, ho, h0]
   have h0' : (((P.S.length : Nat) : Int) == 0) = false := by simpa using h0
   simp [c1, ho, l1, h0']
   refine zj7 x1 hb fun w es h2 g2 w2 ls => ?_
   have n2 := g2.1
   obtain ⟨es0, bs0, tk0, L0, hm0, _⟩ := x1.held
   have m2 : h2.get m = some (.mapo es0 bs0 tk0) := (g2.2 m (by omega)).trans hm0
   have r2 : h2.get p = some (.row [.int .i64 (P.gap : Nat), .int .u64 (P.op : Nat), .int .u64 (now : Nat), .map m]) := (g2.2 p (by omega)).trans x1.row
   have c2 : zac h2.get p 4 = some [.int .i64 (P.gap : Nat), .int .u64 (P.op : Nat), .int .u64 (now : Nat), .map m] := (zaf (n := 4) r2 rfl).trans rfl
   have hu : IntKind.u64.wrap (P.gap : Int) = P.gap := zmf (by omega)
   have hu2 : IntKind.u64.wrap ((now : Int) + (P.gap : Int)) = ((now + P.gap : Nat) : Int) := by rw [<- Int.natCast_add]; exact zmf (by omega)
   simp [c2, m2, zbw, hpm, hu, hu2, r2]
   obtain ⟨hF, hhF⟩ : ∃ hF, hF = (h2.set m (.mapo [] [] tk0)).set p (.row [.int .i64 (P.gap : Nat), .int .u64 ((now + P.gap : Nat) : Nat), .int .u64 (now : Nat), .map m]) := ⟨_, rfl⟩
   have kF : ∀ k, k ≠ p -> k ≠ m -> hF.get k = h2.get k := fun k a b => by rw [hhF, H.get_set, if_neg a, H.get_set, if_neg b]
   have nF : hF.next = h2.next := by rw [hhF]; simp
   have hq := q w es hF ⟨by omega, fun k hk a b => by rw [kF k a b, g2.2 k (by omega)]; exact k1 k a⟩ (by rw [hhF]; exact (w2.set (by omega) _).set (by simp; omega) _) (by
    rw [zdd, hgo]
    exact ⟨by rw [hhF]; simp, [], [], tk0, [], by rw [hhF]; simp [show ¬ m = p from fun e => hpm e.symm], MapB.nil _, ⟨List.Perm.refl _, List.Pairwise.nil⟩, rfl, by simp⟩) (by
    rw [zdo, hgo]
    exact (ls.mono fun j _ hj => by omega).keep (by omega) fun j hj _ => kF j (by have : h.next ≤ j := hj; omega) (by have : h.next ≤ j := hj; omega))
   rw [hhF] at hq
   simpa using hq
theorem zhE {h : H} {R : Nat -> Prop} {p m : Nat} {P : Pc} (x : PaceAt h R p m P) (hb : P.S.length ≤ 100000) (hg : P.gap ≤ 3600) {now : Nat} {Q : V -> H -> Prop}
  (q1 : zcZ P now = false -> Q (.tup [.nilsl, .int .i64 2]) h)
  (q2 : zcZ P now = true -> ∀ w es h', But h h' p m -> h'.WF -> PaceAt h' R p m (zdd P now) -> LsP h' (fun j => h.next ≤ j) w (zdo P now) es -> Q (.tup [w, .int .i64 0]) h') : Acalls Tryz.prog 30 [.ptr p 4 0, .int .u64 (now : Nat)] h Q := by
 refine zan Tryz.func30 S.a4c S.a4e (Nat.le_of_ble_eq_true rfl) fun wf => ?_; simp only [S.a4]
 simp
 refine zhy x _ ?_
 cases ht : zcZ P now with
 | false => simp; exact q1 ht
 | true =>
  simp
  have hn : now ≤ 1099511627776 := by simp [zcZ] at ht; omega
  refine zjI x hb hg hn fun w es h' a b c d => ?_
  simp
  exact q2 ht w es h' a b c d
end Go.Am

namespace Go.Am
open Go.Proofs

set_option maxRecDepth 100000
def kyT : TS := .st [(0, 4, true, .st [(0, 1, false, .int), (1, 1, false, .int), (2, 1, false, .str), (3, 1, false, .int)]), (4, 1, false, .int)]
def kyD : KD := .st kyT 5
theorem zoW (k : Ky) : zbD kyD (kyV k) = true := rfl
theorem zqN (a b : Ky) : eqV kyT (kyV a) (kyV b) = some (decide (a = b)) := by
 have e1 := zq7 a.p b.p
 simp only [pfxC] at e1
 show eqFs _ _ _ = _
 rw [zcd (b := decide (a.p = b.p)) rfl rfl (by simpa using e1), zcd (b := decide (a.id = b.id)) rfl rfl (zj4 _ _ _)]
 by_cases h1 : a.p = b.p <;> by_cases h2 : a.id = b.id <;> cases a <;> cases b <;> simp_all [eqFs]
theorem zfj {ts : TS} {n : Nat} {k x e : V} {es : List (V × V)} {i : Nat} (h1 : zbD (.st ts n) x = true) : zck (.st ts n) k ((x, e) :: es) i = (match eqV ts k x with
  | some true => some (some (i, e))
  | some false => zck (.st ts n) k es (i + 1)
  | none => none) := by
 show (if zbD (.st ts n) x = true then _ else none) = _
 rw [if_pos h1]
 rfl
theorem zhI : ∀ (es : List (V × V)) (L : List Chg) (i0 : Nat), es.length = L.length -> (∀ (i : Nat) (c : Chg), L[i]? = some c -> ∃ e, es[i]? = some (kyV (zaH c), e)) -> ∀ k : Ky,
  (∃ j, ∃ hj : j < L.length, ∃ e, zaH L[j] = k ∧ (∀ a (ha : a < j), zaH L[a] ≠ k) ∧ zck kyD (kyV k) es i0 = some (some (i0 + j, e))) ∨ ((∀ c ∈ L, zaH c ≠ k) ∧ zck kyD (kyV k) es i0 = some none)
 | [], [], _, _, _, _ => .inr ⟨by simp, rfl⟩
 | [], _ :: _, _, h, _, _ => by simp at h
 | _ :: _, [], _, h, _, _ => by simp at h
 | x :: es, c :: L, i0, hl, he, k => by
  obtain ⟨e, e0⟩ := he 0 c rfl
  have hx : x = (kyV (zaH c), e) := by simpa using e0
  subst hx
  have hq := zqN k (zaH c)
  by_cases hk : k = zaH c
  ·refine .inl ⟨0, by simp, e, hk.symm, fun a ha => by omega, ?_⟩
   rw [kyD, zfj rfl, hq]; simp [hk]
  ·have ih := zhI es L (i0 + 1) (by simpa using hl) (fun i c' hi => by simpa using he (i + 1) c' (by simpa using hi)) k
   have hf : zck kyD (kyV k) ((kyV (zaH c), e) :: es) i0 = zck kyD (kyV k) es (i0 + 1) := by
    rw [kyD, zfj rfl, hq]; simp [hk]
   rw [hf]
   rcases ih with ⟨j, hj, e', a1, a2, a3⟩ | ⟨a1, a2⟩
   ·refine .inl ⟨j + 1, by simpa using hj, e', a1, fun a ha => ?_, by rw [a3]; congr 3; omega⟩
    cases a with
    | zero => exact fun e => hk e.symm
    | succ a => exact a2 a (by omega)
   ·exact .inr ⟨fun c' hc' => (List.mem_cons.1 hc').elim (fun e => e ▸ fun e2 => hk e2.symm) (a1 c'), a2⟩
theorem HeldAt.set {h : H} {R : Nat -> Prop} {m : Nat} {S : List Chg} (x : HeldAt h R m S) (c : Chg) {e : List V} (hc : ChP h R c e) :
  ∃ o, zb4 h.get kyD (.map m) (kyV (zaH c)) (.agg e) = some (.set m o) ∧ HeldAt (h.set m o) R m (putC S c) := by
 obtain ⟨es, bs, tk, L, hm, mb, srt, hl, he⟩ := x
 have keepS : ∀ {o : O} {c : Chg} {e : List V}, ChP h R c e -> ChP (h.set m o) R c e := fun f => f.keep (by simp) fun j s' cs' _ _ hj => by rw [H.get_set, if_neg (fun e => by subst e; rw [hm] at hj; cases hj)]; exact hj
 rcases zhI es L 0 hl (fun i c' hi => by obtain ⟨e', a, _⟩ := he i c' hi; exact ⟨_, a⟩) (zaH c) with ⟨j, hj, e', a1, a2, a3⟩ | ⟨a1, a2⟩
 ·refine ⟨.mapo (es.set j (kyV (zaH c), .agg e)) bs tk, ?_, es.set j (kyV (zaH c), .agg e), bs, tk, L.set j c, by simp, mb.set, ?_, by simpa using hl, fun i c' hi => ?_⟩
  ·unfold zb4
   rw [if_pos (zoW _)]
   simp only [hm, a3, Nat.zero_add]
  ·have hu : upC L c = L.set j c := by
    rcases zjj L c with ⟨j', hj', b1, b2, b3⟩ | ⟨b1, _⟩
    ·have : j' = j := by
      rcases Nat.lt_trichotomy j j' with h1 | h1 | h1
      ·exact absurd a1 (b3 j h1)
      ·exact h1.symm
      ·exact absurd b1 (a2 j' h1)
     rw [b2, this]
    ·exact absurd a1 (b1 _ (List.getElem_mem hj))
   rw [<- hu]; exact srt.put c
  ·by_cases hij : i = j
   ·subst hij
    rw [List.getElem?_set_self hj, Option.some.injEq] at hi
    subst hi
    exact ⟨e, by rw [List.getElem?_set_self (by omega)], keepS hc⟩
   ·rw [List.getElem?_set_ne (by omega)] at hi
    obtain ⟨e1, b1, b2⟩ := he i c' hi
    exact ⟨e1, by rw [List.getElem?_set_ne (by omega)]; exact b1, keepS b2⟩
 ·refine ⟨.mapo (es ++ [(kyV (zaH c), .agg e)]) (bs ++ [tk]) (tk + 1), ?_, es ++ [(kyV (zaH c), .agg e)], bs ++ [tk], tk + 1, L ++ [c], by simp, mb.snoc, ?_, by simp [hl], fun i c' hi => ?_⟩
  ·unfold zb4
   rw [if_pos (zoW _)]
   simp only [hm, a2]
  ·have hu : upC L c = L ++ [c] := by
    rcases zjj L c with ⟨j', hj', b1, _, _⟩ | ⟨_, b2⟩
    ·exact absurd b1 (a1 _ (List.getElem_mem hj'))
    ·exact b2
   rw [<- hu]; exact srt.put c
  ·by_cases hij : i < L.length
   ·rw [List.getElem?_append_left hij] at hi
    obtain ⟨e1, b1, b2⟩ := he i c' hi
    exact ⟨e1, by rw [List.getElem?_append_left (by omega)]; exact b1, keepS b2⟩
   ·rw [List.getElem?_append_right (by omega)] at hi
    have h0 : i - L.length = 0 := by
     rcases Nat.eq_zero_or_pos (i - L.length) with h | h
     ·exact h
     ·rw [List.getElem?_eq_none (by simp; omega)] at hi; cases hi
    rw [h0] at hi
    simp at hi
    subst hi
    exact ⟨e, by rw [List.getElem?_append_right (by omega), hl, h0]; rfl, keepS hc⟩
theorem zdg {h : H} (w : h.WF) {sz : Nat} (es : List (List V)) : ∃ v h', Ge h h' ∧ h'.WF ∧ Gl h' h.next sz v es := by
 by_cases he : es = []
 ·subst he; exact ⟨.nilsl, h, Ge.refl _, w, Gl.nil _ _ _⟩
 ·exact ⟨.sl h.next es.flatten.length 0 es.length none, h.push (.grow sz es.flatten), (Ge.refl _).push _, w.push _, .inr ⟨he, h.next, Nat.le_refl _, by simp, rfl, by simp⟩⟩
theorem zgm : ∀ (l : List Sg) {g : H}, g.WF -> ∃ (es : List (List V)) (g' : H), Ge g g' ∧ g'.WF ∧ es.length = l.length ∧ ∀ (i : Nat) (s : Sg), l[i]? = some s -> ∃ w, es[i]? = some [.int .i64 s.kind, w] ∧ Fc g' g.next 1 w (s.ases.map cP)
 | [], g, wg => ⟨[], g, Ge.refl _, wg, rfl, by simp⟩
 | s :: l, g, wg => by
  obtain ⟨w, g1, a1, b1, c1⟩ := zdg wg (sz := 1) (s.ases.map cP)
  obtain ⟨es, g2, a2, b2, c2, d2⟩ := zgm l b1
  refine ⟨[.int .i64 s.kind, w] :: es, g2, a1.trans a2, b2, by simp [c2], fun i t hi => ?_⟩
  cases i with
  | zero => simp at hi; subst hi; exact ⟨w, rfl, (c1.keep a2.1 fun i hi => a2.2 i (c1.lo i hi).2).fr⟩
  | succ i => obtain ⟨u, e, f⟩ := d2 i t (by simpa using hi); exact ⟨u, by simpa using e, f.le a1.1⟩
theorem zhM {g : H} (wg : g.WF) {a : Att} (z : AttSz a) : ∃ wp wc wx wl wk g', Ge g g' ∧ g'.WF ∧ AttFr g' g.next a wp wc wx wl wk := by
 obtain ⟨es, g1, a1, b1, c1, d1⟩ := zgm a.path wg
 obtain ⟨wp, g2, a2, b2, c2⟩ := zdg b1 (sz := 2) es
 obtain ⟨wc, g3, a3, b3, c3⟩ := zdg b2 (sz := 1) (a.comms.map cP)
 obtain ⟨wx, g4, a4, b4, c4⟩ := zdg b3 (sz := 1) (a.exts.map cX)
 obtain ⟨wl, g5, a5, b5, c5⟩ := zdg b4 (sz := 3) (a.larges.map cL)
 obtain ⟨wk, g6, a6, b6, c6⟩ := zdg b5 (sz := 1) (a.clus.map cP)
 have e1 := a1.1
 have e2 := a2.1
 have e3 := a3.1
 have e4 := a4.1
 have e5 := a5.1
 have t5 := a5.trans a6
 have t4 := a4.trans t5
 have t3 := a3.trans t4
 have t2 := a2.trans t3
 refine ⟨wp, wc, wx, wl, wk, g6, a1.trans t2, b6, ⟨⟨es, (c2.fr.ge t3).le (by omega), c1, fun i s hi => ?_⟩, (c3.fr.ge t4).le (by omega), (c4.fr.ge t5).le (by omega), (c5.fr.ge a6).le (by omega), c6.fr.le (by omega), z⟩⟩
 obtain ⟨w, e, f⟩ := d1 i s hi
 exact ⟨w, e, f.ge t2⟩

theorem zf9 : ∀ (l S : List Chg), (l.foldl putC S).length ≤ S.length + l.length
 | [], S => by simp
 | c :: l, S => by
  have h1 := zf9 l (putC S c)
  have h2 := zlB S c
  simp only [List.foldl_cons, List.length_cons]; omega
theorem zjF {h : H} {R : Nat -> Prop} {p m : Nat} {P : Pc} (x : PaceAt h R p m P) (hR : ∀ j, h.next ≤ j -> R j) {v : V} {L : List Chg} {es : List (List V)} (lk : ∀ h', But h h' p m -> CsAt h'.get v L es) (hb : P.S.length + L.length ≤ 100000) (hg : P.gap ≤ 3600) {now : Nat} {Q : V -> H -> Prop}
  (q1 : (zcZ P now && L.all zbp) = false -> Q (.tup [.nilsl, .int .i64 2]) h)
  (q2 : zcZ P now = true -> L.all zbp = true -> ∀ w fs h', But h h' p m -> h'.WF -> PaceAt h' R p m (zdd (zct P L) now) -> LsP h' (fun j => h.next ≤ j) w (zdo (zct P L) now) fs -> Q (.tup [w, .int .i64 0]) h') : Acalls Tryz.prog 31 [.ptr p 4 0, v, .int .u64 (now : Nat)] h Q := by
 refine zan Tryz.func31 S.a5c S.a5e (Nat.le_of_ble_eq_true rfl) fun wf => ?_; simp only [S.a5]
 have l := lk h (But.refl _ _ _)
 have hlen := l.sls.len
 have hbd := l.sls.bound
 rw [l.len] at hlen hbd
 obtain ⟨hp, hm, hpm⟩ := x.lt wf
 simp
 refine zhy x _ ?_
 cases ht : zcZ P now with
 | false => simp; exact q1 (by simp [ht])
 | true =>
  simp
  refine zmO (f := fun c => !zbp c) l (fun c _ vp vc vx vl vk A => by simpa using zk7 A) _ ?_
  cases ha : L.all zbp with
  | false =>
   have : L.any (fun c => !zbp c) = true := by
    rw [List.any_eq_not_all_not]; simpa using ha
   simp [this]
   exact q1 (by simp [ha])
  | true =>
   have hany : L.any (fun c => !zbp c) = false := by
    rw [List.any_eq_not_all_not]; simpa using ha
   simp [hany, hlen]
   refine zaO (fun i t h' => (t 0 = .ptr p 4 0 ∧ t 2 = .int .u64 (now : Nat) ∧ t 19 = v ∧ t 20 = .int .i64 (L.length : Nat) ∧ t 21 = .int .i64 (i : Nat)) ∧ But h h' p m ∧ h'.WF ∧ PaceAt h' R p m (zct P (L.take i))) L.length ⟨by simp, But.refl _ _ _, wf, by simpa [zct] using x⟩ ?_
   rintro i t h' hi ⟨⟨t0, t2, t19, t20, t21⟩, bt, wb, xb⟩ K hK
   by_cases hlt : i < L.length
   ·have hw := zaZ hlt hbd
    obtain ⟨pp, qq, o, cs, vp, vc, vx, vl, vk, e1, _, e2, e3, e4, A, _, _⟩ := (lk h' bt).atG wb hlt
    have e2' := e2 h' (Ge.refl _)
    obtain ⟨c, hc⟩ : ∃ c, c = L[i] := ⟨_, rfl⟩
    rw [<- hc] at e4 A
    have hcm : zbp c = true := by rw [hc]; exact List.all_eq_true.1 ha _ (List.getElem_mem hlt)
    have hz : AttSz c.att := by
     simp only [zbp, Bool.and_eq_true] at hcm
     have h2 := hcm.2
     split at h2
     ·simp only [Bool.and_eq_true, decide_eq_true_eq] at h2
      rw [h2.2]; exact (zgn h' R).sz
     ·exact zj9 h2
    obtain ⟨o1, o2, o3, o4, o5⟩ := A.one
    obtain ⟨h3, hh3⟩ : ∃ h3, h3 = h'.push (.row (chC c vp vc vx vl vk)) := ⟨_, rfl⟩
    have g3 : Ge h' h3 := by rw [hh3]; exact (Ge.refl _).push _
    have w3 : h3.WF := by rw [hh3]; exact wb.push _
    have n3 : h3.next = h'.next + 1 := by rw [hh3]; simp
    have c3 : zac h3.get h'.next 23 = some (chC c vp vc vx vl vk) := by rw [hh3]; simp [chC]
    have x3 := xb.ge wb g3
    obtain ⟨lp, lm, _⟩ := x3.lt w3
    obtain ⟨lp', lm', _⟩ := xb.lt wb
    have cp : zac h3.get p 4 = some [.int .i64 (P.gap : Nat), .int .u64 (P.op : Nat), .int .u64 (P.last : Nat), .map m] := (zaf (n := 4) x3.row rfl).trans rfl
    have ow := fun Q q => zjk (h := h3) (Q := Q) (A.ge wb g3) hz q
    obtain ⟨yp, yc, yx, yl, yk, hy, gy, wy, fy⟩ := zhM w3 hz
    simp only [chC] at e4 hh3 c3 ow
    simp [t19, t20, t21, hlt, e1, e2', e3, e4, o1, o2, o3, o4, o5]
    rw [zb5 _ _ _ rfl, <- hh3]
    refine zdE [p, h'.next] [0, 0, 0, 2, 0, 0, 2, 0, 0, 2, 0, 0, 1, 0] rfl (by rfl) ?_
    simp [t0, c3, cp, I.foot, za3]
    refine ⟨by decide, fun w g => ∃ wp wc wx wl wk, w = .agg (chC c wp wc wx wl wk) ∧ Ge h3 g ∧ g.WF ∧ AttFr g h3.next c.att wp wc wx wl wk, ⟨_, hy, yp, yc, yx, yl, yk, rfl, gy, wy, fy⟩, ow _ fun wp wc wx wl wk g a b f => ⟨wp, wc, wx, wl, wk, rfl, a, b, f⟩, ?_⟩
    rintro _ g ⟨wp, wc, wx, wl, wk, rfl, gg, wg, F⟩
    refine ⟨fun _ => fun k hk => ?_, ?_⟩
    ·simp only [List.mem_cons, List.not_mem_nil, or_false] at hk
     exact gg.2 _ (by omega)
    have xg := x3.ge w3 gg
    obtain ⟨f1, f2, f3, f4, f5⟩ := F.one
    have hch : ChP g R c (chC c wp wc wx wl wk) := ⟨wp, wc, wx, wl, wk, rfl, F.p.mono fun j _ hj => hR j (by have := bt.next; omega)⟩
    obtain ⟨ob, hset, hld⟩ := xg.held.set c hch
    have hset' := hset
    simp only [kyD, kyT, kyV, zaH] at hset
    have mg : m < g.next := (xg.lt wg).2.1
    have pg : p < g.next := (xg.lt wg).1
    simp [hset, hw, t21]
    have ng := gg.1
    refine hK _ _ hlt ⟨by simp [t0, t2, t19, t20], ⟨by have := bt.next; simp; omega, fun k hk a b => ?_⟩, wg.set mg _, ⟨?_, ?_⟩⟩
    ·have := bt.next
     rw [H.get_set, if_neg b, gg.2 k (by omega), g3.2 k (by omega)]; exact bt.keep k hk a b
    ·rw [H.get_set, if_neg hpm]; exact xg.row
    ·have ht1 : L.take (i + 1) = L.take i ++ [c] := by rw [List.take_add_one, List.getElem?_eq_getElem hlt, <- hc]; rfl
     rw [ht1]
     show HeldAt _ R m ((L.take i ++ [c]).foldl putC P.S)
     rw [List.foldl_append]
     exact hld
   ·have hi2 : i = L.length := by omega
    subst hi2
    rw [List.take_length] at xb
    have hn : now ≤ 1099511627776 := by simp [zcZ] at ht; omega
    have hfl := zf9 L P.S
    simp [t0, t2, t20, t21]
    refine zjI xb (by show (L.foldl putC P.S).length ≤ _; omega) hg hn fun w fs h2 a b cc d => ?_
    simp
    exact q2 ht ha w fs h2 (bt.trans a) b cc (d.mono fun j _ hj => by have := bt.next; have : h'.next ≤ j := hj; omega)
end Go.Am

namespace Go.Am
open Go.Proofs

set_option maxRecDepth 100000
def AtR (p : Chg -> List V -> Prop) (L : List Chg) (es : List (List V)) : Prop := es.length = L.length ∧ ∀ (i : Nat) (c : Chg), L[i]? = some c -> ∃ e, es[i]? = some e ∧ p c e
theorem AtR.nil (p : Chg -> List V -> Prop) : AtR p [] [] := ⟨rfl, fun i c h => by simp at h⟩
theorem AtR.mono {p p' : Chg -> List V -> Prop} {L : List Chg} {es : List (List V)} (a : AtR p L es) (k : ∀ c e, p c e -> p' c e) : AtR p' L es :=
 ⟨a.1, fun i c h => by obtain ⟨e, h1, h2⟩ := a.2 i c h; exact ⟨e, h1, k c e h2⟩⟩
theorem AtR.single {p : Chg -> List V -> Prop} {c : Chg} {e : List V} (h : p c e) : AtR p [c] [e] := ⟨rfl, fun i c' hi => by
 cases i with
 | zero => simp at hi; subst hi; exact ⟨e, rfl, h⟩
 | succ i => simp at hi⟩
theorem AtR.append {p : Chg -> List V -> Prop} {L M : List Chg} {es fs : List (List V)} (a : AtR p L es) (b : AtR p M fs) : AtR p (L ++ M) (es ++ fs) := by
 refine ⟨by simp [a.1, b.1], fun i c hi => ?_⟩
 by_cases h : i < L.length
 ·rw [List.getElem?_append_left h] at hi
  obtain ⟨e, h1, h2⟩ := a.2 i c hi
  exact ⟨e, by rw [List.getElem?_append_left (by have := a.1; omega)]; exact h1, h2⟩
 ·rw [List.getElem?_append_right (by omega)] at hi
  obtain ⟨e, h1, h2⟩ := b.2 _ c hi
  exact ⟨e, by rw [List.getElem?_append_right (by have := a.1; omega), a.1]; exact h1, h2⟩
theorem AtR.take {p : Chg -> List V -> Prop} {L : List Chg} {es : List (List V)} (a : AtR p L es) (k : Nat) : AtR p (L.take k) (es.take k) := by
 refine ⟨by simp [a.1], fun i c hi => ?_⟩
 rw [List.getElem?_take] at hi
 split at hi
 ·rename_i h
  obtain ⟨e, h1, h2⟩ := a.2 i c hi
  exact ⟨e, by rw [List.getElem?_take, if_pos h]; exact h1, h2⟩
 ·cases hi
theorem AtR.drop {p : Chg -> List V -> Prop} {L : List Chg} {es : List (List V)} (a : AtR p L es) (k : Nat) : AtR p (L.drop k) (es.drop k) := by
 refine ⟨by simp [a.1], fun i c hi => ?_⟩
 rw [List.getElem?_drop] at hi
 obtain ⟨e, h1, h2⟩ := a.2 _ c hi
 exact ⟨e, by rw [List.getElem?_drop]; exact h1, h2⟩
theorem AtR.mem {p : Chg -> List V -> Prop} {L : List Chg} {es : List (List V)} (a : AtR p L es) : ∀ e ∈ es, ∃ c ∈ L, p c e := fun e he => by
 obtain ⟨i, hi, rfl⟩ := List.mem_iff_getElem.1 he
 obtain ⟨e', h1, h2⟩ := a.2 i (L[i]'(by rw [<- a.1]; exact hi)) (List.getElem?_eq_getElem _)
 rw [List.getElem?_eq_getElem hi, Option.some.injEq] at h1
 exact ⟨_, List.getElem_mem (by rw [<- a.1]; exact hi), by rw [h1]; exact h2⟩
structure LfP (h : H) (R : Nat -> Prop) (v : V) (L : List Chg) (es : List (List V)) : Prop where
 fc : FcP h R 23 v es
 at' : AtR (ChP h R) L es
theorem LfP.ls {h : H} {R : Nat -> Prop} {v : V} {L : List Chg} {es : List (List V)} (s : LfP h R v L es) : LsP h R v L es := ⟨s.fc.rw, s.at'.1, s.at'.2⟩
theorem LfP.mono {h : H} {R R' : Nat -> Prop} {v : V} {L : List Chg} {es : List (List V)} (s : LfP h R v L es) (k : ∀ j, j < h.next -> R j -> R' j) : LfP h R' v L es :=
 ⟨s.fc.mono k, s.at'.mono fun _ _ f => f.mono k⟩
theorem LfP.keep {h h' : H} {R : Nat -> Prop} {v : V} {L : List Chg} {es : List (List V)} (s : LfP h R v L es) (hn : h.next ≤ h'.next) (k : ∀ j, R j -> j < h.next -> h'.get j = h.get j) : LfP h' R v L es :=
 ⟨s.fc.keep hn fun j _ _ hj hl e => (k j hj hl).trans e, s.at'.mono fun _ _ f => f.keep hn fun j _ _ hj hl e => (k j hj hl).trans e⟩
theorem LfP.ge {h h' : H} {R : Nat -> Prop} {v : V} {L : List Chg} {es : List (List V)} (s : LfP h R v L es) (g : Ge h h') : LfP h' R v L es := s.keep g.1 fun j _ hj => g.2 j hj
theorem LfP.nil (h : H) (R : Nat -> Prop) : LfP h R .nilsl [] [] := ⟨.inl ⟨rfl, .inl rfl⟩, AtR.nil _⟩
theorem LfP.one {h : H} {R : Nat -> Prop} {v : V} {L : List Chg} {es : List (List V)} (s : LfP h R v L es) : v.one = true := s.fc.one
theorem FcP.cap {h : H} {R : Nat -> Prop} {sz : Nat} {v : V} {es : List (List V)} (f : FcP h R sz v es) : ze1 v := by
 rcases f with ⟨_, rfl | ⟨k, rfl⟩⟩ | ⟨_, j, _, _, rfl, _⟩ <;> simp [ze1]
theorem FcP.keep3 {h h' : H} {R : Nat -> Prop} {sz : Nat} {v : V} {es : List (List V)} (f : FcP h R sz v es) (hs : sz ≤ 3) (hn : h.next ≤ h'.next) (k : ∀ j s cs, s ≤ 3 -> R j -> j < h.next -> h.get j = some (.grow s cs) -> h'.get j = some (.grow s cs)) : FcP h' R sz v es := by
 rcases f with e | ⟨hne, j, a, b, c, d⟩
 ·exact .inl e
 ·exact .inr ⟨hne, j, a, Nat.lt_of_lt_of_le b hn, c, k j _ _ hs a b d⟩
theorem AttP.keep3 {h h' : H} {R : Nat -> Prop} {a : Att} {vp vc vx vl vk : V} (f : AttP h R a vp vc vx vl vk) (hn : h.next ≤ h'.next) (k : ∀ j s cs, s ≤ 3 -> R j -> j < h.next -> h.get j = some (.grow s cs) -> h'.get j = some (.grow s cs)) : AttP h' R a vp vc vx vl vk := by
 obtain ⟨es, f1, f2, f3⟩ := f.path
 exact ⟨⟨es, f1.keep3 (by decide) hn k, f2, fun i s hi => by obtain ⟨w, e, g⟩ := f3 i s hi; exact ⟨w, e, g.keep3 (by decide) hn k⟩⟩, f.comms.keep3 (by decide) hn k, f.exts.keep3 (by decide) hn k, f.larges.keep3 (by decide) hn k, f.clus.keep3 (by decide) hn k, f.sz⟩
theorem ChP.keep3 {h h' : H} {R : Nat -> Prop} {c : Chg} {e : List V} (f : ChP h R c e) (hn : h.next ≤ h'.next) (k : ∀ j s cs, s ≤ 3 -> R j -> j < h.next -> h.get j = some (.grow s cs) -> h'.get j = some (.grow s cs)) : ChP h' R c e := by
 obtain ⟨vp, vc, vx, vl, vk, a, b⟩ := f; exact ⟨vp, vc, vx, vl, vk, a, b.keep3 hn k⟩
end Go.Am

namespace Go.Am
open Go.Proofs

set_option maxRecDepth 100000
theorem LfP.len {h : H} {R : Nat -> Prop} {v : V} {L : List Chg} {es : List (List V)} (s : LfP h R v L es) (g : Nat -> Option O) : lenV 1 g v = some (.int .i64 (L.length : Nat)) := by
 rw [<- s.at'.1]
 rcases s.fc with ⟨rfl, rfl | ⟨k, rfl⟩⟩ | ⟨_, j, _, _, rfl, _⟩ <;> simp [lenV]
theorem LfP.ones {h : H} {R : Nat -> Prop} {v : V} {L : List Chg} {es : List (List V)} (s : LfP h R v L es) : ∀ e ∈ es, e.all V.one = true := fun e he => by
 obtain ⟨c, _, f⟩ := s.at'.mem e he
 exact f.at.ones
end Go.Am

namespace Go.Am
open Go.Proofs

set_option maxRecDepth 100000
end Go.Am

namespace Go.Am
open Go.Proofs

set_option maxRecDepth 100000
theorem zhv : ∀ (L : List Chg) {g : H}, g.WF -> (∀ c ∈ L, AttSz c.att) -> ∃ (es : List (List V)) (g' : H), Ge g g' ∧ g'.WF ∧ AtR (ChP g' fun j => g.next ≤ j) L es
 | [], g, w, _ => ⟨[], g, Ge.refl _, w, AtR.nil _⟩
 | c :: L, g, w, z => by
  obtain ⟨yp, yc, yx, yl, yk, g1, a1, b1, f1⟩ := zhM w (z c (by simp))
  obtain ⟨es, g2, a2, b2, f2⟩ := zhv L b1 fun x hx => z x (by simp [hx])
  refine ⟨chC c yp yc yx yl yk :: es, g2, a1.trans a2, b2, ?_⟩
  have h1 : ChP g2 (fun j => g.next ≤ j) c (chC c yp yc yx yl yk) := ⟨yp, yc, yx, yl, yk, rfl, (f1.p.ge a2).mono fun j _ hj => hj.1⟩
  exact (AtR.single h1).append (f2.mono fun c e f => f.mono fun j _ hj => by have := a1.1; omega)
theorem zmV {g : H} (w : g.WF) {L : List Chg} (z : ∀ c ∈ L, AttSz c.att) : ∃ v es g', Ge g g' ∧ g'.WF ∧ LfP g' (fun j => g.next ≤ j) v L es := by
 obtain ⟨es, g1, a1, b1, f1⟩ := zhv L w z
 obtain ⟨v, g2, a2, b2, f2⟩ := zdg b1 (sz := 23) es
 refine ⟨v, es, g2, a1.trans a2, b2, f2.fr.p.mono fun j _ hj => by have := a1.1; omega, f1.mono fun c e f => f.ge a2⟩
theorem zlP {c : Chg} (h : zbp c = true) : AttSz c.att := by
 simp only [zbp, Bool.and_eq_true] at h
 have h2 := h.2
 split at h2
 ·simp only [Bool.and_eq_true, decide_eq_true_eq] at h2
  rw [h2.2]; exact (zgn ⟨0, fun _ => none⟩ fun _ => True).sz
 ·exact zj9 h2
end Go.Am

namespace Go.Am
open Go.Proofs

set_option maxRecDepth 100000
end Go.Am

namespace Go.Am
open Go.Proofs

set_option maxRecDepth 100000
structure Sp (R : Nat -> Prop) (h h' : H) : Prop where
 next : h'.next = h.next
 wf : h'.WF
 get : ∀ j, h'.get j = h.get j ∨ (R j ∧ ∃ cs cs', h.get j = some (.grow 1 cs) ∧ h'.get j = some (.grow 1 cs') ∧ cs'.length = cs.length)
theorem Sp.refl {R : Nat -> Prop} {h : H} (w : h.WF) : Sp R h h := ⟨rfl, w, fun _ => .inl rfl⟩
theorem Sp.out {R : Nat -> Prop} {h h' : H} (s : Sp R h h') {j : Nat} (hj : ¬ R j) : h'.get j = h.get j := by
 rcases s.get j with e | ⟨r, _⟩
 ·exact e
 ·exact absurd r hj
theorem Sp.row {R : Nat -> Prop} {h h' : H} (s : Sp R h h') {j : Nat} {o : O} (e : h.get j = some o) (ho : ∀ cs, o ≠ .grow 1 cs) : h'.get j = some o := by
 rcases s.get j with e2 | ⟨_, cs, _, e2, _⟩
 ·exact e2.trans e
 ·rw [e] at e2; cases e2; exact absurd rfl (ho cs)
theorem Sp.grow {R : Nat -> Prop} {h h' : H} (s : Sp R h h') {j : Nat} {cs : List V} (e : h.get j = some (.grow 1 cs)) : ∃ cs', h'.get j = some (.grow 1 cs') ∧ cs'.length = cs.length := by
 rcases s.get j with e2 | ⟨_, cs0, cs', e2, e3, e4⟩
 ·exact ⟨cs, e2.trans e, rfl⟩
 ·rw [e] at e2; cases e2; exact ⟨cs', e3, e4⟩
theorem Sp.set {R : Nat -> Prop} {h h' : H} (s : Sp R h h') {j : Nat} {cs cs2 : List V} (r : R j) (e : h'.get j = some (.grow 1 cs)) (hl : cs2.length = cs.length) : Sp R h (h'.set j (.grow 1 cs2)) := by
 refine ⟨by simpa using s.next, s.wf.set (s.wf.lt e) _, fun k => ?_⟩
 rw [H.get_set]
 by_cases hk : k = j
 ·subst hk
  rw [if_pos rfl]
  right
  refine ⟨r, ?_⟩
  rcases s.get k with e2 | ⟨_, c0, c1, e2, e3, e4⟩
  ·exact ⟨cs, cs2, e2.symm.trans e, rfl, hl⟩
  ·rw [e] at e3; cases e3
   exact ⟨c0, cs2, e2, rfl, hl.trans e4⟩
 ·rw [if_neg hk]; exact s.get k
theorem Sp.mono {R R' : Nat -> Prop} {h h' : H} (s : Sp R h h') (k : ∀ j, R j -> R' j) : Sp R' h h' := ⟨s.next, s.wf, fun j => (s.get j).imp id fun ⟨r, x⟩ => ⟨k j r, x⟩⟩
theorem RwP.at {h : H} {R : Nat -> Prop} {v : V} {es : List (List V)} (f : RwP h R 23 v es) (hs : ∀ e ∈ es, e.length = 23) {k : Nat} (hk : k < es.length) :
  ∃ j n o, (∀ kd, zaA 23 v (.int kd (k : Int)) = some (.ptr j n (k * 23))) ∧ h.get j = some o ∧ (∀ cs, o ≠ .grow 1 cs) ∧ o.len = n ∧ k * 23 + 23 ≤ n ∧ ∀ i, i < 23 -> o.cells[k * 23 + i]? = es[k][i]? := by
 have hl := zau hs
 rcases f with ⟨rfl, _⟩ | ⟨hne, j, ca, o, _, b, rfl, d, e⟩
 ·simp at hk
 ·have hm : k * 23 + 23 ≤ es.length * 23 := by omega
  have oc : o.cells = es.flatten := by rcases e with rfl | rfl <;> rfl
  refine ⟨j, es.flatten.length, o, fun kd => ?_, d, by rcases e with rfl | rfl <;> simp, by rcases e with rfl | rfl <;> simp, by omega, fun i hi => ?_⟩
  ·simp only [zbC, Int.toNat_natCast]
   rw [if_pos ⟨by omega, by omega⟩]; simp
  ·have := zdQ hs hk
   rw [oc, <- this, List.getElem?_take, if_pos hi, List.getElem?_drop]
end Go.Am

namespace Go.Am
open Go.Proofs

set_option maxRecDepth 100000
theorem p_no : Fr.KnownOk Tryz.prog [] := fun _ h => by cases h
theorem ziU : Fr.plainRun (Fr.runO8 [] Fr.q.tab 100000 60) 63 [.str [118, 52, 32, 49, 48, 46, 48, 46, 48, 46, 48, 47, 56]] = some (.tup [.agg [.int .i64 1, .int .u64 0, .str [10, 0, 0, 0], .int .i64 8], .int .i64 0]) := by kernel_rfl
theorem zjJ (h : H) : Pure Tryz.prog 63 [.str [118, 52, 32, 49, 48, 46, 48, 46, 48, 46, 48, 47, 56]] h (.tup [.agg [.int .i64 1, .int .u64 0, .str [10, 0, 0, 0], .int .i64 8], .int .i64 0]) := zeA p_no Fr.q.tab_ok ziU h
theorem zjv (g : Nat -> Option O) {a : Att} (h1 : a.path = []) (h2 : a.comms = []) (h3 : a.exts = []) (h4 : a.larges = []) (h5 : a.clus = []) : AttAt g a .nilsl .nilsl .nilsl .nilsl .nilsl := by
 refine ⟨⟨[], zbM _ _, by rw [h1]; rfl, by simp [h1]⟩, ?_, ?_, ?_, ?_⟩
 ·rw [h2]; exact zbM _ _
 ·rw [h3]; exact zbM _ _
 ·rw [h4]; exact zbM _ _
 ·rw [h5]; exact zbM _ _
def chN (c : Chg) : List V := chC c .nilsl .nilsl .nilsl .nilsl .nilsl
def NoL (a : Att) : Prop := a.path = [] ∧ a.comms = [] ∧ a.exts = [] ∧ a.larges = [] ∧ a.clus = []
theorem zhb (i : Nat) : NoL (attM i) := ⟨rfl, rfl, rfl, rfl, rfl⟩
theorem zo1 {g : Nat -> Option O} {j : Nat} {c : Chg} (hc : NoL c.att) (hj : g j = some (.row (chN c))) : CsAt g (.sl j 23 0 1 (some 1)) [c] [chN c] := by
 refine ⟨⟨.inr ⟨j, 23, 0, some 1, rfl⟩, by simp [chN, chC], ?_, by simp⟩, rfl, fun i c' hi => ?_⟩
 ·rw [zaz, if_neg (by simp), zaf (n := 23) hj rfl]
  simp [chN, chC]
 ·cases i with
  | zero =>
   simp at hi; subst hi
   exact ⟨chN c, rfl, _, _, _, _, _, rfl, zjv _ hc.1 hc.2.1 hc.2.2.1 hc.2.2.2.1 hc.2.2.2.2⟩
  | succ i => simp at hi
def zas (id med : Nat) : Chg := ⟨false, ⟨⟨1, 0, [10, 0, 0, 0], 8⟩, id, 0⟩, attM med⟩
theorem zeH {h : H} {id med : Nat} : Pure Tryz.prog 42 [.str [118, 52, 32, 49, 48, 46, 48, 46, 48, 46, 48, 47, 56], .int .u32 (id : Nat), .int .u32 (med : Nat)] h (.agg (chN (zas id med))) := by
 refine zae Tryz.func42 S.a10c S.a10e rfl (Nat.le_of_ble_eq_true rfl) fun wf => ?_; simp only [S.a10]
 simp
 refine zjJ _ _ ?_
 simp [chN, chC, zas, attM]
 exact ((((Ge.refl _).push _).push _).set (by omega) _).set (Nat.le_refl _) _
theorem ziZ (i : Nat) : attB (attM i) = true := by simp [attB, attM, zd7, risB, adjB]
theorem zqP : ∀ k4, k4 < 4 -> ∀ k2, k2 < 2 -> mayN ⟨⟨1, 0, [UInt8.ofNat (10 + k4), 0, 0, 0], 8⟩, k2, 0⟩ = true := by decide +kernel
theorem zes (id i : Nat) (h : id < 2) : zbp (zas id i) = true := by
 have := zqP 0 (by omega) id h
 have e : (UInt8.ofNat (10 + 0)) = 10 := rfl
 rw [e] at this
 simp [zbp, zas, this, ziZ]
theorem zfD {h : H} {p m : Nat} {P : Pc} (wf : h.WF) (x : PaceAt h (fun _ => True) p m P) {c : Chg} (hc : NoL c.att) (hm : zbp c = true) (hb : P.S.length + 1 ≤ 100000) (hg : P.gap ≤ 3600) {now : Nat} (ht : zcZ P now = true) {Q : V -> H -> Prop}
  (q : ∀ w fs h', But h h' p m -> h'.WF -> PaceAt h' (fun _ => True) p m (zdd (zct P [c]) now) -> LsP h' (fun j => h.next ≤ j) w (zdo (zct P [c]) now) fs -> Q (.tup [w, .int .i64 0]) h') :
  Acalls Tryz.prog 31 [.ptr p 4 0, .sl h.next 23 0 1 (some 1), .int .u64 (now : Nat)] (h.push (.row (chN c))) Q := by
 have g1 : Ge h (h.push (.row (chN c))) := (Ge.refl _).push _
 obtain ⟨lp, lm, _⟩ := x.lt wf
 refine zjF (x.ge wf g1) (fun _ _ => trivial) (v := .sl h.next 23 0 1 (some 1)) (L := [c]) (es := [chN c]) (fun h' b => zo1 hc ?_) (by simpa using hb) hg (fun e => ?_) (fun _ _ w fs h' a b cc d => q w fs h' ((g1.but p m).trans a) b cc (d.mono fun j _ hj => by have := g1.1; have : (h.push (.row (chN c))).next ≤ j := hj; omega))
 ·rw [b.keep h.next (by simp) (by omega) (by omega)]; simp
 ·simp [ht, hm] at e
theorem LsP.lenV {h : H} {R : Nat -> Prop} {v : V} {L : List Chg} {es : List (List V)} (s : LsP h R v L es) (g : Nat -> Option O) : lenV 1 g v = some (.int .i64 (L.length : Nat)) := by
 rw [<- s.len]
 rcases s.fc with ⟨rfl, rfl | ⟨k, rfl⟩⟩ | ⟨_, j, ca, o, _, _, rfl, _⟩ <;> simp
theorem zk9 (h : H) : Pure Tryz.prog 35 [] h (.bool true) := by
 refine zae Tryz.func35 S.a8c S.a8e rfl (Nat.le_of_ble_eq_true rfl) fun wf => ?_; simp only [S.a8]
 simp
 refine zfQ (gap := 5) (fun e => by omega) fun _ h1 g1 w1 x1 => ?_
 obtain ⟨p, hp⟩ : ∃ p, p = h.next + 1 := ⟨_, rfl⟩
 obtain ⟨m, hm⟩ : ∃ m, m = h.next := ⟨_, rfl⟩
 rw [<- hp, <- hm] at x1
 rw [<- hp]
 have cm1 : zbp (zas 0 1) = true := zes 0 1 (by omega)
 have cm2 : zbp (zas 0 2) = true := zes 0 2 (by omega)
 have cm3 : zbp (zas 0 3) = true := zes 0 3 (by omega)
 simp
 refine zeH (id := 0) (med := 1) _ ?_
 simp [chN, chC, zas, attM]
 have pc1 := fun Q q => zfD (Q := Q) w1 x1 (zhb 1 : NoL (zas 0 1).att) cm1 (by simp) (by simp) (now := 3) (by rfl) q
 have f1 : zdd (zct ⟨5, 0, 0, []⟩ [zas 0 1]) 3 = ⟨5, 8, 3, []⟩ := rfl
 have u1 : zdo (zct ⟨5, 0, 0, []⟩ [zas 0 1]) 3 = [zas 0 1] := rfl
 have e5 : (5 : Int).toNat = 5 := rfl
 simp only [chN, chC, zas, attM, e5] at pc1 f1 u1
 rw [f1, u1] at pc1
 refine pc1 _ fun a1 es1 h2 b2 w2 x2 l2 => ?_
 clear pc1
 simp
 refine zeH (id := 0) (med := 2) _ ?_
 simp [chN, chC, zas, attM]
 have pc2 := fun Q q => zfD (Q := Q) w2 x2 (zhb 2 : NoL (zas 0 2).att) cm2 (by simp) (by simp) (now := 4) (by rfl) q
 have f2 : zdd (zct ⟨5, 8, 3, []⟩ [zas 0 2]) 4 = ⟨5, 8, 4, [zas 0 2]⟩ := rfl
 have u2 : zdo (zct ⟨5, 8, 3, []⟩ [zas 0 2]) 4 = [] := rfl
 simp only [chN, chC, zas, attM] at pc2 f2 u2
 rw [f2, u2] at pc2
 refine pc2 _ fun a2 es2 h3 b3 w3 x3 l3 => ?_
 clear pc2
 simp
 refine zeH (id := 0) (med := 3) _ ?_
 simp [chN, chC, zas, attM]
 have pc3 := fun Q q => zfD (Q := Q) w3 x3 (zhb 3 : NoL (zas 0 3).att) cm3 (by simp) (by simp) (now := 7) (by rfl) q
 have f3 : zdd (zct ⟨5, 8, 4, [zas 0 2]⟩ [zas 0 3]) 7 = ⟨5, 8, 7, [zas 0 3]⟩ := rfl
 have u3 : zdo (zct ⟨5, 8, 4, [zas 0 2]⟩ [zas 0 3]) 7 = [] := rfl
 simp only [chN, chC, zas, attM] at pc3 f3 u3
 rw [f3, u3] at pc3
 refine pc3 _ fun a3 es3 h4 b4 w4 x4 l4 => ?_
 clear pc3
 simp
 refine zm3 x4 _ ?_
 simp
 have f4 : zdd ⟨5, 8, 7, [zas 0 3]⟩ 8 = ⟨5, 13, 8, []⟩ := rfl
 have u4 : zdo ⟨5, 8, 7, [zas 0 3]⟩ 8 = [zas 0 3] := rfl
 simp only [zas, attM] at f4 u4
 refine zhE x4 (by simp) (by simp) (now := 8) (fun e => by cases e) fun _ a4 es4 h5 b5 w5 x5 l5 => ?_
 rw [u4] at l5
 have c1 := l2.lenV h5.get
 have c2 := l3.lenV h5.get
 have c3 := l4.lenV h5.get
 have c4 := l5.lenV h5.get
 obtain ⟨pp, q, o, cs, vp, vc, vx, vl, vk, i1, _, i2, i3, i4, _, _, i5⟩ := (l5.at (by simp)).atG w5 (k := 0) (by simp)
 have i2' := i2 h5 (Ge.refl _)
 have i6 := i5 11 (by omega)
 simp [chC] at i6
 have i1' := i1 .i64
 simp at i1'
 simp only [List.length_nil, List.length_cons] at c1 c2 c3 c4
 simp [c1, c2, c3, c4, i1', i2', i6]
 have n1 := g1.1
 have m1 := b2.next
 have m2 := b3.next
 have m3 := b4.next
 have m4 := b5.next
 exact ⟨by omega, fun k hk => by rw [b5.keep k (by omega) (by omega) (by omega), b4.keep k (by omega) (by omega) (by omega), b3.keep k (by omega) (by omega) (by omega), b2.keep k (by omega) (by omega) (by omega), g1.2 k hk]⟩
end Go.Am

namespace Go.Am
open Go.Proofs

set_option maxRecDepth 100000
theorem LsP.none {h : H} {R R' : Nat -> Prop} {v : V} {es : List (List V)} (s : LsP h R v [] es) : LsP h R' v [] es := by
 refine ⟨?_, s.len, by simp⟩
 have : es = [] := List.eq_nil_of_length_eq_zero s.len
 subst this
 rcases s.fc with h1 | ⟨h1, _⟩
 ·exact .inl h1
 ·exact absurd rfl h1
theorem PaceAt.none {h : H} {R R' : Nat -> Prop} {p m : Nat} {P : Pc} (x : PaceAt h R p m P) (e : P.S = []) : PaceAt h R' p m P := by
 obtain ⟨es, bs, tk, L, a1, a2, a3, a4, a5⟩ := x.held
 refine ⟨x.row, es, bs, tk, L, a1, a2, a3, a4, fun i c hi => ?_⟩
 have : L = [] := by have := a3.perm.length_eq; rw [e] at this; exact List.eq_nil_of_length_eq_zero (by simpa using this)
 subst this
 simp at hi
theorem PaceAt.mono {h : H} {R R' : Nat -> Prop} {p m : Nat} {P : Pc} (x : PaceAt h R p m P) (k : ∀ j, j < h.next -> R j -> R' j) : PaceAt h R' p m P := ⟨x.row, x.held.mono k⟩
theorem PaceAt.sp {h h' : H} {R R' : Nat -> Prop} {p m : Nat} {P : Pc} (x : PaceAt h R p m P) (s : Sp R' h h') (k : ∀ j, R j -> ¬ R' j) : PaceAt h' R p m P := by
 obtain ⟨es, bs, tk, L, a1, _⟩ := x.held
 exact x.keep (by rw [s.next]; exact Nat.le_refl _) ((s.row x.row (by simp)).trans x.row.symm) ((s.row a1 (by simp)).trans a1.symm) fun j sz cs hj _ e => by rw [s.out (k j hj)]; exact e
theorem LfP.sp {h h' : H} {R R' : Nat -> Prop} {v : V} {L : List Chg} {es : List (List V)} (l : LfP h R v L es) (s : Sp R' h h') (k : ∀ j, R j -> ¬ R' j) : LfP h' R v L es :=
 l.keep (by rw [s.next]; exact Nat.le_refl _) fun j hj _ => s.out (k j hj)
theorem LsP.sp {h h' : H} {R R' : Nat -> Prop} {v : V} {L : List Chg} {es : List (List V)} (l : LsP h R v L es) (s : Sp R' h h') (k : ∀ j, R j -> ¬ R' j) : LsP h' R v L es :=
 l.keep (by rw [s.next]; exact Nat.le_refl _) fun j hj _ => s.out (k j hj)
def zmj (R : Nat -> Prop) (h : H) (p m : Nat) (P' : Pc) (out : List Chg) (err : Int) (r : V) (h' : H) : Prop :=
 ∃ wa ea, r = .tup [wa, .int .i64 err] ∧ But h h' p m ∧ h'.WF ∧ PaceAt h' R p m P' ∧ LsP h' (fun j => h.next ≤ j) wa out ea
theorem zgs {h : H} {R : Nat -> Prop} {p m : Nat} {P : Pc} (wf : h.WF) (x : PaceAt h R p m P) (hb : P.S.length ≤ 100000) (hg : P.gap ≤ 3600) {now : Nat} {ok : Bool} (hok : ok = zcZ P now) : Acalls Tryz.prog 30 [.ptr p 4 0, .int .u64 (now : Nat)] h (zmj R h p m (if ok = true then zdd P now else P) (if ok = true then zdo P now else []) (if ok = true then 0 else 2)) := by
 refine zhE x hb hg (fun e => ?_) fun e w es h' a b c d => ?_
 ·have e' := hok.trans e
  subst e'
  exact ⟨.nilsl, [], rfl, But.refl _ _ _, wf, x, LsP.nil _ _⟩
 ·have e' := hok.trans e
  subst e'
  exact ⟨w, es, rfl, a, b, c, d⟩
theorem zfZ {h : H} {R : Nat -> Prop} {p m : Nat} {P : Pc} (wf : h.WF) (x : PaceAt h R p m P) (hR : ∀ j, h.next ≤ j -> R j) {v : V} {L : List Chg} {es : List (List V)} (lk : ∀ h', But h h' p m -> CsAt h'.get v L es) (hb : P.S.length + L.length ≤ 100000) (hg : P.gap ≤ 3600) {now : Nat} {ok : Bool} (hok : ok = (zcZ P now && L.all zbp)) : Acalls Tryz.prog 31 [.ptr p 4 0, v, .int .u64 (now : Nat)] h (zmj R h p m (if ok = true then zdd (zct P L) now else P) (if ok = true then zdo (zct P L) now else []) (if ok = true then 0 else 2)) := by
 refine zjF x hR lk hb hg (fun e => ?_) fun e1 e2 w es h' a b c d => ?_
 ·have e' := hok.trans e
  subst e'
  exact ⟨.nilsl, [], rfl, But.refl _ _ _, wf, x, LsP.nil _ _⟩
 ·have e' : ok = true := by rw [hok, e1, e2]; rfl
  subst e'
  exact ⟨w, es, rfl, a, b, c, d⟩
structure ActOk (P2 : Pc) (out : List Chg) (n : Nat) : Prop where
 rise : Rise cmpC P2.S
 len : P2.S.length ≤ n
 olen : out.length ≤ n
 gap : P2.gap ≤ 3600
 or' : out = [] ∨ P2.S = []
end Go.Am

namespace Go.Am
open Go.Proofs

set_option maxRecDepth 100000
theorem ziK : Fr.plainRun (Fr.runO8 [] Fr.q.tab 100000 60) 63 [.str [108, 52, 32, 49, 48, 46, 48, 46, 48, 46, 48, 47, 56]] = some (.tup [.agg [.int .i64 3, .int .u64 0, .str [10, 0, 0, 0], .int .i64 8], .int .i64 0]) := by kernel_rfl
theorem ziY (h : H) : Pure Tryz.prog 63 [.str [108, 52, 32, 49, 48, 46, 48, 46, 48, 46, 48, 47, 56]] h (.tup [.agg [.int .i64 3, .int .u64 0, .str [10, 0, 0, 0], .int .i64 8], .int .i64 0]) := zeA p_no Fr.q.tab_ok ziK h
theorem ziq : Fr.plainRun (Fr.runO8 [] Fr.q.tab 100000 60) 63 [.str [108, 52, 32, 57, 46, 48, 46, 48, 46, 48, 47, 56]] = some (.tup [.agg [.int .i64 3, .int .u64 0, .str [9, 0, 0, 0], .int .i64 8], .int .i64 0]) := by kernel_rfl
theorem zi0 (h : H) : Pure Tryz.prog 63 [.str [108, 52, 32, 57, 46, 48, 46, 48, 46, 48, 47, 56]] h (.tup [.agg [.int .i64 3, .int .u64 0, .str [9, 0, 0, 0], .int .i64 8], .int .i64 0]) := zeA p_no Fr.q.tab_ok ziq h
def zaF (b : UInt8) (med : Nat) : Chg := ⟨false, ⟨⟨3, 0, [b, 0, 0, 0], 8⟩, 0, 0⟩, attM med⟩
theorem zfm {h : H} {med : Nat} : Pure Tryz.prog 42 [.str [108, 52, 32, 49, 48, 46, 48, 46, 48, 46, 48, 47, 56], .int .u32 0, .int .u32 (med : Nat)] h (.agg (chN (zaF 10 med))) := by
 refine zae Tryz.func42 S.a10c S.a10e rfl (Nat.le_of_ble_eq_true rfl) fun wf => ?_; simp only [S.a10]
 simp
 refine ziY _ _ ?_
 simp [chN, chC, zaF, attM]
 exact ((((Ge.refl _).push _).push _).set (by omega) _).set (Nat.le_refl _) _
theorem ziH {h : H} {med : Nat} : Pure Tryz.prog 42 [.str [108, 52, 32, 57, 46, 48, 46, 48, 46, 48, 47, 56], .int .u32 0, .int .u32 (med : Nat)] h (.agg (chN (zaF 9 med))) := by
 refine zae Tryz.func42 S.a10c S.a10e rfl (Nat.le_of_ble_eq_true rfl) fun wf => ?_; simp only [S.a10]
 simp
 refine zi0 _ _ ?_
 simp [chN, chC, zaF, attM]
 exact ((((Ge.refl _).push _).push _).set (by omega) _).set (Nat.le_refl _) _
theorem zfC {g : Nat -> Option O} {j : Nat} {L : List Chg} (hL : ∀ c ∈ L, NoL c.att) (hj : g j = some (.row (L.map chN).flatten)) (hb : L.length < 1000) : CsAt g (.sl j (L.length * 23) 0 L.length (some L.length)) L (L.map chN) := by
 have hl : ∀ e ∈ L.map chN, e.length = 23 := fun e he => by
  obtain ⟨c, _, rfl⟩ := List.mem_map.1 he
  rfl
 have fl := zau hl
 rw [List.length_map] at fl
 refine ⟨⟨.inr ⟨j, L.length * 23, 0, some L.length, by simp⟩, hl, ?_, by simp; omega⟩, by simp, fun i c hi => ?_⟩
 ·rw [zaz]
  split
  ·rename_i h0
   have : L = [] := List.eq_nil_of_length_eq_zero h0
   subst this; rfl
  ·rw [zaf hj (by simpa using fl)]
   simp only [zgd, Nat.zero_add]
   rw [if_pos (by rw [fl]; exact Nat.le_refl _), List.drop_zero, <- fl, List.take_length, List.length_map]
 ·refine ⟨chN c, by rw [List.getElem?_map, hi]; rfl, .nilsl, .nilsl, .nilsl, .nilsl, .nilsl, rfl, ?_⟩
  obtain ⟨a1, a2, a3, a4, a5⟩ := hL c (List.mem_of_getElem? hi)
  exact zjv g a1 a2 a3 a4 a5
theorem zea {h : H} : Pure Tryz.prog 75 [.nilptr] h (.bool true) := by
 refine zae Tryz.func75 S.a32c S.a32e rfl (Nat.le_of_ble_eq_true rfl) fun wf => ?_; simp only [S.a32]
 have eqp : eqV TS.ptr .nilptr .nilptr = some true := rfl
 simp [eqp]
theorem zlm {h : H} {j : Nat} (hj : h.get j = some (.row [.int .i64 0, .int .u64 0, .int .u64 0, .nilmap])) : Pure Tryz.prog 75 [.ptr j 4 0] h (.bool true) := by
 refine zae Tryz.func75 S.a32c S.a32e rfl (Nat.le_of_ble_eq_true rfl) fun wf => ?_; simp only [S.a32]
 have c : zac h.get j 4 = some [.int .i64 0, .int .u64 0, .int .u64 0, .nilmap] := (zaf (n := 4) hj rfl).trans rfl
 have eqp : eqV TS.ptr (.ptr j 4 0) .nilptr = some false := rfl
 have eqm : eqV TS.map .nilmap .nilmap = some true := rfl
 simp [eqp, c, eqm]
theorem zkS {h : H} {now : Nat} : Pure Tryz.prog 69 [.nilptr, .int .u64 (now : Nat)] h (.int .i64 1) := by
 refine zae Tryz.func69 S.a26c S.a26e rfl (Nat.le_of_ble_eq_true rfl) fun wf => ?_; simp only [S.a26]
 simp
 refine zea _ ?_
 simp
theorem zla {h : H} {j now : Nat} (hj : h.get j = some (.row [.int .i64 0, .int .u64 0, .int .u64 0, .nilmap])) : Pure Tryz.prog 69 [.ptr j 4 0, .int .u64 (now : Nat)] h (.int .i64 1) := by
 refine zae Tryz.func69 S.a26c S.a26e rfl (Nat.le_of_ble_eq_true rfl) fun wf => ?_; simp only [S.a26]
 simp
 refine zlm hj _ ?_
 simp
theorem zmB {h : H} : Pure Tryz.prog 31 [.nilptr, .nilsl, .int .u64 0] h (.tup [.nilsl, .int .i64 1]) := by
 refine zae Tryz.func31 S.a5c S.a5e rfl (Nat.le_of_ble_eq_true rfl) fun wf => ?_; simp only [S.a5]
 simp
 refine zkS (now := 0) _ ?_
 simp
theorem zld {h : H} {j : Nat} (hj : h.get j = some (.row [.int .i64 0, .int .u64 0, .int .u64 0, .nilmap])) : Pure Tryz.prog 30 [.ptr j 4 0, .int .u64 0] h (.tup [.nilsl, .int .i64 1]) := by
 refine zae Tryz.func30 S.a4c S.a4e rfl (Nat.le_of_ble_eq_true rfl) fun wf => ?_; simp only [S.a4]
 simp
 refine zla (now := 0) hj _ ?_
 simp
theorem zmU {h : H} : Pure Tryz.prog 34 [.nilptr] h (.tup [.int .u64 0, .bool false]) := by
 refine zae Tryz.func34 S.a7c S.a7e rfl (Nat.le_of_ble_eq_true rfl) fun wf => ?_; simp only [S.a7]
 simp
 refine zea _ ?_
 simp
theorem zlg {h : H} : Pure Tryz.prog 33 [.nilptr] h .nilsl := by
 refine zae Tryz.func33 S.a6c S.a6e rfl (Nat.le_of_ble_eq_true rfl) fun wf => ?_; simp only [S.a6]
 simp
 refine zea _ ?_
 simp
theorem zkB {h : H} : Pure Tryz.prog 41 [.nilptr] h .nilptr := by
 refine zae Tryz.func41 S.a9c S.a9e rfl (Nat.le_of_ble_eq_true rfl) fun wf => ?_; simp only [S.a9]
 simp
 refine zea _ ?_
 simp
end Go.Am

namespace Go.Am
open Go.Proofs

set_option maxRecDepth 100000
def zbe : Chg := ⟨true, ⟨⟨3, 0, [10, 0, 0, 0], 8⟩, 0, 0⟩, att0⟩
def badA : Chg := ⟨true, ⟨⟨3, 0, [10, 0, 0, 0], 8⟩, 0, 16⟩, att0⟩
def zoQ : Chg := ⟨true, ⟨⟨3, 0, [10, 0, 0, 0], 8⟩, 0, 0⟩, attM 1⟩
def zni (g : Bool) : Chg := ⟨g, ⟨⟨0, 0, [], 0⟩, 0, 0⟩, att0⟩
def fourA : List Chg := [badA, zoQ, zni false, zni true]
theorem zkL : ∀ c ∈ zbe :: zaF 9 1 :: fourA, NoL c.att := by
 intro c hc
 simp only [fourA, List.mem_cons, List.not_mem_nil, or_false] at hc
 rcases hc with rfl | rfl | rfl | rfl | rfl | rfl <;> exact ⟨rfl, rfl, rfl, rfl, rfl⟩
theorem zgp : zbp zbe = true := by decide +kernel
theorem zgy : zbp (zaF 9 1) = true := by
 have h1 : mayN (zaF 9 1).n = true := by decide +kernel
 have h2 : (zaF 9 1).gone = false := rfl
 have h3 : attB (zaF 9 1).att = true := ziZ 1
 simp only [zbp, h1, h2, h3]
 rfl
theorem zjG : ∀ c ∈ fourA, zbp c = false := by decide +kernel
theorem ze2 {P : Program} {f : FuncId} {args : List V} {h : H} {Q : V -> H -> Prop} (F : H -> Prop) (hF : F h) (k : ∀ h', F h' -> Acalls P f args h' Q) : Acalls P f args h Q := k h hF
theorem zqn (h : H) : Pure Tryz.prog 10 [] h (.bool true) := by
 refine zae Tryz.func10 S.a0c S.a0e rfl (Nat.le_of_ble_eq_true rfl) fun wf => ?_; simp only [S.a0]
 simp
 refine zfQ (gap := -1) (fun _ => ?_) (fun e => by omega)
 simp
 refine zfQ (gap := 3601) (fun _ => ?_) (fun e => by omega)
 simp
 refine zfQ (gap := 3600) (fun e => by omega) fun _ h1 g1 w1 x1 => ?_
 obtain ⟨p, hp⟩ : ∃ p, p = h.next + 1 := ⟨_, rfl⟩
 obtain ⟨m, hm⟩ : ∃ m, m = h.next := ⟨_, rfl⟩
 rw [<- hp, <- hm] at x1
 rw [<- hp]
 simp
 refine zfm (med := 0) _ ?_
 simp [chN, chC, zaF, attM]
 obtain ⟨b7, hb7⟩ : ∃ b, b = h1.next := ⟨_, rfl⟩
 have lt1 := x1.lt w1
 refine ze2 (fun H => H.WF ∧ H.next = h1.next + 2 ∧ Ge h1 H ∧ H.get h1.next = some (.row (chN zbe)) ∧ H.get (h1.next + 1) = some (.row (chN badA))) ⟨?_, ?_, ?_, ?_, ?_⟩ fun H2 ⟨w2, n2, g2, x7, x8⟩ => ?_
 ·repeat' (first | exact w1 | refine H.WF.push ?_ _ | refine H.WF.set ?_ (by simp) _)
 ·simp
 ·repeat' (first | exact Ge.refl _ | refine Ge.push ?_ _ | refine Ge.set ?_ (by omega) _)
 ·simp [chN, chC, zbe, att0]
 ·simp [chN, chC, badA, att0]
 have y2 := x1.ge w1 g2
 refine zfm (med := 1) _ ?_
 have c7 : zac H2.get h1.next 23 = some (chN zbe) := (zaf (n := 23) x7 rfl).trans rfl
 have c8 : zac H2.get (h1.next + 1) 23 = some (chN badA) := (zaf (n := 23) x8 rfl).trans rfl
 simp only [chN, chC, zbe, badA, att0] at c7 c8 x7 x8
 have a1 : ¬ h1.next + 1 = H2.next := by omega
 have a2 : ¬ h1.next = H2.next := by omega
 simp [chN, chC, zaF, attM, c8, a1, zaj]
 have gb := g2.1
 refine zaO (fun i t h' => (t 5 = .ptr p 4 0 ∧ t 7 = .ptr h1.next 23 0 ∧ t 60 = .sl (H2.next + 1) 92 0 4 (some 4) ∧ t 61 = .int .i64 4 ∧ t 62 = .int .i64 (i : Nat)) ∧ h'.WF ∧ H2.next + 2 ≤ h'.next ∧ (∀ k, k < h.next -> h'.get k = h.get k) ∧ h'.get h1.next = some (.row (chN zbe)) ∧ h'.get (H2.next + 1) = some (.row (fourA.map chN).flatten) ∧ PaceAt h' (fun _ => True) p m ⟨3600, 0, 0, []⟩) 4
  ⟨by simp, ?_, by simp, fun k hk => ?_, ?_, ?_, ?_⟩ ?_
 ·repeat' (first | exact w2 | refine H.WF.push ?_ _ | refine H.WF.set ?_ (by simp) _)
 ·have := g1.1
  have e : ∀ G : H, Ge H2 G -> G.get k = h.get k := fun G g => by rw [g.2 k (by omega), g2.2 k (by omega), g1.2 k hk]
  refine e _ ?_
  repeat' (first | exact Ge.refl _ | refine Ge.push ?_ _ | refine Ge.set ?_ (by omega) _)
 ·have e : ∀ G : H, Ge H2 G -> G.get h1.next = some (.row (chN zbe)) := fun G g => by rw [g.2 _ (by omega), x7]; rfl
  refine e _ ?_
  repeat' (first | exact Ge.refl _ | refine Ge.push ?_ _ | refine Ge.set ?_ (by omega) _)
 ·simp [fourA, chN, chC, badA, zoQ, zni, attM, att0]
 ·refine y2.ge w2 ?_
  repeat' (first | exact Ge.refl _ | refine Ge.push ?_ _ | refine Ge.set ?_ (by omega) _)
 rintro i t h' hi ⟨⟨t5, t7, t60, t61, t62⟩, wb, nb, kb, z7, z4, y⟩ K hK
 have c7' : zac h'.get h1.next 23 = some (chN zbe) := (zaf (n := 23) z7 rfl).trans rfl
 obtain ⟨lp, lm, lpm⟩ := y.lt wb
 by_cases hlt : i < 4
 ·have hlt2 : (i : Int) < 4 := by omega
  have cs4 := zfC (g := h'.get) (j := H2.next + 1) (L := fourA) (fun c hc => zkL c (by simp [hc])) z4 (by simp [fourA])
  obtain ⟨pp, qq, o, cs, vp, vc, vx, vl, vk, e1, e2, e3, e4, e5, A, e7, _⟩ := cs4.atG wb (k := i) (by simpa [fourA] using hlt)
  have e3' := e3 h' (Ge.refl _)
  obtain ⟨X, hX⟩ : ∃ X, X = fourA[i]'(by simpa [fourA] using hlt) := ⟨_, rfl⟩
  rw [<- hX] at e5 e7
  have mX : X ∈ fourA := by rw [hX]; exact List.getElem_mem _
  have nX := zkL X (by simp [mX])
  have mayX := zjG X mX
  have e8 : chC X vp vc vx vl vk = chN X := by
   rw [List.getElem?_map, List.getElem?_eq_getElem (by simpa [fourA] using hlt), <- hX] at e7
   simpa using e7.symm
  rw [e8] at e5
  simp only [fourA, List.length_cons, List.length_nil, Nat.zero_add, Nat.reduceAdd, Nat.reduceMul] at e1
  simp only [chN, chC] at e5 c7'
  have b1 : ¬ h1.next = h'.next := by omega
  simp [t5, t7, t60, t61, t62, hlt2, e1, e3', e4, e5, c7', zaj, b1]
  refine ze2 (fun H => H.WF ∧ H.next = h'.next + 2 ∧ Ge h' H ∧ H.get (h'.next + 1) = some (.row ([zbe, X].map chN).flatten)) ⟨?_, ?_, ?_, ?_⟩ fun H4 ⟨w4, n4, g4, z2⟩ => ?_
  ·repeat' (first | exact wb | refine H.WF.push ?_ _ | refine H.WF.set ?_ (by simp) _)
  ·simp
  ·repeat' (first | exact Ge.refl _ | refine Ge.push ?_ _ | refine Ge.set ?_ (by omega) _)
  ·simp [chN, chC, zbe, att0]
  have y4 := y.ge wb g4
  have pp5 := zfZ (L := [zbe, X]) (es := [zbe, X].map chN) (v := .sl (h'.next + 1) 46 0 2 (some 2)) (now := 5) w4 y4 (fun _ _ => trivial) (fun h9 bt => zfC (L := [zbe, X]) (j := h'.next + 1) (fun c hc => by
   simp only [List.mem_cons, List.not_mem_nil, or_false] at hc
   rcases hc with rfl | rfl
   ·exact zkL _ (by simp)
   ·exact nX) (by rw [bt.keep _ (by omega) (by omega) (by omega)]; exact z2) (by simp)) (by simp) (by simp) (ok := false) (by simp [mayX])
  refine pp5.mono ?_
  rintro _ h5 ⟨wa, ea, rfl, b5, w5, y5, l5⟩
  simp only [Bool.false_eq_true, if_false] at y5 l5 ⊢
  have n5 := b5.next
  have k5 : ∀ k, k < h'.next -> k ≠ p -> k ≠ m -> h5.get k = h'.get k := fun k hk a b => by rw [b5.keep k (by omega) a b, g4.2 k hk]
  simp [t5]
  refine zj7 y5 (by simp) fun w6 e6 h6 g6 w6' l6 => ?_
  have n6 := g6.1
  have ln6 := l6.lenV h6.get
  simp only [List.length_nil] at ln6
  simp [ln6, t62]
  have wi : IntKind.i64.wrap ((i : Int) + 1) = (i : Int) + 1 := zaB (by omega) (by omega)
  simp [wi]
  have kk : ∀ k, k < h'.next -> k ≠ p -> k ≠ m -> h6.get k = h'.get k := fun k hk a b => by rw [g6.2 k (by omega)]; exact k5 k hk a b
  refine hK _ _ hlt ⟨by simp [t5, t7, t60, t61], w6', by omega, fun k hk => ?_, ?_, ?_, y5.ge w5 g6⟩
  ·have := g1.1
   rw [kk k (by omega) (by omega) (by omega)]; exact kb k hk
  ·rw [kk _ (by omega) (by omega) (by omega)]; exact z7
  ·rw [kk _ (by omega) (by omega) (by omega)]; exact z4
 ·have hi4 : i = 4 := by omega
  subst hi4
  simp [t61, t62]
  have lt7 := wb.lt z7
  refine zdE [h1.next] [0, 2, 1, 0, 0, 0, 0, 0, 0, 0] rfl (by rfl) ?_
  simp only [chN, chC] at c7'
  simp [t5, t7, c7', I.foot, za3]
  refine zcU (ziH (med := 1)) (by decide) (fun _ => fun k hk => rfl) ?_
  simp [chN, chC, zaj]
  obtain ⟨H4, hH4⟩ : ∃ H, H = h'.push (.row ([zbe, zaF 9 1].map chN).flatten) := ⟨_, rfl⟩
  have g4 : Ge h' H4 := by rw [hH4]; exact (Ge.refl _).push _
  have w4 : H4.WF := by rw [hH4]; exact wb.push _
  have n4 : H4.next = h'.next + 1 := by rw [hH4]; simp
  have z2 : H4.get h'.next = some (.row ([zbe, zaF 9 1].map chN).flatten) := by rw [hH4]; simp
  have y4 := y.ge wb g4
  have noL2 : ∀ c ∈ [zbe, zaF 9 1], NoL c.att := fun c hc => zkL c (by
   simp only [List.mem_cons, List.not_mem_nil, or_false] at hc ⊢
   rcases hc with rfl | rfl <;> simp)
  have pp5 := zfZ (L := [zbe, zaF 9 1]) (es := [zbe, zaF 9 1].map chN) (v := .sl h'.next 46 0 2 (some 2)) (now := 5) w4 y4 (fun _ _ => trivial) (fun h9 bt => zfC (L := [zbe, zaF 9 1]) (j := h'.next) noL2 (by rw [bt.keep _ (by omega) (by omega) (by omega)]; exact z2) (by simp)) (by simp) (by simp) (ok := true) (by simp [zgp, zgy, zcZ])
  have fo5 : zdo (zct ⟨3600, 0, 0, []⟩ [zbe, zaF 9 1]) 5 = [zaF 9 1, zbe] := by decide +kernel
  have fp5 : zdd (zct ⟨3600, 0, 0, []⟩ [zbe, zaF 9 1]) 5 = ⟨3600, 3605, 5, []⟩ := by
   have e : zch (zct ⟨3600, 0, 0, []⟩ [zbe, zaF 9 1]) 5 = true := by decide +kernel
   rw [zdd, if_pos e]
   rfl
  simp only [if_true] at pp5
  rw [fo5, fp5] at pp5
  have z2' : ∀ c ∈ [zaF 9 1, zbe], AttSz c.att := fun c hc => by
   simp only [List.mem_cons, List.not_mem_nil, or_false] at hc
   rcases hc with rfl | rfl
   ·exact zlP zgy
   ·exact zlP zgp
  obtain ⟨v9, e9, g9, a9, b9, f9⟩ := zmV w4 z2'
  have na9 := a9.1
  simp only [List.map_cons, List.map_nil, List.flatten_cons, List.flatten_nil, List.append_nil, chN, chC, List.cons_append, List.nil_append] at hH4
  rw [<- hH4]
  refine ⟨by decide, zmj (fun _ => True) H4 p m ⟨3600, 3605, 5, []⟩ [zaF 9 1, zbe] 0, ⟨.tup [v9, .int .i64 0], (g9.set p (.row [.int .i64 (3600 : Nat), .int .u64 (3605 : Nat), .int .u64 (5 : Nat), .map m])).set m (.mapo [] [] 0), v9, e9, rfl, ?_, ?_, ?_, ?_⟩, pp5, ?_⟩
  ·exact ⟨by simpa using a9.1, fun k hk k1 k2 => by rw [H.get_set, if_neg k2, H.get_set, if_neg k1]; exact a9.2 k hk⟩
  ·exact (b9.set (by omega) _).set (by simp; omega) _
  ·exact ⟨by rw [H.get_set, if_neg lpm, H.get_set, if_pos rfl], [], [], 0, [], by simp, MapB.nil _, ⟨List.Perm.refl _, List.Pairwise.nil⟩, rfl, by simp⟩
  ·exact f9.ls.keep (by simp) fun j hj _ => by rw [H.get_set, if_neg (by omega), H.get_set, if_neg (by omega)]
  rintro _ h5 ⟨wa, ea, rfl, b5, w5, y5, l5⟩
  have n5 := b5.next
  simp [t5]
  -- what came out stays
  have lst : ∀ G : H, But h5 G p m -> LsP G (fun j => H4.next ≤ j) wa [zaF 9 1, zbe] ea := fun G bt => l5.keep bt.next fun j hj hl => bt.keep j hl (by omega) (by omega)
  have cn : ∀ G : H, CsAt G.get .nilsl [] [] := fun G => ⟨zbM _ _, rfl, by simp⟩
  refine (zfZ (L := []) (es := []) (v := .nilsl) (now := 4) w5 y5 (fun _ _ => trivial) (fun G _ => cn G) (by simp) (by simp) (ok := false) (by decide)).mono ?_
  rintro _ h6 ⟨wb6, eb6, rfl, b6, w6, y6, l6⟩
  simp only [Bool.false_eq_true, if_false] at y6 l6 ⊢
  simp [t5]
  refine (zgs (now := 1099511627777) w6 y6 (by simp) (by simp) (ok := false) (by decide)).mono ?_
  rintro _ h7 ⟨wb7, eb7, rfl, b7', w7, y7, l7⟩
  simp only [Bool.false_eq_true, if_false] at y7 l7 ⊢
  simp [t5]
  refine (zgs (now := 1099511627776) w7 y7 (by simp) (by simp) (ok := true) (by decide)).mono ?_
  rintro _ h8 ⟨wb8, eb8, rfl, b8, w8, y8, l8⟩
  have fo8 : zdo ⟨3600, 3605, 5, []⟩ 1099511627776 = [] := by decide +kernel
  simp only [if_true] at y8 l8 ⊢
  rw [fo8] at l8
  have la := lst h8 ((b6.trans b7').trans b8)
  obtain ⟨pp, qq, o, cs, vp, vc, vx, vl, vk, i1, _, i2, i3, i4, _, _, i5⟩ := (la.at (by simp)).atG w8 (k := 0) (by simp)
  obtain ⟨pp', qq', o', cs', vp', vc', vx', vl', vk', j1, _, j2, j3, j4, _, _, j5⟩ := (la.at (by simp)).atG w8 (k := 1) (by simp)
  have i2' := i2 h8 (Ge.refl _)
  have j2' := j2 h8 (Ge.refl _)
  have i6 := i5 0 (by omega)
  have j6 := j5 0 (by omega)
  simp [chC, zaF] at i6
  simp [chC, zbe] at j6
  have i1' := i1 .i64
  have j1' := j1 .i64
  simp at i1' j1'
  have c1 := la.lenV h8.get
  have c2 := l8.lenV h8.get
  simp only [List.length_cons, List.length_nil, Nat.zero_add, Nat.reduceAdd] at c1 c2
  simp [c1, c2, i1', i2', i6, j1', j2', j6]
  refine zmB _ ?_
  simp
  refine zld (by simp) _ ?_
  simp
  refine zmU _ ?_
  simp
  refine zlg _ ?_
  simp
  refine zkB _ ?_
  have eqp : eqV TS.ptr .nilptr .nilptr = some true := rfl
  simp [eqp]
  refine zk9 _ _ ?_
  simp
  have := b6.next
  have := b7'.next
  have := b8.next
  have := g1.1
  exact Ge.push (b := h8) ⟨by omega, fun k hk => by rw [b8.keep k (by omega) (by omega) (by omega), b7'.keep k (by omega) (by omega) (by omega), b6.keep k (by omega) (by omega) (by omega), b5.keep k (by omega) (by omega) (by omega), g4.2 k (by omega)]; exact kb k hk⟩ _
end Go.Am
