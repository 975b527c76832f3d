/-
 AT0, AT1, AT2, AT3, AT4, AT5, AT6, AT7, AT8, AD, in one text.
-/
import Derived.Test.YtpgcodeckphanaaGreatDoorJMA
import Derived.Test.YtpgcodeckphanaaGreatDoorJAm37
import Derived.Test.YtpgcodeckphanaaGreatDoorJAm40
import Derived.Test.YtpgcodeckphanaaGreatDoorJAm45
namespace Go.Am

structure Sg where
 kind : Int
 ases : List Nat
 deriving DecidableEq
structure Att where
 origin : Int
 path : List Sg
 next : List UInt8
 hasMed : Bool
 med : Nat
 hasPref : Bool
 pref : Nat
 atomic : Bool
 aggAS : Nat
 aggId : Nat
 comms : List Nat
 exts : List Nat
 larges : List Lg
 hasOrig : Bool
 orig : Nat
 clus : List Nat
 deriving DecidableEq
def att0 : Att := ⟨0, [], [], false, 0, false, 0, false, 0, 0, [], [], [], false, 0, []⟩
def attC (a : Att) (vp vc vx vl vk : V) : List V := [.int .i64 a.origin, vp, .str a.next, .bool a.hasMed, .int .u32 (a.med : Nat), .bool a.hasPref, .int .u32 (a.pref : Nat), .bool a.atomic, .int .u32 (a.aggAS : Nat), .int .u32 (a.aggId : Nat), vc, vx, vl, .bool a.hasOrig, .int .u32 (a.orig : Nat), vk]

structure SegsAt (g : Nat -> Option O) (v : V) (l : List Sg) (es : List (List V)) : Prop where
 sls : Sls g 2 v es
 len : es.length = l.length
 seg : ∀ (i : Nat) (s : Sg), l[i]? = some s -> ∃ w, es[i]? = some [.int .i64 s.kind, w] ∧ Sls g 1 w (s.ases.map cP)
structure AttAt (g : Nat -> Option O) (a : Att) (vp vc vx vl vk : V) : Prop where
 path : ∃ es, SegsAt g vp a.path es
 comms : Sls g 1 vc (a.comms.map cP)
 exts : Sls g 1 vx (a.exts.map cX)
 larges : Sls g 3 vl (a.larges.map cL)
 clus : Sls g 1 vk (a.clus.map cP)
theorem SegsAt.mono {g g' : Nat -> Option O} {v : V} {l : List Sg} {es : List (List V)} (s : SegsAt g v l es) (k : ∀ i o, g i = some o -> g' i = some o) : SegsAt g' v l es :=
 ⟨s.sls.mono k, s.len, fun i x hx => by obtain ⟨w, e, h⟩ := s.seg i x hx; exact ⟨w, e, h.mono k⟩⟩
theorem AttAt.mono {g g' : Nat -> Option O} {a : Att} {vp vc vx vl vk : V} (s : AttAt g a vp vc vx vl vk) (k : ∀ i o, g i = some o -> g' i = some o) : AttAt g' a vp vc vx vl vk :=
 ⟨by obtain ⟨es, h⟩ := s.path; exact ⟨es, h.mono k⟩, s.comms.mono k, s.exts.mono k, s.larges.mono k, s.clus.mono k⟩
theorem SegsAt.ge {a b : H} {v : V} {l : List Sg} {es : List (List V)} (s : SegsAt a.get v l es) (w : a.WF) (x : Ge a b) : SegsAt b.get v l es := s.mono (x.keeps w)
theorem AttAt.ge {h h' : H} {a : Att} {vp vc vx vl vk : V} (s : AttAt h.get a vp vc vx vl vk) (w : h.WF) (x : Ge h h') : AttAt h'.get a vp vc vx vl vk := s.mono (x.keeps w)
theorem SegsAt.atG {a : H} {v : V} {l : List Sg} {es : List (List V)} (s : SegsAt a.get v l es) (w : a.WF) {k : Nat} (hk : k < l.length) :
  ∃ p q o cs u, (∀ kd, zaH 2 v (.int kd (k : Int)) = some (.ptr p q o)) ∧ p < a.next ∧ (∀ b, Ge a b -> zab b.get p q = some cs) ∧ o + 2 ≤ cs.length ∧ (cs.drop o).take 2 = [.int .i64 l[k].kind, u] ∧ cs[o]? = some (.int .i64 l[k].kind) ∧ cs[o + 1]? = some u ∧ Sls a.get 1 u (l[k].ases.map cP) ∧ es[k]? = some [.int .i64 l[k].kind, u] := by
 have hk' : k < es.length := by rw [s.len]; exact hk
 obtain ⟨u, e1, e2⟩ := s.seg k l[k] (List.getElem?_eq_getElem hk)
 obtain ⟨p, q, o, cs, h1, h2, h3, h4, h5, h6⟩ := s.sls.atG w hk'
 rw [List.getElem?_eq_getElem hk', Option.some.injEq] at e1
 have i0 := h6 0 (by omega)
 have i1 := h6 1 (by omega)
 rw [e1] at h5
 simp only [e1] at i0 i1
 exact ⟨p, q, o, cs, u, h1, h2, h3, h4, h5, by simpa using i0, by simpa using i1, e2, by rw [List.getElem?_eq_getElem hk', e1]⟩

def segB (s : Sg) : Bool := decide (1 ≤ s.kind) && decide (s.kind ≤ 4) && decide (1 ≤ s.ases.length) && decide (s.ases.length ≤ 255) && !(decide (0 ∈ s.ases))
def zcy (l : List Sg) : Bool := decide (l.length ≤ 16) && l.all segB
def risB {α : Type} (c : α -> α -> Int) (l : List α) : Bool := adjB c l && decide (l.length ≤ 64)
def attB (a : Att) : Bool :=
 decide (0 ≤ a.origin) && decide (a.origin ≤ 2) && zcy a.path && (decide (a.next.length = 0) || decide (a.next.length = 4) || decide (a.next.length = 16)) && (a.hasMed || decide (a.med = 0)) && (a.hasPref || decide (a.pref = 0)) && (a.hasOrig || decide (a.orig = 0)) &&
 (!decide (a.aggAS = 0) || decide (a.aggId = 0)) && decide (a.clus.length ≤ 32) && risB oN a.comms && risB oN a.exts && risB oL a.larges

def Fc (h : H) (lo sz : Nat) (v : V) (es : List (List V)) : Prop := (es = [] ∧ (v = .nilsl ∨ ∃ k, lo ≤ k ∧ v = .sl k 0 0 0 (some 0))) ∨ (es ≠ [] ∧ Gl h lo sz v es)
theorem Fc.one {h : H} {lo sz : Nat} {v : V} {es : List (List V)} (f : Fc h lo sz v es) : v.one = true := by
 rcases f with ⟨_, rfl | ⟨_, _, rfl⟩⟩ | ⟨_, g⟩
 ·rfl
 ·rfl
 ·exact g.one
theorem Fc.sls {h : H} {lo sz : Nat} {v : V} {es : List (List V)} (f : Fc h lo sz v es) (hs : ∀ e ∈ es, e.length = sz) (hb : es.length < 9223372036854775808) : Sls h.get sz v es := by
 rcases f with ⟨rfl, rfl | ⟨_, _, rfl⟩⟩ | ⟨_, g⟩
 ·exact ⟨.inl ⟨rfl, .inl rfl⟩, by simp, rfl, by simp⟩
 ·exact ⟨.inr ⟨_, _, _, _, rfl⟩, by simp, by simp [zaJ], by simp⟩
 ·exact g.sls hs hb
theorem Gl.fr {h : H} {lo sz : Nat} {v : V} {es : List (List V)} (g : Gl h lo sz v es) : Fc h lo sz v es := by
 by_cases he : es = []
 ·rcases g with ⟨rfl, rfl⟩ | ⟨hne, _⟩
  ·exact .inl ⟨rfl, .inl rfl⟩
  ·exact absurd he hne
 ·exact .inr ⟨he, g⟩
theorem Fc.keep {h h' : H} {lo sz : Nat} {v : V} {es : List (List V)} (f : Fc h lo sz v es) (hn : h.next ≤ h'.next) (k : ∀ i ∈ v.ids, i < h.next -> h'.get i = h.get i) : Fc h' lo sz v es := by
 rcases f with h1 | ⟨hne, g⟩
 ·exact .inl h1
 ·exact .inr ⟨hne, g.keep hn fun i hi => k i hi (g.lo i hi).2⟩
theorem Fc.ge {h h' : H} {lo sz : Nat} {v : V} {es : List (List V)} (f : Fc h lo sz v es) (g : Ge h h') : Fc h' lo sz v es := f.keep g.1 fun i _ hi => g.2 i hi
theorem Fc.le {h : H} {lo lo' sz : Nat} {v : V} {es : List (List V)} (f : Fc h lo sz v es) (hl : lo' ≤ lo) : Fc h lo' sz v es := by
 rcases f with ⟨h1, h2 | ⟨k, h2, h3⟩⟩ | ⟨hne, h1 | ⟨h1, k, h2, h3, h4⟩⟩
 ·exact .inl ⟨h1, .inl h2⟩
 ·exact .inl ⟨h1, .inr ⟨k, by omega, h3⟩⟩
 ·exact .inr ⟨hne, .inl h1⟩
 ·exact .inr ⟨hne, .inr ⟨h1, k, by omega, h3, h4⟩⟩
theorem Fc.lo {h : H} {lo sz : Nat} {v : V} {es : List (List V)} (f : Fc h lo sz v es) : ∀ i ∈ v.ids, lo ≤ i := by
 rcases f with ⟨_, rfl | ⟨k, hk, rfl⟩⟩ | ⟨_, g⟩
 ·simp [V.ids]
 ·simp [V.ids]; exact hk
 ·exact fun i hi => (g.lo i hi).1
theorem Fc.cap {h : H} {lo sz : Nat} {v : V} {es : List (List V)} (f : Fc h lo sz v es) : zcb v := by
 rcases f with ⟨_, rfl | ⟨k, hk, rfl⟩⟩ | ⟨_, g⟩
 ·trivial
 ·simp [zcb]
 ·exact g.cap
theorem zf5 {g : Nat -> Option O} {next sz bytes k m : Nat} {xs : List V} {x : V} (hx : zaC g sz x = some (m, xs)) (hm : m ≠ 0) (h1 : xs.all V.one = true) (hsz : sz ≠ 0) (hb : m * bytes ≤ 140737488355328) (hb2 : m ≤ 9223372036854775807) :
  zaz g next sz bytes (.sl k 0 0 0 (some 0)) x = some (.sl next (m * sz) 0 m none, .push (.grow sz xs)) := by
 have e0 : zaC g sz (.sl k 0 0 0 (some 0)) = some (0, []) := by rw [zaJ, if_pos rfl]
 unfold zaz
 rw [hx]
 simp only
 rw [if_neg hm, if_neg (by simp [h1, hsz])]
 simp only [Nat.zero_add]
 rw [if_neg (by omega), e0]
 simp only [List.nil_append]
 rw [if_pos ⟨hb, hb2⟩]
theorem zgg {g : Nat -> Option O} {next sz bytes k : Nat} {x : V} (hx : zaC g sz x = some (0, [])) : zaz g next sz bytes (.sl k 0 0 0 (some 0)) x = some (.sl k 0 0 0 (some 0), .keep) := by
 unfold zaz
 rw [hx]
 simp
theorem neI (x y : Int) : (x != y) = !decide (x = y) := by by_cases h : x = y <;> simp [h]
theorem eqI (x y : Int) : (x == y) = decide (x = y) := by by_cases h : x = y <;> simp [h]
theorem za1 {α : Type} {l m : List α} {i : Nat} (h1 : i < l.length) (h2 : i < m.length) (h : l.take i = m.take i) (e : l[i] = m[i]) : l.take (i + 1) = m.take (i + 1) := by
 rw [List.take_add_one, List.take_add_one, h, List.getElem?_eq_getElem h1, List.getElem?_eq_getElem h2, e]
theorem zbV {α : Type} {l m : List α} {i : Nat} (h1 : i < l.length) (h2 : i < m.length) (e : l[i] ≠ m[i]) : l ≠ m := fun h => e (by subst h; rfl)
theorem zbl {α : Type} {l m : List α} {i : Nat} (hl : l.length = i) (hm : m.length = i) (h : l.take i = m.take i) : l = m := by
 rwa [List.take_of_length_le (by omega), List.take_of_length_le (by omega)] at h
theorem zbT (l : List Nat) : ∀ e ∈ l.map cP, e.length = 1 := fun e he => by obtain ⟨n, _, rfl⟩ := List.mem_map.1 he; rfl
theorem ziR (l : List Nat) : ∀ e ∈ l.map cX, e.length = 1 := fun e he => by obtain ⟨n, _, rfl⟩ := List.mem_map.1 he; rfl
theorem ziH (l : List Lg) : ∀ e ∈ l.map cL, e.length = 3 := fun e he => by obtain ⟨n, _, rfl⟩ := List.mem_map.1 he; rfl
theorem zd6 (l : List Nat) : ∀ e ∈ l.map cP, e.all V.one = true := fun e he => by obtain ⟨n, _, rfl⟩ := List.mem_map.1 he; rfl
theorem zil (l : List Nat) : ∀ e ∈ l.map cX, e.all V.one = true := fun e he => by obtain ⟨n, _, rfl⟩ := List.mem_map.1 he; rfl
theorem ziV (l : List Lg) : ∀ e ∈ l.map cL, e.all V.one = true := fun e he => by obtain ⟨n, _, rfl⟩ := List.mem_map.1 he; rfl
end Go.Am

namespace Go.Am
open Go.Proofs

set_option maxRecDepth 100000

theorem zlX {h : H} {v : V} {es : List (List V)} (hs : Sls h.get 2 v es) (ho : ∀ e ∈ es, e.all V.one = true) (hl : es.length * 32 ≤ 140737488355328) {Q : V -> H -> Prop}
  (q : ∀ v' h', Ge h h' -> h'.WF -> Fc h' h.next 2 v' es -> Q v' h') : Acalls Tryz.prog 120 [v] h Q := by
 refine zal Tryz.func120 S.a70c S.a70e (Nat.le_of_ble_eq_true rfl) fun wf => ?_; simp only [S.a70]
 obtain ⟨h1, hh1⟩ : ∃ h1, h1 = h.push (.row []) := ⟨_, rfl⟩
 have g1 : Ge h h1 := by rw [hh1]; exact (Ge.refl _).push _
 have w1 : h1.WF := by rw [hh1]; exact wf.push _
 have n1 : h1.next = h.next + 1 := by rw [hh1]; simp
 have s1 := (hs.ge wf g1).read
 by_cases hv : v = .nilsl
 ·subst hv
  have hl0 : es = [] := by
   rcases hs.kind with ⟨e, _⟩ | ⟨_, _, _, _, e⟩
   ·exact e
   ·cases e
  have en : eqV .sl .nilsl .nilsl = some true := rfl
  simp [en]
  exact q _ _ (Ge.refl _) wf (.inl ⟨hl0, .inl rfl⟩)
 ·have en : eqV .sl v .nilsl = some false := by
   rcases hs.kind with ⟨_, rfl | rfl⟩ | ⟨_, _, _, _, rfl⟩
   ·exact absurd rfl hv
   ·rfl
   ·rfl
  simp [en]
  rw [<- hh1]
  by_cases h0 : es.length = 0
  ·have hl0 : es = [] := List.eq_nil_of_length_eq_zero h0
   subst hl0
   have a0 := zgg (next := h1.next) (bytes := 32) (k := h.next) s1
   rw [n1] at a0
   simp [n1, a0]
   exact q _ _ g1 w1 (.inl ⟨rfl, .inr ⟨_, Nat.le_refl _, rfl⟩⟩)
  ·have hne : es ≠ [] := fun e => h0 (by rw [e]; rfl)
   have ones : es.flatten.all V.one = true := by rw [List.all_flatten]; exact List.all_eq_true.2 ho
   have a0 := zf5 (next := h1.next) (bytes := 32) (k := h.next) s1 h0 ones (by decide) (by omega) (by omega)
   rw [n1] at a0
   simp [n1, a0]
   have hfl := zau hs.size
   refine q _ _ (g1.push _) (w1.push _) (.inr ⟨hne, .inr ⟨hne, h1.next, by omega, by simp, ?_, by simp⟩⟩)
   rw [hfl, n1]

theorem zhu {h : H} (wf : h.WF) {v : V} {es : List (List V)} (hs : Sls h.get 1 v es) (ho : ∀ e ∈ es, e.all V.one = true) (hl : es.length * 4 ≤ 140737488355328) :
  ∃ v' h', (∀ Q : V -> H -> Prop, Q v' h' -> Acalls Tryz.prog 121 [v] h Q) ∧ Ge h h' ∧ h'.WF ∧ Fc h' h.next 1 v' es := by
 have g1 : Ge h (h.push (.row [])) := (Ge.refl _).push _
 have s1 := (hs.ge wf g1).read
 by_cases hv : v = .nilsl
 ·subst hv
  have hl0 : es = [] := by
   rcases hs.kind with ⟨e, _⟩ | ⟨_, _, _, _, e⟩
   ·exact e
   ·cases e
  refine ⟨.nilsl, h, fun Q hq => ?_, Ge.refl _, wf, .inl ⟨hl0, .inl rfl⟩⟩
  clear wf
  refine zal Tryz.func121 S.a71c S.a71e (Nat.le_of_ble_eq_true rfl) fun wf => ?_; simp only [S.a71]
  have en : eqV .sl .nilsl .nilsl = some true := rfl
  simp [en]
  exact hq
 ·have en : eqV .sl v .nilsl = some false := by
   rcases hs.kind with ⟨_, rfl | rfl⟩ | ⟨_, _, _, _, rfl⟩
   ·exact absurd rfl hv
   ·rfl
   ·rfl
  by_cases h0 : es.length = 0
  ·have hl0 : es = [] := List.eq_nil_of_length_eq_zero h0
   subst hl0
   refine ⟨.sl h.next 0 0 0 (some 0), h.push (.row []), fun Q hq => ?_, g1, wf.push _, .inl ⟨rfl, .inr ⟨_, Nat.le_refl _, rfl⟩⟩⟩
   clear wf
   refine zal Tryz.func121 S.a71c S.a71e (Nat.le_of_ble_eq_true rfl) fun wf => ?_; simp only [S.a71]
   have a0 := zgg (next := h.next + 1) (bytes := 4) (k := h.next) s1
   simp [en]
   simp [a0]
   exact hq
  ·have hne : es ≠ [] := fun e => h0 (by rw [e]; rfl)
   have ones : es.flatten.all V.one = true := by rw [List.all_flatten]; exact List.all_eq_true.2 ho
   have hfl := zau hs.size
   refine ⟨.sl (h.next + 1) (es.length * 1) 0 es.length none, (h.push (.row [])).push (.grow 1 es.flatten), fun Q hq => ?_, g1.push _, (wf.push _).push _, .inr ⟨hne, .inr ⟨hne, h.next + 1, by omega, by simp, by rw [hfl], by simp⟩⟩⟩
   clear wf
   refine zal Tryz.func121 S.a71c S.a71e (Nat.le_of_ble_eq_true rfl) fun wf => ?_; simp only [S.a71]
   have a0 := zf5 (next := h.next + 1) (bytes := 4) (k := h.next) s1 h0 ones (by decide) (by omega) (by omega)
   simp [en]
   simp [a0]
   simpa using hq

theorem zoe {h : H} (wf : h.WF) {v : V} {es : List (List V)} (hs : Sls h.get 1 v es) (ho : ∀ e ∈ es, e.all V.one = true) (hl : es.length * 8 ≤ 140737488355328) :
  ∃ v' h', (∀ Q : V -> H -> Prop, Q v' h' -> Acalls Tryz.prog 122 [v] h Q) ∧ Ge h h' ∧ h'.WF ∧ Fc h' h.next 1 v' es := by
 have g1 : Ge h (h.push (.row [])) := (Ge.refl _).push _
 have s1 := (hs.ge wf g1).read
 by_cases hv : v = .nilsl
 ·subst hv
  have hl0 : es = [] := by
   rcases hs.kind with ⟨e, _⟩ | ⟨_, _, _, _, e⟩
   ·exact e
   ·cases e
  refine ⟨.nilsl, h, fun Q hq => ?_, Ge.refl _, wf, .inl ⟨hl0, .inl rfl⟩⟩
  clear wf
  refine zal Tryz.func122 S.a72c S.a72e (Nat.le_of_ble_eq_true rfl) fun wf => ?_; simp only [S.a72]
  have en : eqV .sl .nilsl .nilsl = some true := rfl
  simp [en]
  exact hq
 ·have en : eqV .sl v .nilsl = some false := by
   rcases hs.kind with ⟨_, rfl | rfl⟩ | ⟨_, _, _, _, rfl⟩
   ·exact absurd rfl hv
   ·rfl
   ·rfl
  by_cases h0 : es.length = 0
  ·have hl0 : es = [] := List.eq_nil_of_length_eq_zero h0
   subst hl0
   refine ⟨.sl h.next 0 0 0 (some 0), h.push (.row []), fun Q hq => ?_, g1, wf.push _, .inl ⟨rfl, .inr ⟨_, Nat.le_refl _, rfl⟩⟩⟩
   clear wf
   refine zal Tryz.func122 S.a72c S.a72e (Nat.le_of_ble_eq_true rfl) fun wf => ?_; simp only [S.a72]
   have a0 := zgg (next := h.next + 1) (bytes := 8) (k := h.next) s1
   simp [en]
   simp [a0]
   exact hq
  ·have hne : es ≠ [] := fun e => h0 (by rw [e]; rfl)
   have ones : es.flatten.all V.one = true := by rw [List.all_flatten]; exact List.all_eq_true.2 ho
   have hfl := zau hs.size
   refine ⟨.sl (h.next + 1) (es.length * 1) 0 es.length none, (h.push (.row [])).push (.grow 1 es.flatten), fun Q hq => ?_, g1.push _, (wf.push _).push _, .inr ⟨hne, .inr ⟨hne, h.next + 1, by omega, by simp, by rw [hfl], by simp⟩⟩⟩
   clear wf
   refine zal Tryz.func122 S.a72c S.a72e (Nat.le_of_ble_eq_true rfl) fun wf => ?_; simp only [S.a72]
   have a0 := zf5 (next := h.next + 1) (bytes := 8) (k := h.next) s1 h0 ones (by decide) (by omega) (by omega)
   simp [en]
   simp [a0]
   simpa using hq

theorem znH {h : H} (wf : h.WF) {v : V} {es : List (List V)} (hs : Sls h.get 3 v es) (ho : ∀ e ∈ es, e.all V.one = true) (hl : es.length * 12 ≤ 140737488355328) :
  ∃ v' h', (∀ Q : V -> H -> Prop, Q v' h' -> Acalls Tryz.prog 123 [v] h Q) ∧ Ge h h' ∧ h'.WF ∧ Fc h' h.next 3 v' es := by
 have g1 : Ge h (h.push (.row [])) := (Ge.refl _).push _
 have s1 := (hs.ge wf g1).read
 by_cases hv : v = .nilsl
 ·subst hv
  have hl0 : es = [] := by
   rcases hs.kind with ⟨e, _⟩ | ⟨_, _, _, _, e⟩
   ·exact e
   ·cases e
  refine ⟨.nilsl, h, fun Q hq => ?_, Ge.refl _, wf, .inl ⟨hl0, .inl rfl⟩⟩
  clear wf
  refine zal Tryz.func123 S.a73c S.a73e (Nat.le_of_ble_eq_true rfl) fun wf => ?_; simp only [S.a73]
  have en : eqV .sl .nilsl .nilsl = some true := rfl
  simp [en]
  exact hq
 ·have en : eqV .sl v .nilsl = some false := by
   rcases hs.kind with ⟨_, rfl | rfl⟩ | ⟨_, _, _, _, rfl⟩
   ·exact absurd rfl hv
   ·rfl
   ·rfl
  by_cases h0 : es.length = 0
  ·have hl0 : es = [] := List.eq_nil_of_length_eq_zero h0
   subst hl0
   refine ⟨.sl h.next 0 0 0 (some 0), h.push (.row []), fun Q hq => ?_, g1, wf.push _, .inl ⟨rfl, .inr ⟨_, Nat.le_refl _, rfl⟩⟩⟩
   clear wf
   refine zal Tryz.func123 S.a73c S.a73e (Nat.le_of_ble_eq_true rfl) fun wf => ?_; simp only [S.a73]
   have a0 := zgg (next := h.next + 1) (bytes := 12) (k := h.next) s1
   simp [en]
   simp [a0]
   exact hq
  ·have hne : es ≠ [] := fun e => h0 (by rw [e]; rfl)
   have ones : es.flatten.all V.one = true := by rw [List.all_flatten]; exact List.all_eq_true.2 ho
   have hfl := zau hs.size
   refine ⟨.sl (h.next + 1) (es.length * 3) 0 es.length none, (h.push (.row [])).push (.grow 3 es.flatten), fun Q hq => ?_, g1.push _, (wf.push _).push _, .inr ⟨hne, .inr ⟨hne, h.next + 1, by omega, by simp, by rw [hfl], by simp⟩⟩⟩
   clear wf
   refine zal Tryz.func123 S.a73c S.a73e (Nat.le_of_ble_eq_true rfl) fun wf => ?_; simp only [S.a73]
   have a0 := zf5 (next := h.next + 1) (bytes := 12) (k := h.next) s1 h0 ones (by decide) (by omega) (by omega)
   simp [en]
   simp [a0]
   simpa using hq

theorem zhO {h : H} {v w : V} {l m : List Nat} (hv : Sls h.get 1 v (l.map cP)) (hw : Sls h.get 1 w (m.map cP)) : Pure Tryz.prog 60 [v, w] h (.bool (decide (l = m))) := by
 refine zae Tryz.func60 S.a33c S.a33e rfl (Nat.le_of_ble_eq_true rfl) fun wf => ?_; simp only [S.a33]
 have hl := hv.len
 have hm := hw.len
 have hb := hv.bound
 simp at hl hm hb
 by_cases hlen : l.length = m.length
 ·simp [hl, hm, hlen]
  refine zaj (fun i t h' => (t 0 = v ∧ t 1 = w ∧ t 11 = v ∧ t 12 = .int .i64 (m.length : Nat) ∧ t 13 = .int .i64 (i : Nat)) ∧ h' = h ∧ l.take i = m.take i) m.length ⟨by simp, rfl, by simp⟩ ?_
  rintro i t h' hi ⟨⟨t0, t1, t11, t12, t13⟩, rfl, ht⟩ K hK
  by_cases hlt : i < m.length
  ·have hlt' : i < l.length := by omega
   obtain ⟨p, qq, o, cs, e1, e2, e3⟩ := hv.at1 (f := fun x : Nat => V.int .u32 x) hlt'
   obtain ⟨p', qq', o', cs', e1', e2', e3'⟩ := hw.at1 (f := fun x : Nat => V.int .u32 x) hlt
   have hwr := zak hlt (by omega)
   by_cases hx : l[i] = m[i]
   ·have b1 : ((l[i] : Int) != (m[i] : Int)) = false := by rw [neI]; simp [hx]
    simp [t12, t13, hlt]
    refine zaL ?_
    simp [t0, t1, t13, e1, e2, e3, e1', e2', e3', b1, hwr]
    exact hK _ _ hlt ⟨by simp [t0, t1, t11, t12], rfl, za1 hlt' hlt ht hx⟩
   ·have b1 : ((l[i] : Int) != (m[i] : Int)) = true := by rw [neI]; simp; omega
    simp [t12, t13, hlt]
    refine zaL ?_
    simp [t0, t1, e1, e2, e3, e1', e2', e3', b1, zbV hlt' hlt hx]
  ·have hi2 : i = m.length := by omega
   subst hi2
   simp [t12, t13, zbl hlen rfl ht]
 ·have : l ≠ m := fun e => hlen (by rw [e])
  have hlen' : ¬ (l.length : Int) = (m.length : Int) := by omega
  simp [hl, hm, neI, hlen', this]

theorem zox {h : H} {v w : V} {l m : List Nat} (hv : Sls h.get 1 v (l.map cX)) (hw : Sls h.get 1 w (m.map cX)) : Pure Tryz.prog 61 [v, w] h (.bool (decide (l = m))) := by
 refine zae Tryz.func61 S.a34c S.a34e rfl (Nat.le_of_ble_eq_true rfl) fun wf => ?_; simp only [S.a34]
 have hl := hv.len
 have hm := hw.len
 have hb := hv.bound
 simp at hl hm hb
 by_cases hlen : l.length = m.length
 ·simp [hl, hm, hlen]
  refine zaj (fun i t h' => (t 0 = v ∧ t 1 = w ∧ t 11 = v ∧ t 12 = .int .i64 (m.length : Nat) ∧ t 13 = .int .i64 (i : Nat)) ∧ h' = h ∧ l.take i = m.take i) m.length ⟨by simp, rfl, by simp⟩ ?_
  rintro i t h' hi ⟨⟨t0, t1, t11, t12, t13⟩, rfl, ht⟩ K hK
  by_cases hlt : i < m.length
  ·have hlt' : i < l.length := by omega
   obtain ⟨p, qq, o, cs, e1, e2, e3⟩ := hv.at1 (f := fun x : Nat => V.int .u64 x) hlt'
   obtain ⟨p', qq', o', cs', e1', e2', e3'⟩ := hw.at1 (f := fun x : Nat => V.int .u64 x) hlt
   have hwr := zak hlt (by omega)
   by_cases hx : l[i] = m[i]
   ·have b1 : ((l[i] : Int) != (m[i] : Int)) = false := by rw [neI]; simp [hx]
    simp [t12, t13, hlt]
    refine zaL ?_
    simp [t0, t1, t13, e1, e2, e3, e1', e2', e3', b1, hwr]
    exact hK _ _ hlt ⟨by simp [t0, t1, t11, t12], rfl, za1 hlt' hlt ht hx⟩
   ·have b1 : ((l[i] : Int) != (m[i] : Int)) = true := by rw [neI]; simp; omega
    simp [t12, t13, hlt]
    refine zaL ?_
    simp [t0, t1, e1, e2, e3, e1', e2', e3', b1, zbV hlt' hlt hx]
  ·have hi2 : i = m.length := by omega
   subst hi2
   simp [t12, t13, zbl hlen rfl ht]
 ·have : l ≠ m := fun e => hlen (by rw [e])
  have hlen' : ¬ (l.length : Int) = (m.length : Int) := by omega
  simp [hl, hm, neI, hlen', this]
end Go.Am

namespace Go.Am
open Go.Proofs

set_option maxRecDepth 100000
theorem zei {off sz : Nat} {agg : Bool} {ts : TS} {fs : List (Nat × Nat × Bool × TS)} {xs ys : List V} {x y : V} {b : Bool} (hx : zca agg off sz xs = some x) (hy : zca agg off sz ys = some y) (hb : eqV ts x y = some b) :
  eqFs ((off, sz, agg, ts) :: fs) xs ys = if b = true then eqFs fs xs ys else some false := by
 simp only [eqFs, hx, hy, hb]
 cases b <;> rfl
theorem zfW (k : IntKind) (a b : Nat) : eqV .int (.int k (a : Int)) (.int k (b : Int)) = some (decide (a = b)) := by
 have : ((a : Int) == (b : Int)) = decide (a = b) := by
  rw [eqI]
  by_cases h : a = b
  ·simp [h]
  ·have : ¬ (a : Int) = b := by omega
   simp [h, this]
 simp [eqV, this]
theorem zmP (a b : Lg) : eqV (TS.st [(0, 1, false, TS.int), (1, 1, false, TS.int), (2, 1, false, TS.int)]) (.agg (cL a)) (.agg (cL b)) = some (decide (a = b)) := by
 show eqFs _ _ _ = _
 rw [zei (x := .int .u32 a.1) (y := .int .u32 b.1) rfl rfl (zfW _ _ _), zei rfl rfl (zfW _ _ _), zei rfl rfl (zfW _ _ _), show eqFs [] (cL a) (cL b) = some true from rfl]
 obtain ⟨a1, a2, a3⟩ := a
 obtain ⟨b1, b2, b3⟩ := b
 by_cases h1 : a1 = b1 <;> by_cases h2 : a2 = b2 <;> by_cases h3 : a3 = b3 <;> simp [h1, h2, h3]
theorem zof {h : H} {v w : V} {l m : List Lg} (hv : Sls h.get 3 v (l.map cL)) (hw : Sls h.get 3 w (m.map cL)) : Pure Tryz.prog 62 [v, w] h (.bool (decide (l = m))) := by
 refine zae Tryz.func62 S.a35c S.a35e rfl (Nat.le_of_ble_eq_true rfl) fun wf => ?_; simp only [S.a35]
 have hl := hv.len
 have hm := hw.len
 have hb := hv.bound
 simp at hl hm hb
 by_cases hlen : l.length = m.length
 ·simp [hl, hm, hlen]
  refine zaj (fun i t h' => (t 0 = v ∧ t 1 = w ∧ t 11 = v ∧ t 12 = .int .i64 (m.length : Nat) ∧ t 13 = .int .i64 (i : Nat)) ∧ h' = h ∧ l.take i = m.take i) m.length ⟨by simp, rfl, by simp⟩ ?_
  rintro i t h' hi ⟨⟨t0, t1, t11, t12, t13⟩, rfl, ht⟩ K hK
  by_cases hlt : i < m.length
  ·have hlt' : i < l.length := by omega
   obtain ⟨p, qq, o, cs, e1, e2, l3, e3, _⟩ := hv.at (k := i) (by simpa using hlt')
   obtain ⟨p', qq', o', cs', e1', e2', l3', e3', _⟩ := hw.at (k := i) (by simpa using hlt)
   have hwr := zak hlt (by omega)
   have q1 := zmP l[i] m[i]
   simp only [List.getElem_map] at e3 e3'
   simp [t12, t13, hlt]
   refine zaL ?_
   simp [t0, t1, e1, e2, e3, l3, e1', e2', e3', l3', q1]
   by_cases hx : l[i] = m[i]
   ·simp [hx, hwr, t13]
    exact hK _ _ hlt ⟨by simp [t0, t1, t11, t12], rfl, za1 hlt' hlt ht hx⟩
   ·simp [hx, zbV hlt' hlt hx]
  ·have hi2 : i = m.length := by omega
   subst hi2
   simp [t12, t13, zbl hlen rfl ht]
 ·have : l ≠ m := fun e => hlen (by rw [e])
  have hlen' : ¬ (l.length : Int) = (m.length : Int) := by omega
  simp [hl, hm, neI, hlen', this]
theorem zl7 {h : H} {x y : Lg} : Pure Tryz.prog 92 [.agg (cL x), .agg (cL y)] h (.int .i64 (oL x y)) := by
 refine zae Tryz.func92 S.a52c S.a52e rfl (Nat.le_of_ble_eq_true rfl) fun wf => ?_; simp only [S.a52]
 obtain ⟨h2, hh2⟩ : ∃ h2, h2 = (h.push (.row (cL x))).push (.row (cL y)) := ⟨_, rfl⟩
 have g2 : Ge h h2 := by rw [hh2]; exact ((Ge.refl _).push _).push _
 have c1 : zab h2.get h.next 3 = some (cL x) := by rw [hh2]; simp [cL]
 have c2 : zab h2.get (h.next + 1) 3 = some (cL y) := by rw [hh2]; simp [cL]
 simp only [cL] at hh2 c1 c2
 simp [cL]
 rw [<- hh2]
 have r3 : zax 3 [V.int .i64 0] = [.int .i64 0, .int .i64 0, .int .i64 0] := rfl
 refine zfJ _ zk4 (by rfl) ?_
 simp [List.lookup, c1, c2, r3, zeL]
 refine zbf (zqa (q := h2.next) (a := cmpI x.1 y.1) (b := cmpI x.2.1 y.2.1) (c := cmpI x.2.2 y.2.2) (by simp)) ?_
 simp [oL]
 exact g2.push _

theorem zov {h : H} {v : V} {l : List Nat} (hs : Sls h.get 1 v (l.map cP)) : Pure Tryz.prog 89 [v, .func (.func 81) [] []] h (.bool (risB oN l)) := by
 refine zae Tryz.func89 S.a49c S.a49e rfl (Nat.le_of_ble_eq_true rfl) fun wf => ?_; simp only [S.a49]
 have hl := hs.len
 have hb := hs.bound
 simp at hl hb
 simp
 refine zaj (fun i t h' => (t 0 = v ∧ t 1 = .func (.func 81) [] [] ∧ t 5 = .int .i64 ((i : Int) + 1)) ∧ h' = h ∧ adjB oN (l.take (i + 1)) = true) l.length ⟨by simp, rfl, by cases l <;> simp [adjB]⟩ ?_
 rintro i t h' hi ⟨⟨t0, t1, t5⟩, rfl, ha⟩ K hK
 by_cases hlt : i + 1 < l.length
 ·have hlti : (i : Int) + 1 < (l.length : Int) := by omega
  obtain ⟨p, qq, o, cs, e1, e2, e3⟩ := hs.at1 (f := fun x : Nat => V.int .u32 x) hlt
  obtain ⟨p', qq', o', cs', e1', e2', e3'⟩ := hs.at1 (f := fun x : Nat => V.int .u32 x) (show i < l.length by omega)
  have wm : IntKind.i64.wrap ((i : Int) + 1 - 1) = (i : Int) := by rw [show (i : Int) + 1 - 1 = i by omega, zah (by omega) (by omega)]
  have wp : IntKind.i64.wrap ((i : Int) + 1 + 1) = (i : Int) + 1 + 1 := by rw [zah (by omega) (by omega)]
  obtain ⟨k, hk⟩ : ∃ k : Int, k = (i : Int) + 1 := ⟨_, rfl⟩
  have e1k := e1 .i64
  rw [show ((i + 1 : Nat) : Int) = k by omega] at e1k
  rw [<- hk] at t5 wm wp hlti
  simp [t0, t5, hl, hlti]
  refine zbX wf ?_
  simp [t0, t1, t5, e1k, e2, e3, e1', e2', e3', wm]
  obtain ⟨z, hz⟩ : ∃ z, z = oN l[i] l[i + 1] := ⟨_, rfl⟩
  refine zck (v := .int .i64 z) rfl (fun h2 _ => by rw [hz]; exact zf2) ?_
  by_cases hc : z < 0
  ·have hc' : decide (0 ≤ z) = false := by rw [decide_eq_false_iff_not]; omega
   simp [t5, wp, hc']
   exact hK _ _ (by omega) ⟨by simp [t0, t1, hk], rfl, zcu ha hlt (fun _ => by rw [hz] at hc; simpa using hc)⟩
  ·have hc' : decide (0 ≤ z) = true := by rw [decide_eq_true_eq]; omega
   have hf := zbW (i := i + 1) (by omega) hlt (by rw [hz] at hc; simpa using hc)
   simp [hc', risB, hf]
 ·have hlti : ¬ (i : Int) + 1 < (l.length : Int) := by omega
  rw [List.take_of_length_le (by omega)] at ha
  obtain ⟨k, hk⟩ : ∃ k : Int, k = (i : Int) + 1 := ⟨_, rfl⟩
  rw [<- hk] at t5 hlti
  simp [t0, t5, hl, hlti, risB, ha]
  omega

theorem zni {h : H} {v : V} {l : List Nat} (hs : Sls h.get 1 v (l.map cX)) : Pure Tryz.prog 90 [v, .func (.func 55) [] []] h (.bool (risB oN l)) := by
 refine zae Tryz.func90 S.a50c S.a50e rfl (Nat.le_of_ble_eq_true rfl) fun wf => ?_; simp only [S.a50]
 have hl := hs.len
 have hb := hs.bound
 simp at hl hb
 simp
 refine zaj (fun i t h' => (t 0 = v ∧ t 1 = .func (.func 55) [] [] ∧ t 5 = .int .i64 ((i : Int) + 1)) ∧ h' = h ∧ adjB oN (l.take (i + 1)) = true) l.length ⟨by simp, rfl, by cases l <;> simp [adjB]⟩ ?_
 rintro i t h' hi ⟨⟨t0, t1, t5⟩, rfl, ha⟩ K hK
 by_cases hlt : i + 1 < l.length
 ·have hlti : (i : Int) + 1 < (l.length : Int) := by omega
  obtain ⟨p, qq, o, cs, e1, e2, e3⟩ := hs.at1 (f := fun x : Nat => V.int .u64 x) hlt
  obtain ⟨p', qq', o', cs', e1', e2', e3'⟩ := hs.at1 (f := fun x : Nat => V.int .u64 x) (show i < l.length by omega)
  have wm : IntKind.i64.wrap ((i : Int) + 1 - 1) = (i : Int) := by rw [show (i : Int) + 1 - 1 = i by omega, zah (by omega) (by omega)]
  have wp : IntKind.i64.wrap ((i : Int) + 1 + 1) = (i : Int) + 1 + 1 := by rw [zah (by omega) (by omega)]
  obtain ⟨k, hk⟩ : ∃ k : Int, k = (i : Int) + 1 := ⟨_, rfl⟩
  have e1k := e1 .i64
  rw [show ((i + 1 : Nat) : Int) = k by omega] at e1k
  rw [<- hk] at t5 wm wp hlti
  simp [t0, t5, hl, hlti]
  refine zbX wf ?_
  simp [t0, t1, t5, e1k, e2, e3, e1', e2', e3', wm]
  obtain ⟨z, hz⟩ : ∃ z, z = oN l[i] l[i + 1] := ⟨_, rfl⟩
  refine zck (v := .int .i64 z) rfl (fun h2 _ => by rw [hz]; exact zit) ?_
  by_cases hc : z < 0
  ·have hc' : decide (0 ≤ z) = false := by rw [decide_eq_false_iff_not]; omega
   simp [t5, wp, hc']
   exact hK _ _ (by omega) ⟨by simp [t0, t1, hk], rfl, zcu ha hlt (fun _ => by rw [hz] at hc; simpa using hc)⟩
  ·have hc' : decide (0 ≤ z) = true := by rw [decide_eq_true_eq]; omega
   have hf := zbW (i := i + 1) (by omega) hlt (by rw [hz] at hc; simpa using hc)
   simp [hc', risB, hf]
 ·have hlti : ¬ (i : Int) + 1 < (l.length : Int) := by omega
  rw [List.take_of_length_le (by omega)] at ha
  obtain ⟨k, hk⟩ : ∃ k : Int, k = (i : Int) + 1 := ⟨_, rfl⟩
  rw [<- hk] at t5 hlti
  simp [t0, t5, hl, hlti, risB, ha]
  omega

theorem znn {h : H} {v : V} {l : List Lg} (hs : Sls h.get 3 v (l.map cL)) : Pure Tryz.prog 91 [v, .func (.func 92) [] []] h (.bool (risB oL l)) := by
 refine zae Tryz.func91 S.a51c S.a51e rfl (Nat.le_of_ble_eq_true rfl) fun wf => ?_; simp only [S.a51]
 have hl := hs.len
 have hb := hs.bound
 simp at hl hb
 simp
 refine zaj (fun i t h' => (t 0 = v ∧ t 1 = .func (.func 92) [] [] ∧ t 5 = .int .i64 ((i : Int) + 1)) ∧ h' = h ∧ adjB oL (l.take (i + 1)) = true) l.length ⟨by simp, rfl, by cases l <;> simp [adjB]⟩ ?_
 rintro i t h' hi ⟨⟨t0, t1, t5⟩, rfl, ha⟩ K hK
 by_cases hlt : i + 1 < l.length
 ·have hlti : (i : Int) + 1 < (l.length : Int) := by omega
  obtain ⟨p, qq, o, cs, e1, e2, l3, e3, _⟩ := hs.at (k := i + 1) (by simpa using hlt)
  obtain ⟨p', qq', o', cs', e1', e2', l3', e3', _⟩ := hs.at (k := i) (by simp; omega)
  simp only [List.getElem_map] at e3 e3'
  have wm : IntKind.i64.wrap ((i : Int) + 1 - 1) = (i : Int) := by rw [show (i : Int) + 1 - 1 = i by omega, zah (by omega) (by omega)]
  have wp : IntKind.i64.wrap ((i : Int) + 1 + 1) = (i : Int) + 1 + 1 := by rw [zah (by omega) (by omega)]
  obtain ⟨k, hk⟩ : ∃ k : Int, k = (i : Int) + 1 := ⟨_, rfl⟩
  have e1k := e1 .i64
  rw [show ((i + 1 : Nat) : Int) = k by omega] at e1k
  rw [<- hk] at t5 wm wp hlti
  simp [t0, t5, hl, hlti]
  refine zbX wf ?_
  simp [t0, t1, t5, e1k, e2, e3, e1', e2', e3', wm, l3, l3']
  obtain ⟨z, hz⟩ : ∃ z, z = oL l[i] l[i + 1] := ⟨_, rfl⟩
  refine zck (v := .int .i64 z) rfl (fun h2 _ => by rw [hz]; exact zl7) ?_
  by_cases hc : z < 0
  ·have hc' : decide (0 ≤ z) = false := by rw [decide_eq_false_iff_not]; omega
   simp [t5, wp, hc']
   exact hK _ _ (by omega) ⟨by simp [t0, t1, hk], rfl, zcu ha hlt (fun _ => by rw [hz] at hc; simpa using hc)⟩
  ·have hc' : decide (0 ≤ z) = true := by rw [decide_eq_true_eq]; omega
   have hf := zbW (i := i + 1) (by omega) hlt (by rw [hz] at hc; simpa using hc)
   simp [hc', risB, hf]
 ·have hlti : ¬ (i : Int) + 1 < (l.length : Int) := by omega
  rw [List.take_of_length_le (by omega)] at ha
  obtain ⟨k, hk⟩ : ∃ k : Int, k = (i : Int) + 1 := ⟨_, rfl⟩
  rw [<- hk] at t5 hlti
  simp [t0, t5, hl, hlti, risB, ha]
  omega
end Go.Am

namespace Go.Am
open Go.Proofs

set_option maxRecDepth 100000
theorem zol {h : H} {v : V} {l : List Nat} {c : Nat} (hs : Sls h.get 1 v (l.map cP)) {Q : V -> H -> Prop} (q : ∀ k : Int, decide (0 ≤ k) = decide (c ∈ l) -> Q (.int .i64 k) h) : Acalls Tryz.prog 150 [v, .int .u32 (c : Nat)] h Q := by
 refine zal Tryz.func150 S.a87c S.a87e (Nat.le_of_ble_eq_true rfl) fun wf => ?_; simp only [S.a87]
 have hlen := hs.len
 have hb := hs.bound
 simp at hlen hb
 simp [hlen]
 refine zaj (fun i t h' => (t 0 = v ∧ t 1 = .int .u32 (c : Nat) ∧ t 6 = v ∧ t 7 = .int .i64 (l.length : Nat) ∧ t 8 = .int .i64 (i : Nat)) ∧ h' = h ∧ c ∉ l.take i) l.length ⟨by simp, rfl, by simp⟩ ?_
 rintro i t h' hi ⟨⟨t0, t1, t6, t7, t8⟩, rfl, hn⟩ K hK
 by_cases hlt : i < l.length
 ·obtain ⟨p, qq, o, cs, e1, e2, e3⟩ := hs.at1 (f := fun x : Nat => V.int .u32 x) hlt
  have hw := zak hlt hb
  by_cases hx : c = l[i]
  ·have b1 : ((c : Int) == (l[i] : Int)) = true := beq_iff_eq.2 (by omega)
   have hm : c ∈ l := by rw [hx]; exact List.getElem_mem hlt
   simp [t0, t1, t7, t8, hlt, e1, e2, e3, b1]
   exact q _ (by simp [hm])
  ·have b1 : ((c : Int) == (l[i] : Int)) = false := beq_eq_false_iff_ne.2 (by omega)
   simp [t0, t1, t7, t8, hlt, e1, e2, e3, b1, hw]
   refine hK _ _ hlt ⟨by simp [t0, t1, t6, t7], rfl, ?_⟩
   rw [List.take_add_one, List.getElem?_eq_getElem hlt, List.mem_append]
   simp [hn, hx]
 ·have : i = l.length := by omega
  subst this
  rw [List.take_length] at hn
  simp [t7, t8]
  exact q _ (by simp [hn])
theorem znN {h : H} {v : V} {l : List Nat} {c : Nat} (hs : Sls h.get 1 v (l.map cP)) : Pure Tryz.prog 119 [v, .int .u32 (c : Nat)] h (.bool (decide (c ∈ l))) := by
 refine zae Tryz.func119 S.a69c S.a69e rfl (Nat.le_of_ble_eq_true rfl) fun wf => ?_; simp only [S.a69]
 simp
 refine zol hs fun k hk => ?_
 simp [<- hk]
theorem zd8 {α : Type} {f : α -> Bool} {l : List α} {i : Nat} (h : i < l.length) (ht : (l.take i).all f = true) (hx : f l[i] = true) : (l.take (i + 1)).all f = true := by
 rw [List.take_add_one, List.getElem?_eq_getElem h, List.all_append]
 simp [ht, hx]
theorem zgZ {α : Type} {f : α -> Bool} {l : List α} {i : Nat} (h : i < l.length) (hx : f l[i] = false) : l.all f = false := by
 cases e : l.all f with
 | false => rfl
 | true => rw [List.all_eq_true.1 e _ (List.getElem_mem h)] at hx; cases hx
theorem zlM {h : H} {v : V} {l : List Sg} {es : List (List V)} (hs : SegsAt h.get v l es) : Pure Tryz.prog 88 [v] h (.int .i64 (if zcy l = true then 0 else 2)) := by
 refine zae Tryz.func88 S.a48c S.a48e (by rfl) (Nat.le_of_ble_eq_true rfl) fun wf => ?_; simp only [S.a48]
 have hl := hs.sls.len
 have hb := hs.sls.bound
 rw [hs.len] at hl hb
 by_cases h16 : 16 < l.length
 ·have h16' : (16 : Int) < (l.length : Int) := by omega
  have hf : zcy l = false := by simp [zcy]; omega
  simp [hl, h16', hf]
 ·have h16' : ¬ (16 : Int) < (l.length : Int) := by omega
  simp [hl, h16']
  refine zaj (fun i t h' => (t 0 = v ∧ t 8 = v ∧ t 9 = .int .i64 (l.length : Nat) ∧ t 10 = .int .i64 (i : Nat)) ∧ Ge h h' ∧ h'.WF ∧ (l.take i).all segB = true) l.length ⟨by simp, Ge.refl _, wf, by simp⟩ ?_
  rintro i t h' hi ⟨⟨t0, t8, t9, t10⟩, gb, wb, ha⟩ K hK
  by_cases hlt : i < l.length
  ·obtain ⟨p, q, o, cs, u, e1, hp, e2, lo, e3, e4, e5, su, _⟩ := hs.atG wf hlt
   have e2' := e2 h' gb
   have hw := zak hlt (by omega)
   have so : u.one = true := su.one
   obtain ⟨s, hsd⟩ : ∃ s, s = l[i] := ⟨_, rfl⟩
   rw [<- hsd] at e3 e4 su
   have hn : ∀ b, Ge h' b -> Sls b.get 1 u (s.ases.map cP) := fun b hb => su.ge wf (gb.trans hb)
   simp [t8, t9, t10, hlt, e1, e2', e3, lo, so]
   obtain ⟨hb2, hhb⟩ : ∃ hb2, hb2 = (h'.push (.row [.int .i64 0, .nilsl])).set h'.next (.row [.int .i64 s.kind, u]) := ⟨_, rfl⟩
   have gb2 : Ge h' hb2 := by rw [hhb]; exact ((Ge.refl _).push _).set (Nat.le_refl _) _
   have wb2 : hb2.WF := by rw [hhb]; exact (wb.push _).set (by simp) _
   have ca : zab hb2.get h'.next 2 = some [.int .i64 s.kind, u] := by rw [hhb]; simp
   have hul := (hn _ gb2).len
   simp at hul
   have bad : segB s = false -> zcy l = false := fun h0 => by
    have := zgZ hlt (f := segB) (by rw [<- hsd]; exact h0)
    simp [zcy, this]
   rw [<- hhb]
   by_cases k1 : s.kind < 1
   ·have hf := bad (by simp [segB]; omega)
    simp [k1, hf, gb.trans gb2]
   by_cases k2 : 4 < s.kind
   ·have hf := bad (by simp [segB]; omega)
    simp [ca, k1, k2, hf, gb.trans gb2]
   by_cases k3 : s.ases.length < 1
   ·have hf := bad (by simp [segB]; omega)
    have k3' : (s.ases.length : Int) < 1 := by omega
    simp [ca, k1, k2, hul, k3', hf, gb.trans gb2]
   have k3' : ¬ (s.ases.length : Int) < 1 := by omega
   by_cases k4 : 255 < s.ases.length
   ·have hf := bad (by simp [segB]; omega)
    have k4' : (255 : Int) < s.ases.length := by omega
    simp [ca, k1, k2, hul, k3', k4', hf, gb.trans gb2]
   have k4' : ¬ (255 : Int) < s.ases.length := by omega
   simp [ca, k1, k2, hul, k3', k4']
   refine znN (c := 0) (hn _ gb2) _ ?_
   by_cases k5 : 0 ∈ s.ases
   ·have hf := bad (by simp [segB, k5])
    simp [k5, hf, gb.trans gb2]
   ·simp [k5, t10, hw]
    refine hK _ _ hlt ⟨by simp [t0, t8, t9], gb.trans gb2, wb2, zd8 hlt ha ?_⟩
    rw [<- hsd]
    simp [segB, k5]
    omega
  ·have hi2 : i = l.length := by omega
   subst hi2
   rw [List.take_length] at ha
   have hp : zcy l = true := by simp [zcy, ha]; omega
   simp [t9, t10, hp, gb]
theorem zmu {h : H} {v : V} {l : List Sg} {es : List (List V)} (hs : SegsAt h.get v l es) : Pure Tryz.prog 131 [v] h (.int .i64 (if zcy l = true then 0 else 2)) := by
 refine zae Tryz.func131 S.a76c S.a76e (by rfl) (Nat.le_of_ble_eq_true rfl) fun wf => ?_; simp only [S.a76]
 have hl := hs.sls.len
 have hb := hs.sls.bound
 rw [hs.len] at hl hb
 by_cases h16 : 16 < l.length
 ·have h16' : (16 : Int) < (l.length : Int) := by omega
  have hf : zcy l = false := by simp [zcy]; omega
  simp [hl, h16', hf]
 ·have h16' : ¬ (16 : Int) < (l.length : Int) := by omega
  simp [hl, h16']
  refine zaj (fun i t h' => (t 0 = v ∧ t 3 = .int .i64 (i : Nat)) ∧ h' = h ∧ (l.take i).all segB = true) l.length ⟨by simp, rfl, by simp⟩ ?_
  rintro i t h' hi ⟨⟨t0, t3⟩, rfl, ha⟩ K hK
  by_cases hlt : i < l.length
  ·obtain ⟨p, q, o, cs, u, e1, hp, e2, lo, e3, e4, e5, su, _⟩ := hs.atG wf hlt
   have e2' := e2 h' (Ge.refl _)
   have hw := zak hlt (by omega)
   have hul := su.len
   have hub := su.bound
   simp at hul hub
   obtain ⟨s, hsd⟩ : ∃ s, s = l[i] := ⟨_, rfl⟩
   rw [<- hsd] at e4 su hul hub
   have bad : segB s = false -> zcy l = false := fun h0 => by
    have := zgZ hlt (f := segB) (by rw [<- hsd]; exact h0)
    simp [zcy, this]
   simp [t0, t3, hl, hlt, e1, e2', e4]
   by_cases k1 : s.kind < 1
   ·have hf := bad (by simp [segB]; omega)
    simp [k1, hf]
   by_cases k2 : 4 < s.kind
   ·have hf := bad (by simp [segB]; omega)
    simp [t0, t3, e1, e2', e4, k1, k2, hf]
   by_cases k3 : s.ases.length < 1
   ·have hf := bad (by simp [segB]; omega)
    have k3' : (s.ases.length : Int) < 1 := by omega
    simp [t0, t3, e1, e2', e4, e5, k1, k2, hul, k3', hf]
   have k3' : ¬ (s.ases.length : Int) < 1 := by omega
   by_cases k4 : 255 < s.ases.length
   ·have hf := bad (by simp [segB]; omega)
    have k4' : (255 : Int) < s.ases.length := by omega
    simp [t0, t3, e1, e2', e4, e5, k1, k2, hul, k3', k4', hf]
   have k4' : ¬ (255 : Int) < s.ases.length := by omega
   simp [t0, t3, e1, e2', e4, e5, k1, k2, hul, k3', k4']
   refine zaj (fun k t h2 => (t 0 = v ∧ t 3 = .int .i64 (i : Nat) ∧ t 4 = .int .i64 (k : Nat)) ∧ h2 = h' ∧ 0 ∉ s.ases.take k) s.ases.length ⟨by simp [t0, t3], rfl, by simp⟩ ?_
   rintro k t h2 hk ⟨⟨t0, t3, t4⟩, rfl, hz⟩ K2 hK2
   by_cases hkt : k < s.ases.length
   ·obtain ⟨p', qq', o', cs', f1, f2, f3⟩ := su.at1 (f := fun x : Nat => V.int .u32 x) hkt
    have hw2 := zak hkt (by omega)
    by_cases hx : s.ases[k] = 0
    ·have b1 : ((s.ases[k] : Int) == 0) = true := beq_iff_eq.2 (by omega)
     have hf := bad (by
      have : 0 ∈ s.ases := by rw [<- hx]; exact List.getElem_mem hkt
      simp [segB, this])
     simp [t0, t3, t4, e1, e2', e5, hul, hkt, f1, f2, f3, b1, hf]
    ·have b1 : ((s.ases[k] : Int) == 0) = false := beq_eq_false_iff_ne.2 (by omega)
     simp [t0, t3, t4, e1, e2', e5, hul, hkt, f1, f2, f3, b1, hw2]
     refine hK2 _ _ hkt ⟨by simp [t0, t3], rfl, ?_⟩
     rw [List.take_add_one, List.getElem?_eq_getElem hkt, List.mem_append]
     simp [hz]
     omega
   ·have hk2 : k = s.ases.length := by omega
    subst hk2
    rw [List.take_length] at hz
    simp [t0, t3, t4, e1, e2', e5, hul, hw]
    refine hK _ _ hlt ⟨by simp [t0], rfl, zd8 hlt ha ?_⟩
    rw [<- hsd]
    simp [segB, hz]
    omega
  ·have hi2 : i = l.length := by omega
   subst hi2
   rw [List.take_length] at ha
   have hp : zcy l = true := by simp [zcy, ha]; omega
   simp [t0, t3, hl, hp]
end Go.Am

namespace Go.Am
open Go.Proofs

set_option maxRecDepth 100000
theorem zkN {h : H} {a : Att} {vp vc vx vl vk : V} (A : AttAt h.get a vp vc vx vl vk) : Pure Tryz.prog 47 [.agg (attC a vp vc vx vl vk)] h (.int .i64 (if attB a = true then 0 else 2)) := by
 refine zae Tryz.func47 S.a21c S.a21e (by rfl) (Nat.le_of_ble_eq_true rfl) fun wf => ?_; simp only [S.a21]
 obtain ⟨es, P⟩ := A.path
 have o1 := P.sls.one
 have o2 := A.comms.one
 have o3 := A.exts.one
 have o4 := A.larges.one
 have o5 := A.clus.one
 obtain ⟨h2, hh2⟩ : ∃ h2, h2 = h.push (.row (attC a vp vc vx vl vk)) := ⟨_, rfl⟩
 have g2 : Ge h h2 := by rw [hh2]; exact (Ge.refl _).push _
 have c1 : zab h2.get h.next 16 = some (attC a vp vc vx vl vk) := by rw [hh2]; simp [attC]
 have A2 := A.ge wf g2
 have P2 := P.ge wf g2
 have lk := A2.clus.len
 simp at lk
 simp only [attC] at hh2 c1
 simp [attC, o1, o2, o3, o4, o5]
 rw [<- hh2]
 by_cases k1 : a.origin < 0
 ·have hf : attB a = false := by simp [attB]; omega
  simp [k1, hf, g2]
 by_cases k2 : 2 < a.origin
 ·have hf : attB a = false := by simp [attB]; omega
  simp [k1, k2, c1, hf, g2]
 simp [k1, k2, c1]
 refine zlM P2 _ ?_
 cases k3 : zcy a.path with
 | false =>
  have hf : attB a = false := by simp [attB, k3]
  simp [hf, g2]
 | true =>
  simp [c1]
  obtain ⟨n, hn⟩ : ∃ n : Int, n = (a.next.length : Int) := ⟨_, rfl⟩
  rw [<- hn]
  have q0 : ∀ x : Int, n = x -> (n != x) = false := fun x e => by rw [neI, decide_eq_true e]; rfl
  have q1 : ∀ x : Int, n ≠ x -> (n != x) = true := fun x e => by rw [neI, decide_eq_false e]; rfl
  by_cases k4 : n = 0 ∨ n = 4 ∨ n = 16
  case neg =>
   have hf : attB a = false := by
    have : (decide (a.next.length = 0) || decide (a.next.length = 4) || decide (a.next.length = 16)) = false := by
     rw [decide_eq_false (by omega), decide_eq_false (by omega), decide_eq_false (by omega)]; rfl
    simp only [attB, this, Bool.and_false, Bool.false_and]
   simp [q1 0 (by omega), c1, <- hn, q1 4 (by omega), q1 16 (by omega), hf, g2]
  case pos =>
   have k4' : (decide (a.next.length = 0) || decide (a.next.length = 4) || decide (a.next.length = 16)) = true := by
    rcases k4 with e | e | e
    ·rw [decide_eq_true (by omega)]; rfl
    ·rw [decide_eq_true (show a.next.length = 4 by omega)]; simp
    ·rw [decide_eq_true (show a.next.length = 16 by omega)]; simp
   have rest : (a.hasMed || decide (a.med = 0)) = true -> (a.hasPref || decide (a.pref = 0)) = true -> (a.hasOrig || decide (a.orig = 0)) = true -> (!decide (a.aggAS = 0) || decide (a.aggId = 0)) = true -> a.clus.length ≤ 32 -> risB oN a.comms = true -> risB oN a.exts = true -> attB a = risB oL a.larges := fun m1 m2 m3 m4 m5 m6 m7 => by
    unfold attB
    rw [k3, k4', m1, m2, m3, m4, m6, m7, decide_eq_true (show 0 ≤ a.origin by omega), decide_eq_true (show a.origin ≤ 2 by omega), decide_eq_true m5]
    rfl
   have bad : (a.hasMed || decide (a.med = 0)) = false ∨ (a.hasPref || decide (a.pref = 0)) = false ∨ (a.hasOrig || decide (a.orig = 0)) = false ∨ (!decide (a.aggAS = 0) || decide (a.aggId = 0)) = false ∨ decide (a.clus.length ≤ 32) = false ∨ risB oN a.comms = false ∨ risB oN a.exts = false -> attB a = false := fun h => by
    unfold attB
    rcases h with e | e | e | e | e | e | e <;> simp only [e, Bool.and_false, Bool.false_and]
   have x0 : ∀ m : Nat, ((m : Int) != 0) = !decide (m = 0) := fun m => by
    rw [neI]; by_cases e : m = 0
    ·simp [e]
    ·rw [decide_eq_false e, decide_eq_false (by omega)]
   have y0 : ∀ m : Nat, ((m : Int) == 0) = decide (m = 0) := fun m => by
    rw [eqI]; by_cases e : m = 0
    ·simp [e]
    ·rw [decide_eq_false e, decide_eq_false (by omega)]
   generalize hm0 : decide (a.med = 0) = m0 at rest bad
   generalize hp0 : decide (a.pref = 0) = p0 at rest bad
   generalize hr0 : decide (a.orig = 0) = r0 at rest bad
   generalize hs0 : decide (a.aggAS = 0) = s0 at rest bad
   generalize hd0 : decide (a.aggId = 0) = d0 at rest bad
   refine zba (fun t' h' => (t' 1 = .ptr h.next 16 0 ∧ t' 3 = .bool false) ∧ h' = h2) (fun K' hK' => ?_) ?_
   ·rcases k4 with e | e | e
    ·simp [q0 0 e]; exact hK' _ _ ⟨by simp, rfl⟩
    ·simp [q1 0 (by omega), c1, <- hn, q0 4 e]; exact hK' _ _ ⟨by simp, rfl⟩
    ·simp [q1 0 (by omega), c1, <- hn, q1 4 (by omega), q0 16 e]; exact hK' _ _ ⟨by simp, rfl⟩
   rintro t h' ⟨⟨t1, t3⟩, rfl⟩
   simp [t1, t3, c1]
   refine zba (fun t' h2 => (t' 1 = .ptr h.next 16 0 ∧ t' 3 = .bool !(a.hasMed || m0)) ∧ h2 = h') (fun K' hK' => ?_) ?_
   ·cases hf : a.hasMed <;> cases m0 <;> simp [t1, c1, x0, hm0] <;> exact hK' _ _ ⟨by simp [t1, hf], rfl⟩
   rintro t h2 ⟨⟨t1, t3⟩, rfl⟩
   by_cases m1 : (a.hasMed || m0) = true
   case neg =>
    rw [Bool.not_eq_true] at m1
    simp [t3, m1, bad (by simp [m1]), g2]
   replace t3 : t 3 = .bool false := by rw [t3, m1]; rfl
   replace c1 := c1
   simp [t1, t3, c1]
   refine zba (fun t' h' => (t' 1 = .ptr h.next 16 0 ∧ t' 3 = .bool !(a.hasPref || p0)) ∧ h' = h2) (fun K' hK' => ?_) ?_
   ·cases hf : a.hasPref <;> cases p0 <;> simp [t1, c1, x0, hp0] <;> exact hK' _ _ ⟨by simp [t1, hf], rfl⟩
   rintro t h' ⟨⟨t1, t3⟩, rfl⟩
   by_cases m2 : (a.hasPref || p0) = true
   case neg =>
    rw [Bool.not_eq_true] at m2
    simp [t3, m2, bad (by simp [m2]), g2]
   replace t3 : t 3 = .bool false := by rw [t3, m2]; rfl
   replace c1 := c1
   simp [t1, t3, c1]
   refine zba (fun t' h2 => (t' 1 = .ptr h.next 16 0 ∧ t' 3 = .bool !(a.hasOrig || r0)) ∧ h2 = h') (fun K' hK' => ?_) ?_
   ·cases hf : a.hasOrig <;> cases r0 <;> simp [t1, c1, x0, hr0] <;> exact hK' _ _ ⟨by simp [t1, hf], rfl⟩
   rintro t h2 ⟨⟨t1, t3⟩, rfl⟩
   by_cases m3 : (a.hasOrig || r0) = true
   case neg =>
    rw [Bool.not_eq_true] at m3
    simp [t3, m3, bad (by simp [m3]), g2]
   replace t3 : t 3 = .bool false := by rw [t3, m3]; rfl
   replace c1 := c1
   simp [t1, t3, c1, y0, hs0]
   refine zba (fun t' h' => (t' 1 = .ptr h.next 16 0 ∧ t' 3 = .bool !(!s0 || d0)) ∧ h' = h2) (fun K' hK' => ?_) ?_
   ·cases s0 <;> cases d0 <;> simp [t1, c1, hd0, x0] <;> exact hK' _ _ ⟨by simp [t1], rfl⟩
   rintro t h' ⟨⟨t1, t3⟩, rfl⟩
   by_cases m4 : (!s0 || d0) = true
   case neg =>
    rw [Bool.not_eq_true] at m4
    simp [t3, m4, bad (by simp [m4]), g2]
   replace t3 : t 3 = .bool false := by rw [t3, m4]; rfl
   replace c1 := c1
   simp [t1, t3, c1, lk]
   by_cases k5 : a.clus.length ≤ 32
   case neg =>
    have k5' : (32 : Int) < (a.clus.length : Int) := by omega
    simp [k5', bad (by simp [k5]), g2]
   have k5' : ¬ (32 : Int) < (a.clus.length : Int) := by omega
   simp [k5', t1, c1]
   refine zov A2.comms _ ?_
   cases m6 : risB oN a.comms with
   | false => simp [bad (by simp [m6]), g2]
   | true =>
    simp [t1, c1]
    refine zni A2.exts _ ?_
    cases m7 : risB oN a.exts with
    | false => simp [bad (by simp [m7]), g2]
    | true =>
     simp [t1, c1]
     refine znn A2.larges _ ?_
     have hr := rest m1 m2 m3 m4 k5 m6 m7
     cases m8 : risB oL a.larges <;> rw [m8] at hr <;> simp [hr, g2]
theorem x0N (m : Nat) : ((m : Int) != 0) = !decide (m = 0) := by
 rw [neI]; by_cases e : m = 0
 ·simp [e]
 ·rw [decide_eq_false e, decide_eq_false (by omega)]
theorem y0N (m : Nat) : ((m : Int) == 0) = decide (m = 0) := by
 rw [eqI]; by_cases e : m = 0
 ·simp [e]
 ·rw [decide_eq_false e, decide_eq_false (by omega)]
theorem zgk (a b : Nat) : oN a b < 0 ↔ a < b := by
 unfold oN cmpI
 split
 ·omega
 ·split <;> omega
theorem znq {h : H} {v : V} {l : List Nat} (hs : Sls h.get 1 v (l.map cP)) : Pure Tryz.prog 132 [v] h (.bool (adjB oN l)) := by
 refine zae Tryz.func132 S.a77c S.a77e rfl (Nat.le_of_ble_eq_true rfl) fun wf => ?_; simp only [S.a77]
 have hl := hs.len
 have hb := hs.bound
 simp at hl hb
 simp
 refine zaj (fun i t h' => (t 0 = v ∧ t 3 = .int .i64 ((i : Int) + 1)) ∧ h' = h ∧ adjB oN (l.take (i + 1)) = true) l.length ⟨by simp, rfl, by cases l <;> simp [adjB]⟩ ?_
 rintro i t h' hi ⟨⟨t0, t3⟩, rfl, ha⟩ K hK
 by_cases hlt : i + 1 < l.length
 ·have hlti : (i : Int) + 1 < (l.length : Int) := by omega
  obtain ⟨p, qq, o, cs, e1, e2, e3⟩ := hs.at1 (f := fun x : Nat => V.int .u32 x) hlt
  obtain ⟨p', qq', o', cs', e1', e2', e3'⟩ := hs.at1 (f := fun x : Nat => V.int .u32 x) (show i < l.length by omega)
  have wm : IntKind.i64.wrap ((i : Int) + 1 - 1) = (i : Int) := by rw [show (i : Int) + 1 - 1 = i by omega, zah (by omega) (by omega)]
  have wp : IntKind.i64.wrap ((i : Int) + 1 + 1) = (i : Int) + 1 + 1 := by rw [zah (by omega) (by omega)]
  obtain ⟨k, hk⟩ : ∃ k : Int, k = (i : Int) + 1 := ⟨_, rfl⟩
  have e1k := e1 .i64
  rw [show ((i + 1 : Nat) : Int) = k by omega] at e1k
  rw [<- hk] at t3 wm wp hlti
  simp [t0, t3, hl, hlti]
  refine zaL ?_
  by_cases hc : l[i] < l[i + 1]
  ·have hc' : ¬ l[i + 1] ≤ l[i] := by omega
   simp [t0, t3, e1k, e2, e3, e1', e2', e3', wm, wp, hc']
   exact hK _ _ (by omega) ⟨by simp [t0, hk], rfl, zcu ha hlt (fun _ => by simpa using (zgk _ _).2 hc)⟩
  ·have hc' : l[i + 1] ≤ l[i] := by omega
   have hf := zbW (c := oN) (i := i + 1) (by omega) hlt (by simpa using fun e => hc ((zgk _ _).1 e))
   simp [t0, t3, e1k, e2, e3, e1', e2', e3', wm, hc', hf]
 ·have hlti : ¬ (i : Int) + 1 < (l.length : Int) := by omega
  rw [List.take_of_length_le (by omega)] at ha
  obtain ⟨k, hk⟩ : ∃ k : Int, k = (i : Int) + 1 := ⟨_, rfl⟩
  rw [<- hk] at t3 hlti
  simp [t0, t3, hl, hlti, ha]
theorem zrI (a b : Lg) : oL a b < 0 ↔ (a.1 < b.1 ∨ a.1 = b.1 ∧ (a.2.1 < b.2.1 ∨ a.2.1 = b.2.1 ∧ a.2.2 < b.2.2)) := by
 unfold oL orI cmpI
 split <;> split <;> (try split) <;> (try split) <;> omega
theorem zkk {h : H} {x y : Lg} : Pure Tryz.prog 133 [.agg (cL x), .agg (cL y)] h (.bool (decide (oL x y < 0))) := by
 refine zae Tryz.func133 S.a78c S.a78e rfl (Nat.le_of_ble_eq_true rfl) fun wf => ?_; simp only [S.a78]
 obtain ⟨h2, hh2⟩ : ∃ h2, h2 = (h.push (.row (cL x))).push (.row (cL y)) := ⟨_, rfl⟩
 have g2 : Ge h h2 := by rw [hh2]; exact ((Ge.refl _).push _).push _
 have c1 : zab h2.get h.next 3 = some (cL x) := by rw [hh2]; simp [cL]
 have c2 : zab h2.get (h.next + 1) 3 = some (cL y) := by rw [hh2]; simp [cL]
 simp only [cL] at hh2 c1 c2
 simp [cL]
 rw [<- hh2]
 obtain ⟨x1, x2, x3⟩ := x
 obtain ⟨y1, y2, y3⟩ := y
 simp only at c1 c2 ⊢
 have ne : ∀ m n : Nat, ((m : Int) != (n : Int)) = !decide (m = n) := fun m n => by rw [neI]; congr 1; rw [decide_eq_decide]; omega
 have hq : decide (oL (x1, x2, x3) (y1, y2, y3) < 0) = decide (x1 < y1 ∨ x1 = y1 ∧ (x2 < y2 ∨ x2 = y2 ∧ x3 < y3)) := by rw [decide_eq_decide]; exact zrI _ _
 rw [hq]
 by_cases k1 : x1 = y1
 ·by_cases k2 : x2 = y2
  ·simp [k1, k2, c1, c2, g2]
  ·simp [ne, k1, k2, c1, c2, g2]
 ·simp [ne, k1, c1, c2, g2]
def zju (a : Att) : Bool := decide (a.next.length = 0) || decide (a.next.length = 4) || decide (a.next.length = 16)
def zgx (a : Att) : Bool := (!a.hasMed && !decide (a.med = 0)) || (!a.hasPref && !decide (a.pref = 0)) || (!a.hasOrig && !decide (a.orig = 0)) || (decide (a.aggAS = 0) && !decide (a.aggId = 0))
theorem zfN (a : Att) : attB a = (!(decide (a.origin < 0) || decide (2 < a.origin) || !zcy a.path || !zju a || zgx a || decide (32 < a.clus.length)) && risB oN a.comms && risB oN a.exts && risB oL a.larges) := by
 have e1 : decide (0 ≤ a.origin) = !decide (a.origin < 0) := by by_cases h : a.origin < 0 <;> simp [h] <;> omega
 have e2 : decide (a.origin ≤ 2) = !decide (2 < a.origin) := by by_cases h : 2 < a.origin <;> simp [h] <;> omega
 have e3 : decide (a.clus.length ≤ 32) = !decide (32 < a.clus.length) := by by_cases h : 32 < a.clus.length <;> simp [h] <;> omega
 unfold attB zgx zju
 rw [e1, e2, e3]
 simp only [Bool.not_or, Bool.not_and, Bool.not_not, Bool.and_assoc, Bool.or_assoc]
theorem zi2 {h : H} {a : Att} {vp vc vx vl vk : V} (A : AttAt h.get a vp vc vx vl vk) : Pure Tryz.prog 107 [.agg (attC a vp vc vx vl vk)] h (.int .i64 (if attB a = true then 0 else 2)) := by
 refine zae Tryz.func107 S.a62c S.a62e (by rfl) (Nat.le_of_ble_eq_true rfl) fun wf => ?_; simp only [S.a62]
 obtain ⟨es, P⟩ := A.path
 have o1 := P.sls.one
 have o2 := A.comms.one
 have o3 := A.exts.one
 have o4 := A.larges.one
 have o5 := A.clus.one
 obtain ⟨h2, hh2⟩ : ∃ h2, h2 = h.push (.row (attC a vp vc vx vl vk)) := ⟨_, rfl⟩
 have g2 : Ge h h2 := by rw [hh2]; exact (Ge.refl _).push _
 have w2 : h2.WF := by rw [hh2]; exact wf.push _
 have c1 : zab h2.get h.next 16 = some (attC a vp vc vx vl vk) := by rw [hh2]; simp [attC]
 have A2 := A.ge wf g2
 have P2 := P.ge wf g2
 have lk := A2.clus.len
 have lc := A2.comms.len
 have lx := A2.exts.len
 have ll := A2.larges.len
 have bc := A2.comms.bound
 have bx := A2.exts.bound
 have bl := A2.larges.bound
 simp at lk lc lx ll bc bx bl
 simp only [attC] at hh2 c1
 simp [attC, o1, o2, o3, o4, o5]
 rw [<- hh2]
 have en : ((a.next.length : Int) == 0) = decide (a.next.length = 0) := y0N _
 have e4 : ((a.next.length : Int) == 4) = decide (a.next.length = 4) := by rw [eqI, decide_eq_decide]; omega
 have e16 : ((a.next.length : Int) == 16) = decide (a.next.length = 16) := by rw [eqI, decide_eq_decide]; omega
 obtain ⟨n0, hn0⟩ : ∃ n0, n0 = decide (a.next.length = 0) := ⟨_, rfl⟩
 obtain ⟨n4, hn4⟩ : ∃ n4, n4 = decide (a.next.length = 4) := ⟨_, rfl⟩
 obtain ⟨n16, hn16⟩ : ∃ n16, n16 = decide (a.next.length = 16) := ⟨_, rfl⟩
 have hnx : zju a = (n0 || n4 || n16) := by rw [hn0, hn4, hn16]; rfl
 rw [<- hn0] at en
 rw [<- hn4] at e4
 rw [<- hn16] at e16
 rw [en]
 refine zba (fun t' h' => (t' 1 = .ptr h.next 16 0 ∧ t' 3 = .bool (zju a)) ∧ h' = h2) (fun K' hK' => ?_) ?_
 ·revert hK'
  rw [hnx]
  intro hK'
  cases n0 <;> simp [c1, e4]
  ·cases n4 <;> simp [c1, e16]
   ·exact hK' _ _ ⟨by simp, rfl⟩
   ·exact hK' _ _ ⟨by simp, rfl⟩
  ·exact hK' _ _ ⟨by simp, rfl⟩
 rintro t h' ⟨⟨t1, t3⟩, rfl⟩
 simp [t1, c1]
 refine zba (fun t' h2 => (t' 1 = .ptr h.next 16 0 ∧ t' 3 = .bool (zju a) ∧ t' 4 = .bool (zgx a)) ∧ h2 = h') (fun K' hK' => ?_) ?_
 ·have hsp : zgx a = ((!a.hasMed && !decide (a.med = 0)) || (!a.hasPref && !decide (a.pref = 0)) || (!a.hasOrig && !decide (a.orig = 0)) || (decide (a.aggAS = 0) && !decide (a.aggId = 0))) := rfl
  revert hK'
  rw [hsp]
  intro hK'
  obtain ⟨m0, hm0⟩ : ∃ m0, m0 = decide (a.med = 0) := ⟨_, rfl⟩
  obtain ⟨p0, hp0⟩ : ∃ m0, m0 = decide (a.pref = 0) := ⟨_, rfl⟩
  obtain ⟨r0, hr0⟩ : ∃ m0, m0 = decide (a.orig = 0) := ⟨_, rfl⟩
  obtain ⟨s0, hs0⟩ : ∃ m0, m0 = decide (a.aggAS = 0) := ⟨_, rfl⟩
  obtain ⟨d0, hd0⟩ : ∃ m0, m0 = decide (a.aggId = 0) := ⟨_, rfl⟩
  have xm := x0N a.med
  have xp := x0N a.pref
  have xr := x0N a.orig
  have xs := y0N a.aggAS
  have xd := x0N a.aggId
  rw [<- hm0] at xm
  rw [<- hp0] at xp
  rw [<- hr0] at xr
  rw [<- hs0] at xs
  rw [<- hd0] at xd
  rw [<- hm0, <- hp0, <- hr0, <- hs0, <- hd0] at hK'
  cases hM : a.hasMed <;> cases m0 <;> simp only [hM] at hK' <;> simp [t1, c1, xm] <;> (try (exact hK' _ _ ⟨by simp [t1, t3], rfl⟩))
  all_goals (cases hP : a.hasPref <;> cases p0 <;> simp only [hP] at hK' <;> simp [t1, c1, xp] <;> (try (exact hK' _ _ ⟨by simp [t1, t3], rfl⟩)))
  all_goals (cases hR : a.hasOrig <;> cases r0 <;> simp only [hR] at hK' <;> simp [t1, c1, xr] <;> (try (exact hK' _ _ ⟨by simp [t1, t3], rfl⟩)))
  all_goals (cases s0 <;> cases d0 <;> simp [t1, c1, xs, xd] <;> (try (exact hK' _ _ ⟨by simp [t1, t3], rfl⟩)))
 rintro t h2 ⟨⟨t1, t3, t4⟩, rfl⟩
 simp [t1, c1]
 obtain ⟨b1, hb1⟩ : ∃ b, b = decide (a.origin < 0) := ⟨_, rfl⟩
 obtain ⟨b2, hb2⟩ : ∃ b, b = decide (2 < a.origin) := ⟨_, rfl⟩
 obtain ⟨b3, hb3⟩ : ∃ b, b = zcy a.path := ⟨_, rfl⟩
 obtain ⟨b4, hb4⟩ : ∃ b, b = zju a := ⟨_, rfl⟩
 obtain ⟨b5, hb5⟩ : ∃ b, b = zgx a := ⟨_, rfl⟩
 obtain ⟨b6, hb6⟩ : ∃ b, b = decide (32 < a.clus.length) := ⟨_, rfl⟩
 have hb6' : decide ((32 : Int) < (a.clus.length : Int)) = b6 := by rw [hb6, decide_eq_decide]; omega
 have hp := zfN a
 rw [<- hb1, <- hb2, <- hb3, <- hb4, <- hb5, <- hb6] at hp
 rw [<- hb1]
 rw [<- hb4] at t3
 rw [<- hb5] at t4
 refine zba (fun t' h' => (t' 1 = .ptr h.next 16 0 ∧ t' 87 = .bool (b1 || b2 || !b3 || !b4 || b5 || b6)) ∧ h' = h2) (fun K' hK' => ?_) ?_
 ·cases b1 <;> simp only [Bool.true_or, Bool.false_or] at hK' <;> simp [t1, c1, <- hb2] <;> (try (exact hK' _ _ ⟨by simp [t1], rfl⟩))
  cases b2 <;> simp only [Bool.true_or, Bool.false_or] at hK' <;> simp [t1, c1] <;> (try (exact hK' _ _ ⟨by simp [t1], rfl⟩))
  refine zmu P2 _ ?_
  rw [<- hb3]
  cases b3 <;> simp only [Bool.true_or, Bool.false_or, Bool.not_true, Bool.not_false] at hK' <;> simp [t3] <;> (try (exact hK' _ _ ⟨by simp [t1], rfl⟩))
  cases b4 <;> simp only [Bool.true_or, Bool.false_or, Bool.not_true, Bool.not_false] at hK' <;> simp [t4] <;> (try (exact hK' _ _ ⟨by simp [t1], rfl⟩))
  cases b5 <;> simp only [Bool.true_or, Bool.false_or] at hK' <;> simp [t1, c1, lk, hb6'] <;> (try (exact hK' _ _ ⟨by simp [t1], rfl⟩))
 rintro t h' ⟨⟨t1, t3⟩, rfl⟩
 obtain ⟨bd, hbd⟩ : ∃ bd, bd = (b1 || b2 || !b3 || !b4 || b5 || b6) := ⟨_, rfl⟩
 rw [<- hbd] at t3 hp
 cases bd with
 | true => simp at hp; simp [t3, hp, g2]
 | false =>
  simp [t1, t3, c1]
  obtain ⟨d1, hd1⟩ : ∃ b, b = decide (64 < a.comms.length) := ⟨_, rfl⟩
  obtain ⟨d2, hd2⟩ : ∃ b, b = decide (64 < a.exts.length) := ⟨_, rfl⟩
  obtain ⟨d3, hd3⟩ : ∃ b, b = decide (64 < a.larges.length) := ⟨_, rfl⟩
  obtain ⟨d4, hd4⟩ : ∃ b, b = adjB oN a.comms := ⟨_, rfl⟩
  have hd1' : decide ((64 : Int) < (a.comms.length : Int)) = d1 := by rw [hd1, decide_eq_decide]; omega
  have hd2' : decide ((64 : Int) < (a.exts.length : Int)) = d2 := by rw [hd2, decide_eq_decide]; omega
  have hd3' : decide ((64 : Int) < (a.larges.length : Int)) = d3 := by rw [hd3, decide_eq_decide]; omega
  have q1 : risB oN a.comms = (d4 && !d1) := by unfold risB; rw [hd4, hd1]; congr 1; by_cases e : 64 < a.comms.length <;> simp [e] <;> omega
  have q2 : risB oN a.exts = (adjB oN a.exts && !d2) := by unfold risB; rw [hd2]; congr 1; by_cases e : 64 < a.exts.length <;> simp [e] <;> omega
  have q3 : risB oL a.larges = (adjB oL a.larges && !d3) := by unfold risB; rw [hd3]; congr 1; by_cases e : 64 < a.larges.length <;> simp [e] <;> omega
  rw [q1, q2, q3] at hp
  simp [lc, hd1']
  refine zba (fun t' h2 => (t' 1 = .ptr h.next 16 0 ∧ t' 109 = .bool (d1 || d2 || d3 || !d4)) ∧ h2 = h') (fun K' hK' => ?_) ?_
  ·cases d1 <;> simp only [Bool.true_or, Bool.false_or] at hK' <;> simp [t1, c1, lx, hd2'] <;> (try (exact hK' _ _ ⟨by simp [t1], rfl⟩))
   cases d2 <;> simp only [Bool.true_or, Bool.false_or] at hK' <;> simp [t1, c1, ll, hd3'] <;> (try (exact hK' _ _ ⟨by simp [t1], rfl⟩))
   cases d3 <;> simp only [Bool.true_or, Bool.false_or] at hK' <;> simp [t1, c1] <;> (try (exact hK' _ _ ⟨by simp [t1], rfl⟩))
   refine znq A2.comms _ ?_
   rw [<- hd4]
   simp
   exact hK' _ _ ⟨by simp [t1], rfl⟩
  rintro t h2 ⟨⟨t1, t3⟩, rfl⟩
  by_cases hbad : (d1 || d2 || d3 || !d4) = true
  ·rw [hbad] at t3
   have hf : attB a = false := by
    rw [hp]
    cases d1 <;> cases d2 <;> cases d3 <;> cases d4 <;> simp at hbad ⊢
   simp [t3, hf, g2]
  ·rw [Bool.not_eq_true] at hbad
   rw [hbad] at t3
   obtain ⟨z1, z2, z3, z4⟩ : d1 = false ∧ d2 = false ∧ d3 = false ∧ d4 = true := by
    cases d1 <;> cases d2 <;> cases d3 <;> cases d4 <;> simp at hbad ⊢
   rw [z1, z2, z3, z4] at hp
   simp only [Bool.not_false, Bool.and_true, Bool.true_and] at hp
   simp [t3]
   refine zaj (fun i t h' => (t 1 = .ptr h.next 16 0 ∧ t 5 = .int .i64 ((i : Int) + 1)) ∧ h' = h2 ∧ adjB oN (a.exts.take (i + 1)) = true) a.exts.length ⟨by simp [t1], rfl, by cases a.exts <;> simp [adjB]⟩ ?_
   rintro i t h' hi ⟨⟨t1, t5⟩, rfl, ha⟩ K hK
   by_cases hlt : i + 1 < a.exts.length
   ·have hlti : (i : Int) + 1 < (a.exts.length : Int) := by omega
    obtain ⟨p, qq, o, cs, e1, e2, e3⟩ := A2.exts.at1 (f := fun x : Nat => V.int .u64 x) hlt
    obtain ⟨p', qq', o', cs', e1', e2', e3'⟩ := A2.exts.at1 (f := fun x : Nat => V.int .u64 x) (show i < a.exts.length by omega)
    have wm : IntKind.i64.wrap ((i : Int) + 1 - 1) = (i : Int) := by rw [show (i : Int) + 1 - 1 = i by omega, zah (by omega) (by omega)]
    have wp : IntKind.i64.wrap ((i : Int) + 1 + 1) = (i : Int) + 1 + 1 := by rw [zah (by omega) (by omega)]
    obtain ⟨k, hk⟩ : ∃ k : Int, k = (i : Int) + 1 := ⟨_, rfl⟩
    have e1k := e1 .i64
    rw [show ((i + 1 : Nat) : Int) = k by omega] at e1k
    rw [<- hk] at t5 wm wp hlti
    simp [t1, t5, c1, lx, hlti]
    refine zaL ?_
    by_cases hc : a.exts[i] < a.exts[i + 1]
    ·have hc' : ¬ a.exts[i + 1] ≤ a.exts[i] := by omega
     simp [t1, t5, c1, e1k, e2, e3, e1', e2', e3', wm, wp, hc']
     exact hK _ _ (by omega) ⟨by simp [t1, hk], rfl, zcu ha hlt (fun _ => by simpa using (zgk _ _).2 hc)⟩
    ·have hc' : a.exts[i + 1] ≤ a.exts[i] := by omega
     have hf := zbW (c := oN) (i := i + 1) (by omega) hlt (by simpa using fun e => hc ((zgk _ _).1 e))
     rw [hf, Bool.false_and] at hp
     simp [t1, t5, c1, e1k, e2, e3, e1', e2', e3', wm, hc', hp, g2]
   ·have hlti : ¬ (i : Int) + 1 < (a.exts.length : Int) := by omega
    rw [List.take_of_length_le (by omega)] at ha
    rw [ha, Bool.true_and] at hp
    obtain ⟨k, hk⟩ : ∃ k : Int, k = (i : Int) + 1 := ⟨_, rfl⟩
    rw [<- hk] at t5 hlti
    simp [t1, t5, c1, lx, hlti]
    clear hK hk hlti t5 ha hi
    refine zaj (fun i t h2 => (t 1 = .ptr h.next 16 0 ∧ t 6 = .int .i64 ((i : Int) + 1)) ∧ (Ge h' h2 ∧ h2.WF) ∧ adjB oL (a.larges.take (i + 1)) = true) a.larges.length ⟨by simp [t1], ⟨Ge.refl _, w2⟩, by cases a.larges <;> simp [adjB]⟩ ?_
    rintro i t hx hi ⟨⟨t1, t6⟩, ⟨gx, wx⟩, ha⟩ K hK
    have c1x : zab hx.get h.next 16 = _ := (gx.cells (zfM w2 c1)).trans c1
    have llx := (A2.larges.ge w2 gx).len
    simp at llx
    by_cases hlt : i + 1 < a.larges.length
    ·have hlti : (i : Int) + 1 < (a.larges.length : Int) := by omega
     obtain ⟨p, qq, o, cs, e1, e2, l3, e3, _⟩ := (A2.larges.ge w2 gx).at (k := i + 1) (by simpa using hlt)
     obtain ⟨p', qq', o', cs', e1', e2', l3', e3', _⟩ := (A2.larges.ge w2 gx).at (k := i) (by simp; omega)
     simp only [List.getElem_map] at e3 e3'
     have wm : IntKind.i64.wrap ((i : Int) + 1 - 1) = (i : Int) := by rw [show (i : Int) + 1 - 1 = i by omega, zah (by omega) (by omega)]
     have wp : IntKind.i64.wrap ((i : Int) + 1 + 1) = (i : Int) + 1 + 1 := by rw [zah (by omega) (by omega)]
     obtain ⟨k, hk⟩ : ∃ k : Int, k = (i : Int) + 1 := ⟨_, rfl⟩
     have e1k := e1 .i64
     rw [show ((i + 1 : Nat) : Int) = k by omega] at e1k
     rw [<- hk] at t6 wm wp hlti
     simp [t1, t6, c1x, llx, hlti]
     refine zbX wx ?_
     simp [t1, t6, c1x, e1k, e2, e3, l3, e1', e2', e3', l3', wm]
     obtain ⟨z, hz⟩ : ∃ z, z = decide (oL a.larges[i] a.larges[i + 1] < 0) := ⟨_, rfl⟩
     refine zck (v := .bool z) rfl (fun h2 _ => by rw [hz]; exact zkk) ?_
     cases z with
     | true =>
      simp [t6, wp]
      exact hK _ _ (by omega) ⟨by simp [t1, hk], ⟨gx, wx⟩, zcu ha hlt (fun _ => by simpa using hz)⟩
     | false =>
      have hf := zbW (c := oL) (i := i + 1) (by omega) hlt (by simpa using hz)
      rw [hf] at hp
      simp [hp, g2.trans gx]
    ·have hlti : ¬ (i : Int) + 1 < (a.larges.length : Int) := by omega
     rw [List.take_of_length_le (by omega)] at ha
     rw [ha] at hp
     obtain ⟨k, hk⟩ : ∃ k : Int, k = (i : Int) + 1 := ⟨_, rfl⟩
     rw [<- hk] at t6 hlti
     simp [t1, t6, c1x, llx, hlti, hp, g2.trans gx]
end Go.Am

namespace Go.Am
open Go.Proofs

set_option maxRecDepth 100000
theorem zmO {a b : Sg} : (a = b) ↔ (a.kind = b.kind ∧ a.ases = b.ases) := by cases a; cases b; simp
theorem zjy {h : H} {a b : Sg} {u w : V} (hu : Sls h.get 1 u (a.ases.map cP)) (hw : Sls h.get 1 w (b.ases.map cP)) : Pure Tryz.prog 99 [.agg [.int .i64 a.kind, u], .agg [.int .i64 b.kind, w]] h (.bool (decide (a = b))) := by
 refine zae Tryz.func99 S.a59c S.a59e rfl (Nat.le_of_ble_eq_true rfl) fun wf => ?_; simp only [S.a59]
 have o1 := hu.one
 have o2 := hw.one
 obtain ⟨h2, hh2⟩ : ∃ h2, h2 = (h.push (.row [.int .i64 a.kind, u])).push (.row [.int .i64 b.kind, w]) := ⟨_, rfl⟩
 have g2 : Ge h h2 := by rw [hh2]; exact ((Ge.refl _).push _).push _
 have c1 : zab h2.get h.next 2 = some [.int .i64 a.kind, u] := by rw [hh2]; simp
 have c2 : zab h2.get (h.next + 1) 2 = some [.int .i64 b.kind, w] := by rw [hh2]; simp
 simp [o1, o2]
 rw [<- hh2]
 simp only [zmO]
 by_cases k1 : a.kind = b.kind
 ·simp [k1, c1, c2]
  refine zhO (hu.ge wf g2) (hw.ge wf g2) _ ?_
  simp [g2]
 ·simp [eqI, k1, g2]
theorem zjZ {h : H} {v w : V} {l m : List Sg} {es fs : List (List V)} (hv : SegsAt h.get v l es) (hw : SegsAt h.get w m fs) : Pure Tryz.prog 59 [v, w] h (.bool (decide (l = m))) := by
 refine zae Tryz.func59 S.a32c S.a32e rfl (Nat.le_of_ble_eq_true rfl) fun wf => ?_; simp only [S.a32]
 simp
 refine (show Pure Tryz.prog 98 [v, w, .func (.func 99) [] []] h (.bool (decide (l = m))) from ?_) _ (by simp)
 clear wf
 refine zae Tryz.func98 S.a58c S.a58e rfl (Nat.le_of_ble_eq_true rfl) fun wf => ?_; simp only [S.a58]
 have hl := hv.sls.len
 have hm := hw.sls.len
 have hb := hv.sls.bound
 rw [hv.len] at hl hb
 rw [hw.len] at hm
 by_cases hlen : l.length = m.length
 ·simp [hl, hm, hlen]
  refine zaj (fun i t h' => (t 0 = v ∧ t 1 = w ∧ t 2 = .func (.func 99) [] [] ∧ t 15 = v ∧ t 16 = .int .i64 (m.length : Nat) ∧ t 17 = .int .i64 (i : Nat)) ∧ (Ge h h' ∧ h'.WF) ∧ l.take i = m.take i) m.length ⟨by simp, ⟨Ge.refl _, wf⟩, by simp⟩ ?_
  rintro i t h' hi ⟨⟨t0, t1, t2, t15, t16, t17⟩, ⟨gb, wb⟩, ht⟩ K hK
  by_cases hlt : i < m.length
  ·have hlt' : i < l.length := by omega
   obtain ⟨p, q, o, cs, u, e1, hp, e2, lo, e3, e4, e5, su, _⟩ := hv.atG wf hlt'
   obtain ⟨p', q', o', cs', u', e1', hp', e2', lo', e3', e4', e5', su', _⟩ := hw.atG wf hlt
   have so := su.one
   have so' := su'.one
   have hwr := zak hlt (by omega)
   have f2 := e2 h' gb
   obtain ⟨h3, hh3⟩ : ∃ h3, h3 = (h'.push (.row [.int .i64 0, .nilsl])).set h'.next (.row [.int .i64 l[i].kind, u]) := ⟨_, rfl⟩
   have g3 : Ge h' h3 := by rw [hh3]; exact ((Ge.refl _).push _).set (Nat.le_refl _) _
   have w3 : h3.WF := by rw [hh3]; exact (wb.push _).set (by simp) _
   have n3 : h3.next = h'.next + 1 := by rw [hh3]; simp
   have f2' := e2' h3 (gb.trans g3)
   have f2'' := e2' (h3.push (.row [.int .i64 0, .nilsl])) ((gb.trans g3).push _)
   have hne : ¬ p' = h'.next := by have := gb.1; omega
   simp [t1, t15, t16, t17, hlt, e1, f2, e3, lo, so]
   rw [<- hh3]
   simp [t2, e1', f2', e3', lo', so', n3]
   obtain ⟨h4, hh4⟩ : ∃ h4, h4 = (h3.push (.row [.int .i64 0, .nilsl])).set (h'.next + 1) (.row [.int .i64 m[i].kind, u']) := ⟨_, rfl⟩
   have g4 : Ge h' h4 := by rw [hh4]; exact ⟨by simp; omega, fun x hx => by
    rw [H.get_set, if_neg (by omega), H.get_push, if_neg (by omega), g3.2 x hx]⟩
   have w4 : h4.WF := by rw [hh4]; exact (w3.push _).set (by simp [n3]) _
   have c1 : zab h4.get h'.next 2 = some [.int .i64 l[i].kind, u] := by rw [hh4, hh3]; simp
   have c2 : zab h4.get (h'.next + 1) 2 = some [.int .i64 m[i].kind, u'] := by rw [hh4]; simp
   have c1' : zab h3.get h'.next 2 = some [.int .i64 l[i].kind, u] := by rw [hh3]; simp
   rw [<- hh4]
   simp [c1', c2]
   refine zjy (a := l[i]) (b := m[i]) (su.ge wf (gb.trans g4)) (su'.ge wf (gb.trans g4)) _ ?_
   by_cases hx : l[i] = m[i]
   ·simp [hx, t17, hwr]
    exact hK _ _ hlt ⟨by simp [t0, t1, t2, t15, t16], ⟨gb.trans g4, w4⟩, za1 hlt' hlt ht hx⟩
   ·simp [hx, zbV hlt' hlt hx, gb.trans g4]
  ·have hi2 : i = m.length := by omega
   subst hi2
   simp [t16, t17, zbl hlen rfl ht, gb]
 ·have : l ≠ m := fun e => hlen (by rw [e])
  have hlen' : ¬ (l.length : Int) = (m.length : Int) := by omega
  simp [hl, hm, neI, hlen', this]
theorem zef {h : H} {v w : V} {l m : List Nat} (hv : Sls h.get 1 v (l.map cP)) (hw : Sls h.get 1 w (m.map cP)) : Pure Tryz.prog 139 [v, w] h (.bool (decide (l = m))) := by
 refine zae Tryz.func139 S.a84c S.a84e rfl (Nat.le_of_ble_eq_true rfl) fun wf => ?_; simp only [S.a84]
 have hl := hv.len
 have hm := hw.len
 have hb := hv.bound
 simp at hl hm hb
 by_cases hlen : l.length = m.length
 ·simp [hl, hm, hlen]
  refine zaj (fun i t h' => (t 0 = v ∧ t 1 = w ∧ t 5 = .int .i64 (i : Nat)) ∧ h' = h ∧ l.take i = m.take i) m.length ⟨by simp, rfl, by simp⟩ ?_
  rintro i t h' hi ⟨⟨t0, t1, t5⟩, rfl, ht⟩ K hK
  by_cases hlt : i < m.length
  ·have hlt' : i < l.length := by omega
   obtain ⟨p, qq, o, cs, e1, e2, e3⟩ := hv.at1 (f := fun x : Nat => V.int .u32 x) hlt'
   obtain ⟨p', qq', o', cs', e1', e2', e3'⟩ := hw.at1 (f := fun x : Nat => V.int .u32 x) hlt
   have hwr := zak hlt (by omega)
   have hlt2 : (i : Int) < (l.length : Int) := by omega
   simp [t0, t5, hl, hlt2]
   refine zaL ?_
   by_cases hx : l[i] = m[i]
   ·have b1 : ((l[i] : Int) != (m[i] : Int)) = false := by rw [neI]; simp [hx]
    simp [t0, t1, t5, e1, e2, e3, e1', e2', e3', b1, hwr]
    exact hK _ _ hlt ⟨by simp [t0, t1], rfl, za1 hlt' hlt ht hx⟩
   ·have b1 : ((l[i] : Int) != (m[i] : Int)) = true := by rw [neI]; simp; omega
    simp [t0, t1, t5, e1, e2, e3, e1', e2', e3', b1, zbV hlt' hlt hx]
  ·have hi2 : i = m.length := by omega
   subst hi2
   have hlt2 : ¬ (m.length : Int) < (l.length : Int) := by omega
   have hlt3 : ¬ m.length < l.length := by omega
   simp [t0, t5, hl, zbl hlen rfl ht]
 ·have : l ≠ m := fun e => hlen (by rw [e])
  have hlen' : ¬ (l.length : Int) = (m.length : Int) := by omega
  simp [hl, hm, neI, hlen', this]
theorem zk1 {h : H} {v w : V} {l m : List Sg} {es fs : List (List V)} (hv : SegsAt h.get v l es) (hw : SegsAt h.get w m fs) : Pure Tryz.prog 138 [v, w] h (.bool (decide (l = m))) := by
 refine zae Tryz.func138 S.a83c S.a83e rfl (Nat.le_of_ble_eq_true rfl) fun wf => ?_; simp only [S.a83]
 have hl := hv.sls.len
 have hm := hw.sls.len
 have hb := hv.sls.bound
 rw [hv.len] at hl hb
 rw [hw.len] at hm
 by_cases hlen : l.length = m.length
 ·simp [hl, hm, hlen]
  refine zaj (fun i t h' => (t 0 = v ∧ t 1 = w ∧ t 5 = .int .i64 (i : Nat)) ∧ h' = h ∧ l.take i = m.take i) m.length ⟨by simp, rfl, by simp⟩ ?_
  rintro i t h' hi ⟨⟨t0, t1, t5⟩, rfl, ht⟩ K hK
  by_cases hlt : i < m.length
  ·have hlt' : i < l.length := by omega
   obtain ⟨p, q, o, cs, u, e1, hp, e2, lo, e3, e4, e5, su, _⟩ := hv.atG wf hlt'
   obtain ⟨p', q', o', cs', u', e1', hp', e2', lo', e3', e4', e5', su', _⟩ := hw.atG wf hlt
   have f2 := e2 h' (Ge.refl _)
   have f2' := e2' h' (Ge.refl _)
   have hwr := zak hlt (by omega)
   have hlt2 : (i : Int) < (l.length : Int) := by omega
   simp [t0, t5, hl, hlt2]
   refine zbX wf ?_
   by_cases hk : l[i].kind = m[i].kind
   ·have b1 : (l[i].kind != m[i].kind) = false := by rw [neI]; simp [hk]
    simp [t0, t1, t5, e1, f2, e4, e5, e1', f2', e4', e5', b1]
    refine zck (v := .bool (decide (l[i].ases = m[i].ases))) rfl (fun h2 g2 => zef (su.ge wf g2) (su'.ge wf g2)) ?_
    by_cases hx : l[i].ases = m[i].ases
    ·simp [hx, t5, hwr]
     exact hK _ _ hlt ⟨by simp [t0, t1], rfl, za1 hlt' hlt ht (zmO.2 ⟨hk, hx⟩)⟩
    ·simp [hx, zbV hlt' hlt (fun e => hx (by rw [e]))]
   ·have b1 : (l[i].kind != m[i].kind) = true := by rw [neI]; simp [hk]
    simp [t0, t1, t5, e1, f2, e4, e1', f2', e4', b1, zbV hlt' hlt (fun e => hk (by rw [e]))]
  ·have hi2 : i = m.length := by omega
   subst hi2
   have hlt2 : ¬ (m.length : Int) < (l.length : Int) := by omega
   have hlt3 : ¬ m.length < l.length := by omega
   simp [t0, t5, hl, zbl hlen rfl ht]
 ·have : l ≠ m := fun e => hlen (by rw [e])
  have hlen' : ¬ (l.length : Int) = (m.length : Int) := by omega
  simp [hl, hm, neI, hlen', this]
end Go.Am

namespace Go.Am
open Go.Proofs

set_option maxRecDepth 100000
theorem eqN (m n : Nat) : ((m : Int) == (n : Int)) = decide (m = n) := by rw [eqI, decide_eq_decide]; omega
theorem neN (m n : Nat) : ((m : Int) != (n : Int)) = !decide (m = n) := by rw [neI]; congr 1; rw [decide_eq_decide]; omega
theorem eqS (m n : List UInt8) : (m == n) = decide (m = n) := by by_cases h : m = n <;> simp [h]
theorem eqB (m n : Bool) : eqV TS.bool (.bool m) (.bool n) = some (decide (m = n)) := by cases m <;> cases n <;> rfl
theorem zjQ {a b : Att} (k0 : a.origin = b.origin) (k1 : a.next = b.next) (k2 : a.hasMed = b.hasMed) (k3 : a.med = b.med) (k4 : a.hasPref = b.hasPref) (k5 : a.pref = b.pref) (k6 : a.atomic = b.atomic) (k7 : a.aggAS = b.aggAS) (k8 : a.aggId = b.aggId) (k9 : a.hasOrig = b.hasOrig) (k10 : a.orig = b.orig) : (a = b) ↔ (a.path = b.path ∧ a.comms = b.comms ∧ a.exts = b.exts ∧ a.larges = b.larges ∧ a.clus = b.clus) := by
 cases a
 cases b
 simp only at *
 subst k0 k1 k2 k3 k4 k5 k6 k7 k8 k9 k10
 simp
theorem zlA {h : H} {a b : Att} {vp vc vx vl vk wp wc wx wl wk : V} (A : AttAt h.get a vp vc vx vl vk) (B : AttAt h.get b wp wc wx wl wk) : Pure Tryz.prog 21 [.agg (attC a vp vc vx vl vk), .agg (attC b wp wc wx wl wk)] h (.bool (decide (a = b))) := by
 refine zae Tryz.func21 S.a9c S.a9e rfl (Nat.le_of_ble_eq_true rfl) fun wf => ?_; simp only [S.a9]
 obtain ⟨es, PA⟩ := A.path
 obtain ⟨fs, PB⟩ := B.path
 have o1 := PA.sls.one
 have o2 := A.comms.one
 have o3 := A.exts.one
 have o4 := A.larges.one
 have o5 := A.clus.one
 have p1 := PB.sls.one
 have p2 := B.comms.one
 have p3 := B.exts.one
 have p4 := B.larges.one
 have p5 := B.clus.one
 obtain ⟨h2, hh2⟩ : ∃ h2, h2 = (h.push (.row (attC a vp vc vx vl vk))).push (.row (attC b wp wc wx wl wk)) := ⟨_, rfl⟩
 have g2 : Ge h h2 := by rw [hh2]; exact ((Ge.refl _).push _).push _
 have c1 : zab h2.get h.next 16 = some (attC a vp vc vx vl vk) := by rw [hh2]; simp [attC]
 have c2 : zab h2.get (h.next + 1) 16 = some (attC b wp wc wx wl wk) := by rw [hh2]; simp [attC]
 have PA2 := PA.ge wf g2
 have PB2 := PB.ge wf g2
 have A2 := A.ge wf g2
 have B2 := B.ge wf g2
 simp only [attC] at hh2 c1 c2
 simp [attC, o1, o2, o3, o4, o5, p1, p2, p3, p4, p5]
 rw [<- hh2]
 have eqO : (a.origin == b.origin) = decide (a.origin = b.origin) := eqI _ _
 rw [eqO]
 by_cases k0 : a.origin = b.origin
 case neg =>
  have hne : ¬ a = b := fun e => k0 (by rw [e])
  simp [k0, hne, g2]
 by_cases k1 : a.next = b.next
 case neg =>
  have hne : ¬ a = b := fun e => k1 (by rw [e])
  simp [c1, c2, k0, k1, eqS, hne, g2]
 by_cases k2 : a.hasMed = b.hasMed
 case neg =>
  have hne : ¬ a = b := fun e => k2 (by rw [e])
  simp [c1, c2, k0, k1, k2, eqB, hne, g2]
 by_cases k3 : a.med = b.med
 case neg =>
  have hne : ¬ a = b := fun e => k3 (by rw [e])
  simp [c1, c2, k0, k1, k2, k3, eqN, eqB, hne, g2]
 by_cases k4 : a.hasPref = b.hasPref
 case neg =>
  have hne : ¬ a = b := fun e => k4 (by rw [e])
  simp [c1, c2, k0, k1, k2, k3, k4, eqB, hne, g2]
 by_cases k5 : a.pref = b.pref
 case neg =>
  have hne : ¬ a = b := fun e => k5 (by rw [e])
  simp [c1, c2, k0, k1, k2, k3, k4, k5, eqN, eqB, hne, g2]
 by_cases k6 : a.atomic = b.atomic
 case neg =>
  have hne : ¬ a = b := fun e => k6 (by rw [e])
  simp [c1, c2, k0, k1, k2, k3, k4, k5, k6, eqB, hne, g2]
 by_cases k7 : a.aggAS = b.aggAS
 case neg =>
  have hne : ¬ a = b := fun e => k7 (by rw [e])
  simp [c1, c2, k0, k1, k2, k3, k4, k5, k6, k7, eqN, eqB, hne, g2]
 by_cases k8 : a.aggId = b.aggId
 case neg =>
  have hne : ¬ a = b := fun e => k8 (by rw [e])
  simp [c1, c2, k0, k1, k2, k3, k4, k5, k6, k7, k8, eqN, eqB, hne, g2]
 by_cases k9 : a.hasOrig = b.hasOrig
 case neg =>
  have hne : ¬ a = b := fun e => k9 (by rw [e])
  simp [c1, c2, k0, k1, k2, k3, k4, k5, k6, k7, k8, k9, eqB, hne, g2]
 by_cases k10 : a.orig = b.orig
 case neg =>
  have hne : ¬ a = b := fun e => k10 (by rw [e])
  simp [c1, c2, k0, k1, k2, k3, k4, k5, k6, k7, k8, k9, k10, eqN, eqB, hne, g2]
 simp [c1, c2, k0, k1, k2, k3, k4, k5, k6, k7, k8, k9, k10, eqB]
 simp only [zjQ k0 k1 k2 k3 k4 k5 k6 k7 k8 k9 k10]
 refine zjZ PA2 PB2 _ ?_
 by_cases m1 : a.path = b.path
 case neg => simp [m1, g2]
 simp [m1, c1, c2]
 refine zhO A2.comms B2.comms _ ?_
 by_cases m2 : a.comms = b.comms
 case neg => simp [m2, g2]
 simp [m2, c1, c2]
 refine zox A2.exts B2.exts _ ?_
 by_cases m3 : a.exts = b.exts
 case neg => simp [m3, g2]
 simp [m3, c1, c2]
 refine zof A2.larges B2.larges _ ?_
 by_cases m4 : a.larges = b.larges
 case neg => simp [m4, g2]
 simp [m4, c1, c2]
 refine zhO A2.clus B2.clus _ ?_
 simp [g2]

theorem zj6 {h : H} {a b : Att} {vp vc vx vl vk wp wc wx wl wk : V} (A : AttAt h.get a vp vc vx vl vk) (B : AttAt h.get b wp wc wx wl wk) : Pure Tryz.prog 110 [.agg (attC a vp vc vx vl vk), .agg (attC b wp wc wx wl wk)] h (.bool (decide (a = b))) := by
 refine zae Tryz.func110 S.a65c S.a65e rfl (Nat.le_of_ble_eq_true rfl) fun wf => ?_; simp only [S.a65]
 obtain ⟨es, PA⟩ := A.path
 obtain ⟨fs, PB⟩ := B.path
 have o1 := PA.sls.one
 have o2 := A.comms.one
 have o3 := A.exts.one
 have o4 := A.larges.one
 have o5 := A.clus.one
 have p1 := PB.sls.one
 have p2 := B.comms.one
 have p3 := B.exts.one
 have p4 := B.larges.one
 have p5 := B.clus.one
 obtain ⟨h2, hh2⟩ : ∃ h2, h2 = (h.push (.row (attC a vp vc vx vl vk))).push (.row (attC b wp wc wx wl wk)) := ⟨_, rfl⟩
 have g2 : Ge h h2 := by rw [hh2]; exact ((Ge.refl _).push _).push _
 have w2 : h2.WF := by rw [hh2]; exact (wf.push _).push _
 have c1 : zab h2.get h.next 16 = some (attC a vp vc vx vl vk) := by rw [hh2]; simp [attC]
 have c2 : zab h2.get (h.next + 1) 16 = some (attC b wp wc wx wl wk) := by rw [hh2]; simp [attC]
 have PA2 := PA.ge wf g2
 have PB2 := PB.ge wf g2
 have A2 := A.ge wf g2
 have B2 := B.ge wf g2
 have lx := A2.exts.len
 have ly := B2.exts.len
 have ll := A2.larges.len
 have lm := B2.larges.len
 have bx := A2.exts.bound
 have bl := A2.larges.bound
 simp at lx ly ll lm bx bl
 simp only [attC] at hh2 c1 c2
 simp [attC, o1, o2, o3, o4, o5, p1, p2, p3, p4, p5]
 rw [<- hh2]
 have neO : (a.origin != b.origin) = !decide (a.origin = b.origin) := neI _ _
 rw [neO]
 by_cases k0 : a.origin = b.origin
 case neg =>
  have hne : ¬ a = b := fun e => k0 (by rw [e])
  simp [k0, hne, g2]
 by_cases k1 : a.next = b.next
 case neg =>
  have hne : ¬ a = b := fun e => k1 (by rw [e])
  simp [c1, c2, k0, k1, eqS, hne, g2]
 by_cases k2 : a.hasMed = b.hasMed
 case neg =>
  have hne : ¬ a = b := fun e => k2 (by rw [e])
  simp [c1, c2, k0, k1, k2, eqB, hne, g2]
 by_cases k3 : a.med = b.med
 case neg =>
  have hne : ¬ a = b := fun e => k3 (by rw [e])
  simp [c1, c2, k0, k1, k2, k3, neN, eqB, hne, g2]
 by_cases k4 : a.hasPref = b.hasPref
 case neg =>
  have hne : ¬ a = b := fun e => k4 (by rw [e])
  simp [c1, c2, k0, k1, k2, k3, k4, eqB, hne, g2]
 by_cases k5 : a.pref = b.pref
 case neg =>
  have hne : ¬ a = b := fun e => k5 (by rw [e])
  simp [c1, c2, k0, k1, k2, k3, k4, k5, neN, eqB, hne, g2]
 by_cases k6 : a.atomic = b.atomic
 case neg =>
  have hne : ¬ a = b := fun e => k6 (by rw [e])
  simp [c1, c2, k0, k1, k2, k3, k4, k5, k6, eqB, hne, g2]
 by_cases k7 : a.aggAS = b.aggAS
 case neg =>
  have hne : ¬ a = b := fun e => k7 (by rw [e])
  simp [c1, c2, k0, k1, k2, k3, k4, k5, k6, k7, neN, eqB, hne, g2]
 by_cases k8 : a.aggId = b.aggId
 case neg =>
  have hne : ¬ a = b := fun e => k8 (by rw [e])
  simp [c1, c2, k0, k1, k2, k3, k4, k5, k6, k7, k8, neN, eqB, hne, g2]
 by_cases k9 : a.hasOrig = b.hasOrig
 case neg =>
  have hne : ¬ a = b := fun e => k9 (by rw [e])
  simp [c1, c2, k0, k1, k2, k3, k4, k5, k6, k7, k8, k9, eqB, hne, g2]
 by_cases k10 : a.orig = b.orig
 case neg =>
  have hne : ¬ a = b := fun e => k10 (by rw [e])
  simp [c1, c2, k0, k1, k2, k3, k4, k5, k6, k7, k8, k9, k10, neN, eqB, hne, g2]
 simp [c1, c2, k0, k1, k2, k3, k4, k5, k6, k7, k8, k9, k10, eqB]
 have ext := zjQ k0 k1 k2 k3 k4 k5 k6 k7 k8 k9 k10
 refine zk1 PA2 PB2 _ ?_
 by_cases m1 : a.path = b.path
 case neg =>
  have hne : ¬ a = b := fun e => m1 (by rw [e])
  simp [m1, hne, g2]
 simp [m1, c1, c2]
 refine zef A2.comms B2.comms _ ?_
 by_cases m2 : a.comms = b.comms
 case neg =>
  have hne : ¬ a = b := fun e => m2 (by rw [e])
  simp [m2, hne, g2]
 simp [m2, c1, c2]
 refine zef A2.clus B2.clus _ ?_
 by_cases m5 : a.clus = b.clus
 case neg =>
  have hne : ¬ a = b := fun e => m5 (by rw [e])
  simp [m5, hne, g2]
 simp [m5, c1, c2, lx, ly, neN]
 by_cases n3 : a.exts.length = b.exts.length
 case neg =>
  have hne : ¬ a = b := fun e => n3 (by rw [e])
  simp [n3, hne, g2]
 simp [n3, c1, c2, ll, lm, neN]
 by_cases n4 : a.larges.length = b.larges.length
 case neg =>
  have hne : ¬ a = b := fun e => n4 (by rw [e])
  simp [n4, hne, g2]
 simp [n4]
 refine zaj (fun i t h' => (t 2 = .ptr h.next 16 0 ∧ t 3 = .ptr (h.next + 1) 16 0 ∧ t 5 = .int .i64 (i : Nat)) ∧ h' = h2 ∧ a.exts.take i = b.exts.take i) b.exts.length ⟨by simp, rfl, by simp⟩ ?_
 rintro i t h' hi ⟨⟨t2, t3, t5⟩, rfl, ht⟩ K hK
 by_cases hlt : i < b.exts.length
 ·have hlt' : i < a.exts.length := by omega
  obtain ⟨p, qq, o, cs, e1, e2, e3⟩ := A2.exts.at1 (f := fun x : Nat => V.int .u64 x) hlt'
  obtain ⟨p', qq', o', cs', e1', e2', e3'⟩ := B2.exts.at1 (f := fun x : Nat => V.int .u64 x) hlt
  have hwr := zak hlt (by omega)
  have hlt2 : (i : Int) < (a.exts.length : Int) := by omega
  simp [t2, t5, c1, lx, hlt2]
  refine zaL ?_
  by_cases hx : a.exts[i] = b.exts[i]
  ·simp [t2, t3, t5, c1, c2, e1, e2, e3, e1', e2', e3', hx, hwr]
   exact hK _ _ hlt ⟨by simp [t2, t3], rfl, za1 hlt' hlt ht hx⟩
  ·have hne : ¬ a = b := fun e => zbV hlt' hlt hx (by rw [e])
   simp [t2, t3, t5, c1, c2, e1, e2, e3, e1', e2', e3', neN, hx, hne, g2]
 ·have hi2 : i = b.exts.length := by omega
  subst hi2
  have m3 := zbl n3 rfl ht
  have hlt2 : ¬ (b.exts.length : Int) < (a.exts.length : Int) := by omega
  have hlt3 : ¬ b.exts.length < a.exts.length := by omega
  simp [t2, t5, c1, lx, hlt2]
  clear hK hlt hi ht
  refine zaj (fun i t h2 => (t 2 = .ptr h.next 16 0 ∧ t 3 = .ptr (h.next + 1) 16 0 ∧ t 6 = .int .i64 (i : Nat)) ∧ h2 = h' ∧ a.larges.take i = b.larges.take i) b.larges.length ⟨by simp [t2, t3], rfl, by simp⟩ ?_
  rintro i t h2 hi ⟨⟨t2, t3, t6⟩, rfl, ht⟩ K hK
  by_cases hlt : i < b.larges.length
  ·have hlt' : i < a.larges.length := by omega
   obtain ⟨p, qq, o, cs, e1, e2, l3, e3, _⟩ := A2.larges.at (k := i) (by simpa using hlt')
   obtain ⟨p', qq', o', cs', e1', e2', l3', e3', _⟩ := B2.larges.at (k := i) (by simpa using hlt)
   have hwr := zak hlt (by omega)
   have q1 := zmP a.larges[i] b.larges[i]
   simp only [List.getElem_map] at e3 e3'
   have hlt2 : (i : Int) < (a.larges.length : Int) := by omega
   simp [t2, t6, c1, ll, hlt2]
   refine zaL ?_
   simp [t2, t3, t6, c1, c2, e1, e2, e3, l3, e1', e2', e3', l3', q1]
   by_cases hx : a.larges[i] = b.larges[i]
   ·simp [hx, hwr, t6]
    exact hK _ _ hlt ⟨by simp [t2, t3], rfl, za1 hlt' hlt ht hx⟩
   ·have hne : ¬ a = b := fun e => zbV hlt' hlt hx (by rw [e])
    simp [hx, hne, g2]
  ·have hi2 : i = b.larges.length := by omega
   subst hi2
   have m4 := zbl n4 rfl ht
   have hlt2 : ¬ (b.larges.length : Int) < (a.larges.length : Int) := by omega
   have hlt3 : ¬ b.larges.length < a.larges.length := by omega
   have heq : a = b := ext.2 ⟨m1, m2, m3, m4, m5⟩
   have hd : decide (a = b) = true := decide_eq_true heq
   simp only [hd]
   simp [t2, t6, c1, ll, hlt2, g2]
end Go.Am

namespace Go.Am
open Go.Proofs

structure AttSz (a : Att) : Prop where
 path : a.path.length * 32 ≤ 140737488355328
 segs : ∀ s ∈ a.path, s.ases.length * 4 ≤ 140737488355328
 comms : a.comms.length * 4 ≤ 140737488355328
 exts : a.exts.length * 8 ≤ 140737488355328
 larges : a.larges.length * 12 ≤ 140737488355328
 clus : a.clus.length * 4 ≤ 140737488355328
theorem zkR {a : Att} (h : attB a = true) : AttSz a := by
 have hp := h
 rw [zfN] at hp
 simp only [Bool.and_eq_true, Bool.not_eq_true', Bool.or_eq_false_iff, decide_eq_false_iff_not, Bool.not_eq_false', risB, decide_eq_true_eq, zcy, List.all_eq_true] at hp
 obtain ⟨⟨⟨⟨⟨⟨⟨⟨h1, h2⟩, h3⟩, h4⟩, h5⟩, h6⟩, h7⟩, h8⟩, h9⟩ := hp
 refine ⟨by omega, fun s hs => ?_, by omega, by omega, by omega, by omega⟩
 have := h3.2 s hs
 simp only [segB, Bool.and_eq_true, decide_eq_true_eq] at this
 omega
def PathFr (h : H) (lo : Nat) (v : V) (l : List Sg) : Prop := ∃ es : List (List V), Fc h lo 2 v es ∧ es.length = l.length ∧ ∀ (i : Nat) (s : Sg), l[i]? = some s -> ∃ w, es[i]? = some [.int .i64 s.kind, w] ∧ Fc h lo 1 w (s.ases.map cP)
structure AttFr (h : H) (lo : Nat) (a : Att) (vp vc vx vl vk : V) : Prop where
 path : PathFr h lo vp a.path
 comms : Fc h lo 1 vc (a.comms.map cP)
 exts : Fc h lo 1 vx (a.exts.map cX)
 larges : Fc h lo 3 vl (a.larges.map cL)
 clus : Fc h lo 1 vk (a.clus.map cP)
 sz : AttSz a
structure Keep3 (h h' : H) (lo : Nat) : Prop where
 next : h.next ≤ h'.next
 keep : ∀ i sz cs, lo ≤ i -> sz ≤ 3 -> h.get i = some (.grow sz cs) -> h'.get i = some (.grow sz cs)
theorem Keep3.refl (h : H) (lo : Nat) : Keep3 h h lo := ⟨Nat.le_refl _, fun _ _ _ _ _ e => e⟩
theorem Keep3.trans {a b c : H} {lo : Nat} (x : Keep3 a b lo) (y : Keep3 b c lo) : Keep3 a c lo := ⟨Nat.le_trans x.next y.next, fun i sz cs hl hs e => y.keep i sz cs hl hs (x.keep i sz cs hl hs e)⟩
theorem Ge.keep3 {h h' : H} (g : Ge h h') (w : h.WF) (lo : Nat) : Keep3 h h' lo := ⟨g.1, fun i _ _ _ _ e => g.keeps w i _ e⟩
theorem Gl.keep3 {h h' : H} {lo lo' sz : Nat} {v : V} {es : List (List V)} (g : Gl h lo sz v es) (hs : sz ≤ 3) (hl : lo' ≤ lo) (k : Keep3 h h' lo') : Gl h' lo sz v es := by
 rcases g with h1 | ⟨hne, j, h2, h3, h4, h5⟩
 ·exact .inl h1
 ·exact .inr ⟨hne, j, h2, Nat.lt_of_lt_of_le h3 k.next, h4, k.keep j _ _ (by omega) hs h5⟩
theorem Fc.keep3 {h h' : H} {lo lo' sz : Nat} {v : V} {es : List (List V)} (f : Fc h lo sz v es) (hs : sz ≤ 3) (hl : lo' ≤ lo) (k : Keep3 h h' lo') : Fc h' lo sz v es := by
 rcases f with h1 | ⟨hne, g⟩
 ·exact .inl h1
 ·exact .inr ⟨hne, g.keep3 hs hl k⟩
theorem PathFr.keep3 {h h' : H} {lo lo' : Nat} {v : V} {l : List Sg} (f : PathFr h lo v l) (hl : lo' ≤ lo) (k : Keep3 h h' lo') : PathFr h' lo v l := by
 obtain ⟨es, f1, f2, f3⟩ := f
 exact ⟨es, f1.keep3 (by omega) hl k, f2, fun i s hi => by obtain ⟨w, e, g⟩ := f3 i s hi; exact ⟨w, e, g.keep3 (by omega) hl k⟩⟩
theorem AttFr.keep3 {h h' : H} {lo lo' : Nat} {a : Att} {vp vc vx vl vk : V} (f : AttFr h lo a vp vc vx vl vk) (hl : lo' ≤ lo) (k : Keep3 h h' lo') : AttFr h' lo a vp vc vx vl vk :=
 ⟨f.path.keep3 hl k, f.comms.keep3 (by omega) hl k, f.exts.keep3 (by omega) hl k, f.larges.keep3 (by omega) hl k, f.clus.keep3 (by omega) hl k, f.sz⟩
theorem PathFr.le {h : H} {lo lo' : Nat} {v : V} {l : List Sg} (f : PathFr h lo v l) (hl : lo' ≤ lo) : PathFr h lo' v l := by
 obtain ⟨es, f1, f2, f3⟩ := f
 exact ⟨es, f1.le hl, f2, fun i s hi => by obtain ⟨w, e, g⟩ := f3 i s hi; exact ⟨w, e, g.le hl⟩⟩
theorem AttFr.le {h : H} {lo lo' : Nat} {a : Att} {vp vc vx vl vk : V} (f : AttFr h lo a vp vc vx vl vk) (hl : lo' ≤ lo) : AttFr h lo' a vp vc vx vl vk :=
 ⟨f.path.le hl, f.comms.le hl, f.exts.le hl, f.larges.le hl, f.clus.le hl, f.sz⟩
theorem AttFr.ge {h h' : H} {lo : Nat} {a : Att} {vp vc vx vl vk : V} (f : AttFr h lo a vp vc vx vl vk) (w : h.WF) (g : Ge h h') : AttFr h' lo a vp vc vx vl vk := f.keep3 (Nat.le_refl _) (g.keep3 w lo)
theorem zcv {l : List Sg} {es : List (List V)} (hl : es.length = l.length) (h : ∀ (i : Nat) (s : Sg), l[i]? = some s -> ∃ w, es[i]? = some [.int .i64 s.kind, w]) : ∀ e ∈ es, e.length = 2 := fun e he => by
 obtain ⟨i, hi, rfl⟩ := List.mem_iff_getElem.1 he
 obtain ⟨w, hw⟩ := h i l[i] (List.getElem?_eq_getElem (by omega))
 rw [List.getElem?_eq_getElem hi, Option.some.injEq] at hw
 rw [hw]; rfl
theorem zma {l : List Sg} {es : List (List V)} (hl : es.length = l.length) (h : ∀ (i : Nat) (s : Sg), l[i]? = some s -> ∃ w, es[i]? = some [.int .i64 s.kind, w] ∧ w.one = true) : ∀ e ∈ es, e.all V.one = true := fun e he => by
 obtain ⟨i, hi, rfl⟩ := List.mem_iff_getElem.1 he
 obtain ⟨w, hw, h1⟩ := h i l[i] (List.getElem?_eq_getElem (by omega))
 rw [List.getElem?_eq_getElem hi, Option.some.injEq] at hw
 rw [hw]; simp [h1]
theorem PathFr.at {h : H} {lo : Nat} {v : V} {l : List Sg} (f : PathFr h lo v l) (hb : l.length * 32 ≤ 140737488355328) (hs : ∀ s ∈ l, s.ases.length * 4 ≤ 140737488355328) : ∃ es, SegsAt h.get v l es := by
 obtain ⟨es, f1, f2, f3⟩ := f
 exact ⟨es, f1.sls (zcv f2 fun i s hi => by obtain ⟨w, e, _⟩ := f3 i s hi; exact ⟨w, e⟩) (by omega), f2, fun i s hi => by
  obtain ⟨w, e, g⟩ := f3 i s hi
  exact ⟨w, e, g.sls (zbT _) (by have := hs s (List.mem_of_getElem? hi); simp; omega)⟩⟩
theorem AttFr.at {h : H} {lo : Nat} {a : Att} {vp vc vx vl vk : V} (f : AttFr h lo a vp vc vx vl vk) : AttAt h.get a vp vc vx vl vk := by
 have z := f.sz
 exact ⟨f.path.at z.path z.segs, f.comms.sls (zbT _) (by have := z.comms; simp; omega), f.exts.sls (ziR _) (by have := z.exts; simp; omega), f.larges.sls (ziH _) (by have := z.larges; simp; omega), f.clus.sls (zbT _) (by have := z.clus; simp; omega)⟩
theorem AttFr.one {h : H} {lo : Nat} {a : Att} {vp vc vx vl vk : V} (f : AttFr h lo a vp vc vx vl vk) : vp.one = true ∧ vc.one = true ∧ vx.one = true ∧ vl.one = true ∧ vk.one = true := by
 obtain ⟨_, f1, _⟩ := f.path
 exact ⟨f1.one, f.comms.one, f.exts.one, f.larges.one, f.clus.one⟩

theorem Fc.obj {h h' : H} {lo sz sz' j : Nat} {v : V} {es : List (List V)} {cs : List V} (f : Fc h lo sz v es) (hj : h.get j = some (.grow sz' cs)) (hne : sz ≠ sz') (hn : h.next ≤ h'.next) (k : ∀ i, i ≠ j -> i < h.next -> h'.get i = h.get i) : Fc h' lo sz v es := by
 rcases f with h1 | ⟨hes, h1 | ⟨h1, i, h2, h3, h4, h5⟩⟩
 ·exact .inl h1
 ·exact .inr ⟨hes, .inl h1⟩
 ·refine .inr ⟨hes, .inr ⟨h1, i, h2, by omega, h4, ?_⟩⟩
  rw [k i (fun e => by subst e; rw [hj] at h5; cases h5; exact hne rfl) h3]; exact h5
theorem zkY {es : List (List V)} (hs : ∀ e ∈ es, e.length = 2) {i : Nat} (hi : i < es.length) (k w : V) (hk : es[i][0]? = some k) : es.flatten.set (i * 2 + 1) w = (es.set i [k, w]).flatten := by
 induction es generalizing i with
 | nil => simp at hi
 | cons e es ih =>
  have he := hs e (by simp)
  match e, he with
  | [a, b], _ =>
   cases i with
   | zero => simp at hk; subst hk; simp
   | succ i =>
    have := ih (fun x hx => hs x (by simp [hx])) (i := i) (by simpa using hi) (by simpa using hk)
    rw [List.flatten_cons, List.set_cons_succ, List.flatten_cons, <- this, show (i + 1) * 2 + 1 = i * 2 + 1 + 2 by omega]
    rfl
def attZ : List V := [.int .i64 0, .nilsl, .str [], .bool false, .int .u32 0, .bool false, .int .u32 0, .bool false, .int .u32 0, .int .u32 0, .nilsl, .nilsl, .nilsl, .bool false, .int .u32 0, .nilsl]
set_option maxRecDepth 100000
theorem zln {h : H} {a : Att} {vp vc vx vl vk : V} (A : AttAt h.get a vp vc vx vl vk) (z : AttSz a) {Q : V -> H -> Prop}
  (q : ∀ wp wc wx wl wk h', Ge h h' -> h'.WF -> AttFr h' h.next a wp wc wx wl wk -> Q (.agg (attC a wp wc wx wl wk)) h') : Acalls Tryz.prog 93 [.agg (attC a vp vc vx vl vk)] h Q := by
 refine zal Tryz.func93 S.a53c S.a53e (Nat.le_of_ble_eq_true rfl) fun wf => ?_; simp only [S.a53]
 obtain ⟨es, P⟩ := A.path
 have o1 := P.sls.one
 have o2 := A.comms.one
 have o3 := A.exts.one
 have o4 := A.larges.one
 have o5 := A.clus.one
 have n01 : ¬ h.next = h.next + 1 := by omega
 obtain ⟨h2, hh2⟩ : ∃ h2, h2 = (h.push (.row (attC a vp vc vx vl vk))).push (.row attZ) := ⟨_, rfl⟩
 have g2 : Ge h h2 := by rw [hh2]; exact ((Ge.refl _).push _).push _
 have w2 : h2.WF := by rw [hh2]; exact (wf.push _).push _
 have n2 : h2.next = h.next + 2 := by rw [hh2]; simp
 have x1 : h2.get h.next = some (.row (attC a vp vc vx vl vk)) := by rw [hh2]; simp
 have x2 : h2.get (h.next + 1) = some (.row attZ) := by rw [hh2]; simp
 have P2 := P.ge wf g2
 have A2 := A.ge wf g2
 have c1 : zab h2.get h.next 16 = some (attC a vp vc vx vl vk) := by rw [zag x1 (by simp [attC])]; rfl
 simp only [attC, attZ] at hh2 c1
 simp [attC, o1, o2, o3, o4, o5]
 simp only [<- hh2]
 refine zlX P2.sls (zma P.len fun i s hi => by obtain ⟨w, e, k⟩ := P2.seg i s hi; exact ⟨w, e, k.one⟩) (by have := P.len; have := z.path; omega) fun v1 h3 g3 w3 f3 => ?_
 have c3 : zab h3.get h.next 16 = some (attC a vp vc vx vl vk) := by rw [g3.cells (by omega), zag x1 (by simp [attC])]; rfl
 have x3 : h3.get h.next = some (.row (attC a vp vc vx vl vk)) := by rw [g3.2 _ (by omega)]; exact x1
 have o6 := f3.one
 simp only [attC] at c3 x3
 simp [x3, zaE o6, zaD o6]
 obtain ⟨h4, hh4⟩ : ∃ h4, h4 = h3.set h.next (.row (attC a v1 vc vx vl vk)) := ⟨_, rfl⟩
 have n4 : h4.next = h3.next := by rw [hh4]; simp
 have w4 : h4.WF := by rw [hh4]; exact w3.set (by have := g3.1; omega) _
 have k4 : ∀ x, x ≠ h.next -> h4.get x = h3.get x := fun x hx => by rw [hh4, H.get_set, if_neg hx]
 have x4 : h4.get h.next = some (.row (attC a v1 vc vx vl vk)) := by rw [hh4]; simp
 have y4 : h4.get (h.next + 1) = some (.row attZ) := by rw [k4 _ (by omega), g3.2 _ (by omega)]; exact x2
 have f4 : Fc h4 h2.next 2 v1 es := f3.keep (by omega) fun i hi _ => k4 i (by have := f3.lo i hi; omega)
 have l4 := (f4.sls P.sls.size P.sls.bound).len
 have hlen := P.len
 have hn0 := z.path
 rw [hlen] at l4
 simp only [attC, attZ] at hh4 x4 y4
 rw [<- hh4]
 simp [l4]
 have base : ∀ x, x < h.next -> h4.get x = h.get x := fun x hx => by rw [k4 x (by omega), g3.2 x (by omega), g2.2 x hx]
 refine zaj (fun i t h' => (t 1 = .ptr h.next 16 0 ∧ t 2 = .ptr (h.next + 1) 16 0 ∧ t 10 = .int .i64 (a.path.length : Nat) ∧ t 11 = .int .i64 (i : Nat)) ∧ (h'.WF ∧ h2.next ≤ h'.next ∧ h'.get h.next = h4.get h.next ∧ h'.get (h.next + 1) = h4.get (h.next + 1) ∧ ∀ x, x < h.next -> h'.get x = h.get x) ∧
  ∃ fs : List (List V), fs.length = a.path.length ∧ (a.path.length = 0 ∧ Fc h' h2.next 2 v1 fs ∨ ∃ j, h2.next ≤ j ∧ j < h'.next ∧ v1 = .sl j (a.path.length * 2) 0 a.path.length none ∧ h'.get j = some (.grow 2 fs.flatten)) ∧
   ∀ (k : Nat) (s : Sg), a.path[k]? = some s -> ∃ w, fs[k]? = some [.int .i64 s.kind, w] ∧ (k < i ∧ Fc h' h2.next 1 w (s.ases.map cP) ∨ i ≤ k ∧ Sls h.get 1 w (s.ases.map cP))) a.path.length ⟨by simp, ⟨w4, by have := g3.1; omega, rfl, rfl, base⟩, es, hlen, ?_, fun k s hk => ?_⟩ ?_
 ·rcases f4 with ⟨e, f⟩ | ⟨hne, e | ⟨_, j, j1, j2, j3, j4⟩⟩
  ·subst e; exact .inl ⟨by simpa using hlen.symm, .inl ⟨rfl, f⟩⟩
  ·exact absurd e.1 hne
  ·exact .inr ⟨j, j1, j2, by rw [j3, zau P.sls.size, hlen], j4⟩
 ·obtain ⟨w, e, sw⟩ := P.seg k s hk
  exact ⟨w, e, .inr ⟨by omega, sw⟩⟩
 rintro i t h' hi ⟨⟨t1, t2, t10, t11⟩, ⟨wb, nb, xb, yb, bb⟩, fs, fl, fo, fe⟩ K hK
 have hge : Ge h h' := ⟨by omega, bb⟩
 by_cases hlt : i < a.path.length
 ·rcases fo with ⟨h0, _⟩ | ⟨j, j1, j2, j3, j4⟩
  ·omega
  have hw := zak hlt (by omega)
  obtain ⟨w, e1, e2⟩ := fe i a.path[i] (List.getElem?_eq_getElem hlt)
  obtain ⟨s, hsd⟩ : ∃ s, s = a.path[i] := ⟨_, rfl⟩
  rw [<- hsd] at e1 e2
  rcases e2 with ⟨e2, _⟩ | ⟨_, sw⟩
  ·omega
  have hif : i < fs.length := by omega
  have e1' : fs[i] = [.int .i64 s.kind, w] := by rw [List.getElem?_eq_getElem hif, Option.some.injEq] at e1; exact e1
  have f2 : ∀ e ∈ fs, e.length = 2 := zcv fl fun k s hk => by obtain ⟨w, e, _⟩ := fe k s hk; exact ⟨w, e⟩
  have hfl := zau f2
  rw [fl] at hfl
  obtain ⟨v5, h5, c5, g5, w5, q5⟩ := zhu wb (sw.ge wf hge) (zd6 s.ases) (by have := z.segs s (by rw [hsd]; exact List.getElem_mem hlt); simp; omega)
  have xb' := xb.trans x4
  have cb : zab h'.get h.next 16 = some (attC a v1 vc vx vl vk) := by rw [zag xb' (by simp)]; rfl
  have cj : zab h'.get j (a.path.length * 2) = some fs.flatten := by rw [zag j4 (by simp [hfl])]; rfl
  have i0 : fs.flatten[i * 2 + 1]? = some w := by
   have := zeh f2 hif
   have h1 : (fs.flatten.drop (i * 2)).take 2 = [.int .i64 s.kind, w] := by rw [this, e1']
   have h2 : ((fs.flatten.drop (i * 2)).take 2)[1]? = some w := by rw [h1]; rfl
   rw [List.getElem?_take, if_pos (by omega), List.getElem?_drop] at h2
   exact h2
  simp only [attC] at cb
  simp [t10, t11, hlt]
  refine zcT [h.next] [0, 2, 0, 0, 0, 0, 0, 0, 0, 1, 0, 0, 0] rfl (by rfl) ?_
  subst j3
  simp [t1, cb, cj, i0, hlt, I.foot, za4]
  refine zbE (v := v5) (h' := h5) (fun Q q => by simpa using c5 Q q) (by decide) (fun _ => fun k hk => ?_) ?_
  ·rw [List.mem_singleton] at hk
   subst hk
   exact g5.2 _ (by omega)
  have j5 : h5.get j = some (.grow 2 fs.flatten) := by rw [g5.2 j j2]; exact j4
  have o8 := q5.one
  have hle : i * 2 + 1 + 1 ≤ a.path.length * 2 := by omega
  have hfs := zkY f2 hif (.int .i64 s.kind) v5 (by rw [e1']; rfl)
  have hls : putCells fs.flatten (i * 2 + 1) [v5] = (fs.set i [.int .i64 s.kind, v5]).flatten := by
   rw [<- hfs, List.set_eq_take_append_cons_drop, if_pos (by omega)]
   simp [putCells]
  simp only [putCells, List.length_singleton, List.append_assoc, List.singleton_append] at hls
  simp [hlt, j5, hfl, zaE o8, zaD o8, hle, t11, hw, hls]
  refine hK _ _ hlt ⟨by simp [t1, t2, t10], ⟨w5.set (by have := g5.1; omega) _, ?_, ?_, ?_, fun x hx => ?_⟩, fs.set i [.int .i64 s.kind, v5], by simp [fl], .inr ⟨j, j1, ?_, rfl, by simp⟩, fun k s' hk => ?_⟩
  ·have := g5.1; simp; omega
  ·rw [H.get_set, if_neg (by omega), g5.2 _ (by omega)]; exact xb
  ·rw [H.get_set, if_neg (by omega), g5.2 _ (by omega)]; exact yb
  ·rw [H.get_set, if_neg (by omega), g5.2 _ (by omega)]; exact bb x hx
  ·have := g5.1; simp; omega
  ·by_cases hki : k = i
   ·subst hki
    rw [List.getElem?_eq_getElem hlt, Option.some.injEq, <- hsd] at hk
    subst hk
    refine ⟨v5, by rw [List.getElem?_set_self hif], .inl ⟨by omega, ?_⟩⟩
    exact (q5.le (by omega)).obj j5 (by omega) (by simp) fun x hx _ => by rw [H.get_set, if_neg hx]
   ·obtain ⟨w', e3, e4⟩ := fe k s' hk
    refine ⟨w', by rw [List.getElem?_set_ne (by omega)]; exact e3, ?_⟩
    rcases e4 with ⟨e4, e5⟩ | ⟨e4, e5⟩
    ·exact .inl ⟨by omega, ((e5.ge g5)).obj j5 (by omega) (by simp) fun x hx _ => by rw [H.get_set, if_neg hx]⟩
    ·exact .inr ⟨by omega, e5⟩
 ·have hi2 : i = a.path.length := by omega
  subst hi2
  simp [t10, t11]
  have xb' := xb.trans x4
  have yb' := yb.trans y4
  have cb : ∀ x, Ge h' x -> zab x.get h.next 16 = some (attC a v1 vc vx vl vk) := fun x gx => by rw [zag ((gx.2 _ (by omega)).trans xb') (by simp)]; rfl
  have kp : ∀ x y, Ge h' x -> Ge x y -> Keep [h.next] x y := fun x y g1 g2 k hk => by
   rw [List.mem_singleton] at hk
   subst hk
   exact g2.2 _ (by have := g1.1; omega)
  obtain ⟨u1, h5, r1, g5, w5, q5⟩ := zhu wb (A.comms.ge wf hge) (zd6 _) (by have := z.comms; simp; omega)
  have ge5 := hge.trans g5
  obtain ⟨u2, h6, r2, g6, w6, q6⟩ := zoe w5 (A.exts.ge wf ge5) (zil _) (by have := z.exts; simp; omega)
  have ge6 := ge5.trans g6
  obtain ⟨u3, h7, r3, g7, w7, q7⟩ := znH w6 (A.larges.ge wf ge6) (ziV _) (by have := z.larges; simp; omega)
  have ge7 := ge6.trans g7
  obtain ⟨u4, h8, r4, g8, w8, q8⟩ := zhu w7 (A.clus.ge wf ge7) (zd6 _) (by have := z.clus; simp; omega)
  have g56 := g5.trans g6
  have g57 := g56.trans g7
  have g58 := g57.trans g8
  have c0 := cb h' (Ge.refl _)
  have c5 := cb h5 g5
  have c6 := cb h6 g56
  have c7 := cb h7 g57
  have x8 : h8.get h.next = some (.row (attC a v1 vc vx vl vk)) := (g58.2 _ (by omega)).trans xb'
  have y8 : h8.get (h.next + 1) = some (.row attZ) := (g58.2 _ (by omega)).trans yb'
  have p1 := q5.one
  have p2 := q6.one
  have p3 := q7.one
  have p4 := q8.one
  simp only [attC, attZ] at c0 c5 c6 c7 x8 y8
  refine zcT [h.next] [0, 2, 1, 0, 2, 1, 0, 2, 1, 0, 2, 1, 0, 0, 0, 0, 0, 0, 0, 0] rfl (by rfl) ?_
  simp [t1, c0, I.foot, za4]
  refine zbE (v := u1) (h' := h5) (fun Q q => by simpa using r1 Q q) (by decide) (fun _ => kp _ _ (Ge.refl _) g5) ?_
  simp [t1, c5, I.foot, za4]
  refine zbE (v := u2) (h' := h6) (fun Q q => by simpa using r2 Q q) (by decide) (fun _ => kp _ _ g5 g6) ?_
  simp [t1, c6, I.foot, za4]
  refine zbE (v := u3) (h' := h7) (fun Q q => by simpa using r3 Q q) (by decide) (fun _ => kp _ _ g56 g7) ?_
  simp [t1, c7, I.foot, za4]
  refine zbE (v := u4) (h' := h8) (fun Q q => by simpa using r4 Q q) (by decide) (fun _ => kp _ _ g57 g8) ?_
  simp [t1, x8, zaE p1, zaD p1, zaE p2, zaD p2, zaE p3, zaD p3, zaE p4, zaD p4]
  simp [t2, y8, p1, p2, p3, p4, o6]
  obtain ⟨hF, hhF⟩ : ∃ hF, hF = (h8.set h.next (.row (attC a v1 u1 u2 u3 u4))).set (h.next + 1) (.row (attC a v1 u1 u2 u3 u4)) := ⟨_, rfl⟩
  have gF : Ge h hF := by rw [hhF]; exact ((hge.trans g58).set (Nat.le_refl _) _).set (by omega) _
  have l8 : h2.next ≤ h8.next := by have := g58.1; omega
  have wF : hF.WF := by rw [hhF]; exact (w8.set (by omega) _).set (by simp; omega) _
  have nF : hF.next = h8.next := by rw [hhF]; simp
  have kF : ∀ x, h2.next ≤ x -> hF.get x = h8.get x := fun x hx => by rw [hhF, H.get_set, if_neg (by omega), H.get_set, if_neg (by omega)]
  simp only [attC] at hhF
  rw [<- hhF]
  have fin : ∀ {sz : Nat} {v : V} {es : List (List V)} {x : H} {lo : Nat}, Fc x lo sz v es -> Ge x h8 -> h2.next ≤ lo -> Fc hF h.next sz v es := fun f g hl =>
   ((f.ge g).keep (by omega) fun i hi _ => kF i (by have := f.lo i hi; omega)).le (by omega)
  refine q v1 u1 u2 u3 u4 hF gF wF ⟨⟨fs, ?_, fl, fun k s hk => ?_⟩, fin q5 (g6.trans (g7.trans g8)) nb, fin q6 (g7.trans g8) (by have := g5.1; omega), fin q7 g8 (by have := g56.1; omega), fin q8 (Ge.refl _) (by have := g57.1; omega), z⟩
  ·rcases fo with ⟨_, f⟩ | ⟨j, j1, j2, j3, j4⟩
   ·exact fin f g58 (Nat.le_refl _)
   ·have f2 : ∀ e ∈ fs, e.length = 2 := zcv fl fun k s hk => by obtain ⟨w, e, _⟩ := fe k s hk; exact ⟨w, e⟩
    by_cases h0 : fs = []
    ·subst h0
     have hn : a.path.length = 0 := by simpa using fl.symm
     rcases f4 with ⟨e, f⟩ | ⟨hne, _⟩
     ·subst e
      exact .inl ⟨rfl, by
       rcases f with f | ⟨k, hk, f⟩
       ·exact .inl f
       ·exact .inr ⟨k, by omega, f⟩⟩
     ·exact absurd (List.eq_nil_of_length_eq_zero (by omega)) hne
    ·exact fin (lo := h2.next) (x := h') (.inr ⟨h0, .inr ⟨h0, j, j1, j2, by rw [j3, zau f2, fl], j4⟩⟩) g58 (Nat.le_refl _)
  ·obtain ⟨w, e, f⟩ := fe k s hk
   have hk' := (List.getElem?_eq_some_iff.1 hk).1
   rcases f with ⟨_, f⟩ | ⟨f, _⟩
   ·exact ⟨w, e, fin f g58 (Nat.le_refl _)⟩
   ·omega
end Go.Am

namespace Go.Am
open Go.Proofs

set_option maxRecDepth 100000
theorem zmR {h : H} {sz bytes : Nat} {x : V} {es : List (List V)} (hs : Sls h.get sz x es) (h1 : ∀ e ∈ es, e.all V.one = true) (hsz : sz ≠ 0) (hb : es.length * bytes ≤ 140737488355328) :
  ∃ v d, zaz h.get h.next sz bytes .nilsl x = some (v, d) ∧ Gl (h.app d) h.next sz v es ∧ Ge h (h.app d) ∧ (h.WF -> (h.app d).WF) := by
 have hb2 := hs.bound
 obtain ⟨v', d, ea, gl, hn, hk, hw, _⟩ := (Gl.nil h h.next sz).appends (bytes := bytes) (Nat.le_refl _) (by simp) hs h1 hsz (by simpa using hb) (by simp; omega)
 exact ⟨v', d, ea, by simpa using gl, ⟨hn, fun x hx => hk x (by simp [V.ids]) hx⟩, hw⟩
theorem zcm {h : H} {lo sz bytes : Nat} {v : V} {es : List (List V)} (e : List V) (g : Gl h lo sz v es) (hlo : lo ≤ h.next) (hs : ∀ a ∈ es, a.length = sz) (he : e.length = sz) (h1 : e.all V.one = true) (hsz : sz ≠ 0)
  (hb : (es.length + 1) * bytes ≤ 140737488355328) (hb2 : es.length + 1 ≤ 9223372036854775807) :
  ∃ v' d, zaz (h.push (.row e)).get (h.next + 1) sz bytes v (.sl h.next sz 0 1 (some 1)) = some (v', d) ∧ Gl ((h.push (.row e)).app d) lo sz v' (es ++ [e]) ∧ h.next ≤ ((h.push (.row e)).app d).next ∧
   (∀ x, x ∉ v.ids -> x < h.next -> ((h.push (.row e)).app d).get x = h.get x) ∧ (h.WF -> ((h.push (.row e)).app d).WF) ∧ ∀ i ∈ v'.ids, i ∈ v.ids ∨ h.next ≤ i := by
 have kp : ∀ x, x < h.next -> (h.push (.row e)).get x = h.get x := fun x hx => by rw [H.get_push, if_neg (by omega)]
 have g1' : Gl (h.push (.row e)) lo sz v es := g.keep (by simp) fun x hx => kp x (g.lo x hx).2
 have hx : zaC (h.push (.row e)).get sz (.sl h.next sz 0 1 (some 1)) = some (1, e) := by simp [zaJ, he, List.take_of_length_le (Nat.le_of_eq he)]
 obtain ⟨v', d, ea, gl, hn, hk, hw, hid⟩ := g1'.append2 (bytes := bytes) (by simp; omega) hs he hx h1 hsz hb hb2
 refine ⟨v', d, by simpa using ea, gl, by simp at hn; omega, fun x hx hlt => (hk x hx (by simp; omega)).trans (kp x hlt), fun w => hw (w.push _), fun i hi => ?_⟩
 rcases hid i hi with h | h
 ·exact .inl h
 ·simp at h; exact .inr (by omega)
theorem zl2 {h : H} {s : Sg} {u : V} (hu : Sls h.get 1 u (s.ases.map cP)) (hl : s.ases.length * 4 ≤ 140737488355328) {Q : V -> H -> Prop}
  (q : ∀ w h', Ge h h' -> h'.WF -> Gl h' h.next 1 w (s.ases.map cP) -> Q (.agg [.int .i64 s.kind, w]) h') : Acalls Tryz.prog 129 [.agg [.int .i64 s.kind, u]] h Q := by
 refine zal Tryz.func129 S.a74c S.a74e (Nat.le_of_ble_eq_true rfl) fun wf => ?_; simp only [S.a74]
 have o1 := hu.one
 have n01 : ¬ h.next = h.next + 1 := by omega
 obtain ⟨h2, hh2⟩ : ∃ h2, h2 = (h.push (.row [.int .i64 s.kind, u])).push (.row [.int .i64 0, .nilsl]) := ⟨_, rfl⟩
 have g2 : Ge h h2 := by rw [hh2]; exact ((Ge.refl _).push _).push _
 have w2 : h2.WF := by rw [hh2]; exact (wf.push _).push _
 have n2 : h2.next = h.next + 2 := by rw [hh2]; simp
 have x1 : h2.get h.next = some (.row [.int .i64 s.kind, u]) := by rw [hh2]; simp
 have x2 : h2.get (h.next + 1) = some (.row [.int .i64 0, .nilsl]) := by rw [hh2]; simp
 have hlen := (hu.ge wf g2).len
 have hb := hu.bound
 simp at hlen hb
 simp [o1]
 simp only [<- hh2]
 refine zaj (fun i t h' => ∃ v, (t 1 = .ptr h.next 2 0 ∧ t 2 = .ptr (h.next + 1) 2 0 ∧ t 3 = v ∧ t 4 = .int .i64 (i : Nat)) ∧ Ge h2 h' ∧ h'.WF ∧ Gl h' h2.next 1 v ((s.ases.take i).map cP)) s.ases.length ⟨.nilsl, by simp, Ge.refl _, w2, by simpa using Gl.nil h2 h2.next 1⟩ ?_
 rintro i t h' hi ⟨v, ⟨t1, t2, t3, t4⟩, gb, wb, gl⟩ K hK
 have c1 : zab h'.get h.next 2 = some [.int .i64 s.kind, u] := by rw [zag ((gb.2 _ (by omega)).trans x1) (by simp)]; rfl
 have su := hu.ge wf (g2.trans gb)
 have hlen := su.len
 simp at hlen
 by_cases hlt : i < s.ases.length
 ·obtain ⟨p, qq, o, cs, e1, e2, e3⟩ := su.at1 (f := fun x : Nat => V.int .u32 x) hlt
  have hw := zak hlt (by omega)
  obtain ⟨v', d, ea, gl2, n3, k3, w3, _⟩ := zcm (bytes := 4) (cP s.ases[i]) gl (by have := gb.1; omega) (zbT _) rfl rfl (by decide) (by simp; omega) (by simp; omega)
  obtain ⟨h3, hh3⟩ : ∃ h3, h3 = (h'.push (.row (cP s.ases[i]))).app d := ⟨_, rfl⟩
  rw [<- hh3] at gl2 n3 k3 w3
  simp only [cP] at ea hh3
  simp [t1, t3, t4, c1, hlen, hlt, e1, e2, e3, ea, <- hh3, hw]
  refine hK _ _ hlt ⟨v', by simp [t1, t2], ⟨by have := gb.1; omega, fun x hx => ?_⟩, w3 wb, ?_⟩
  ·rw [k3 x (fun hv => by have := (gl.lo x hv).1; omega) (by have := gb.1; omega)]; exact gb.2 x hx
  ·rw [List.take_add_one, List.getElem?_eq_getElem hlt, List.map_append]; simpa using gl2
 ·have hi2 : i = s.ases.length := by omega
  subst hi2
  rw [List.take_length] at gl
  have o2 := gl.one
  have x2' : h'.get (h.next + 1) = some (.row [.int .i64 0, .nilsl]) := (gb.2 _ (by omega)).trans x2
  simp [t1, t2, t3, t4, c1, hlen, o2, zaE o2, zaD o2, x2']
  obtain ⟨hF, hhF⟩ : ∃ hF, hF = h'.set (h.next + 1) (.row [.int .i64 s.kind, v]) := ⟨_, rfl⟩
  rw [<- hhF]
  refine q v hF (by rw [hhF]; exact (g2.trans gb).set (by omega) _) (by rw [hhF]; exact wb.set (by have := gb.1; omega) _) ?_
  have glF : Gl hF h2.next 1 v (s.ases.map cP) := gl.keep (by rw [hhF]; simp) fun x hx => by rw [hhF, H.get_set, if_neg (by have := (gl.lo x hx).1; omega)]
  rcases glF with h1 | ⟨h1, j, h3, h4⟩
  ·exact .inl h1
  ·exact .inr ⟨h1, j, by omega, h4⟩
theorem zlj {h : H} {v : V} {l : List Sg} {es : List (List V)} (hs : SegsAt h.get v l es) (hl : l.length * 32 ≤ 140737488355328) (hl2 : ∀ s ∈ l, s.ases.length * 4 ≤ 140737488355328) {Q : V -> H -> Prop}
  (q : ∀ w h', Ge h h' -> h'.WF -> PathFr h' h.next w l -> Q w h') : Acalls Tryz.prog 105 [v] h Q := by
 refine zal Tryz.func105 S.a60c S.a60e (Nat.le_of_ble_eq_true rfl) fun wf => ?_; simp only [S.a60]
 have hlen := hs.sls.len
 rw [hs.len] at hlen
 simp
 refine zaj (fun i t h' => ∃ w fs, (t 0 = v ∧ t 3 = w ∧ t 4 = .int .i64 (i : Nat)) ∧ Ge h h' ∧ h'.WF ∧ Gl h' h.next 2 w fs ∧ fs.length = i ∧ ∀ (k : Nat) (s : Sg), k < i -> l[k]? = some s -> ∃ u, fs[k]? = some [.int .i64 s.kind, u] ∧ Fc h' h.next 1 u (s.ases.map cP)) l.length ⟨.nilsl, [], by simp, Ge.refl _, wf, Gl.nil _ _ _, rfl, fun _ _ h => by omega⟩ ?_
 rintro i t h' hi ⟨w, fs, ⟨t0, t3, t4⟩, gb, wb, gl, fl, fe⟩ K hK
 replace hlen := (hs.ge wf gb).sls.len
 rw [hs.len] at hlen
 by_cases hlt : i < l.length
 ·obtain ⟨p, q1, o, cs, u, e1, hp, e2, lo, e3, e4, e5, su, _⟩ := hs.atG wf hlt
  have e2' := e2 h' gb
  have hw := zak hlt (by omega)
  obtain ⟨s, hsd⟩ : ∃ s, s = l[i] := ⟨_, rfl⟩
  rw [<- hsd] at e3 su
  have lo' : o + 2 ≤ cs.length := lo
  have hlt2 : (i : Int) < (l.length : Int) := by omega
  simp [t0, t3, t4, hlen, hlt, e1, e2', e3, lo']
  refine zl2 (su.ge wf gb) (hl2 s (by rw [hsd]; exact List.getElem_mem hlt)) fun u2 h3 g3 w3 gl3 => ?_
  have f2 : ∀ e ∈ fs, e.length = 2 := zcv (l := l.take i) (by simp; omega) fun k s hk => by
   rw [List.getElem?_take] at hk
   split at hk
   ·obtain ⟨w, e, _⟩ := fe k s (by omega) hk; exact ⟨w, e⟩
   ·cases hk
  have gl4 : Gl h3 h.next 2 w fs := gl.keep g3.1 fun x hx => g3.2 x (gl.lo x hx).2
  have o2 := gl3.one
  obtain ⟨v', d, ea, gl5, n5, k5, w5, _⟩ := zcm (bytes := 32) [.int .i64 s.kind, u2] gl4 (by have := gb.1; have := g3.1; omega) f2 rfl (by simp [o2]) (by decide) (by omega) (by omega)
  obtain ⟨h5, hh5⟩ : ∃ h5, h5 = (h3.push (.row [.int .i64 s.kind, u2])).app d := ⟨_, rfl⟩
  rw [<- hh5] at gl5 n5 k5 w5
  have r2 : zax 1 [V.int .i64 0, V.nilsl] = [.int .i64 0, .nilsl] := rfl
  simp [o2, ea, <- hh5, t4, hw]
  have gh5 : Ge h h5 := ⟨by have := gb.1; have := g3.1; omega, fun x hx => by
   rw [k5 x (fun hv => by have := (gl4.lo x hv).1; omega) (by have := gb.1; have := g3.1; omega), g3.2 x (by have := gb.1; omega)]; exact gb.2 x hx⟩
  have kf : ∀ {y : V} {ys : List (List V)}, Fc h3 h.next 1 y ys -> Fc h5 h.next 1 y ys := fun {y ys} f => by
   rcases f with f | ⟨hne, f | ⟨f1, j, f2, f3, f4, f5⟩⟩
   ·exact .inl f
   ·exact .inr ⟨hne, .inl f⟩
   ·refine .inr ⟨hne, .inr ⟨f1, j, f2, by omega, f4, ?_⟩⟩
    rw [k5 j (fun hv => ?_) f3]; exact f5
    rcases gl4 with ⟨_, e⟩ | ⟨_, j2, g1, g2, e, g4⟩
    ·rw [e] at hv; simp [V.ids] at hv
    ·rw [e] at hv; simp [V.ids] at hv
     subst hv
     rw [f5] at g4
     cases g4
  refine hK _ _ hlt ⟨v', fs ++ [[.int .i64 s.kind, u2]], by simp [t0], gh5, w5 w3, gl5, by simp [fl], fun k s' hk hks => ?_⟩
  by_cases hki : k = i
  ·subst hki
   rw [List.getElem?_eq_getElem hlt, Option.some.injEq, <- hsd] at hks
   subst hks
   refine ⟨u2, by rw [<- fl, List.getElem?_append_right (Nat.le_refl _)]; simp, kf (gl3.fr.le gb.1)⟩
  ·obtain ⟨u', e6, f6⟩ := fe k s' (by omega) hks
   exact ⟨u', by rw [List.getElem?_append_left (by omega)]; exact e6, kf (f6.ge g3)⟩
 ·have hi2 : i = l.length := by omega
  subst hi2
  have hlt2 : ¬ (l.length : Int) < (l.length : Int) := by omega
  simp [t0, t3, t4, hlen]
  exact q w h' gb wb ⟨fs, gl.fr, fl, fun k s hk => fe k s (List.getElem?_eq_some_iff.1 hk).1 hk⟩
structure Bx (h g : H) (row : List V) : Prop where
 wf : g.WF
 nb : h.next + 2 ≤ g.next
 base : ∀ x, x < h.next -> g.get x = h.get x
 x1 : g.get h.next = some (.row row)
 y1 : g.get (h.next + 1) = some (.row attZ)
theorem Bx.ge {h g : H} {row : List V} (b : Bx h g row) : Ge h g := ⟨by have := b.nb; omega, b.base⟩
theorem Bx.ap {h g : H} {row : List V} (b : Bx h g row) (w : h.WF) {sz : Nat} (bytes : Nat) {x : V} {es : List (List V)} (hs : Sls h.get sz x es) (h1 : ∀ e ∈ es, e.all V.one = true) (hsz : sz ≠ 0) (hb : es.length * bytes ≤ 140737488355328) :
  ∃ v d, zaz g.get g.next sz bytes .nilsl x = some (v, d) ∧ v.one = true ∧ (g.app d).get h.next = some (.row row) ∧ ∀ row', Bx h ((g.app d).set h.next (.row row')) row' ∧ (∀ x, h.next < x -> x < g.next -> ((g.app d).set h.next (.row row')).get x = g.get x) ∧ g.next ≤ ((g.app d).set h.next (.row row')).next ∧ Fc ((g.app d).set h.next (.row row')) (h.next + 2) sz v es := by
 obtain ⟨v, d, ea, gl, gd, wd⟩ := zmR (bytes := bytes) (hs.ge w b.ge) h1 hsz hb
 have nb := b.nb
 have n1 := gd.1
 refine ⟨v, d, ea, gl.one, (gd.2 _ (by omega)).trans b.x1, fun row' => ⟨⟨(wd b.wf).set (by omega) _, by simp; omega, fun x hx => ?_, by simp, ?_⟩, fun x hx hlt => ?_, by simp; omega, ?_⟩⟩
 ·rw [H.get_set, if_neg (by omega), gd.2 x (by omega)]; exact b.base x hx
 ·rw [H.get_set, if_neg (by omega), gd.2 _ (by omega)]; exact b.y1
 ·rw [H.get_set, if_neg (by omega), gd.2 x hlt]
 ·exact (gl.fr.keep (by simp) fun i hi _ => by rw [H.get_set, if_neg (by have := (gl.lo i hi).1; omega)]).le (by omega)
theorem zgM {h : H} {a : Att} {vp vc vx vl vk : V} (A : AttAt h.get a vp vc vx vl vk) (z : AttSz a) {Q : V -> H -> Prop}
  (q : ∀ wp wc wx wl wk h', Ge h h' -> h'.WF -> AttFr h' h.next a wp wc wx wl wk -> Q (.agg (attC a wp wc wx wl wk)) h') : Acalls Tryz.prog 64 [.agg (attC a vp vc vx vl vk)] h Q := by
 refine zal Tryz.func64 S.a36c S.a36e (Nat.le_of_ble_eq_true rfl) fun wf => ?_; simp only [S.a36]
 obtain ⟨es, P⟩ := A.path
 have o1 := P.sls.one
 have o2 := A.comms.one
 have o3 := A.exts.one
 have o4 := A.larges.one
 have o5 := A.clus.one
 have n01 : ¬ h.next = h.next + 1 := by omega
 obtain ⟨h2, hh2⟩ : ∃ h2, h2 = (h.push (.row (attC a vp vc vx vl vk))).push (.row attZ) := ⟨_, rfl⟩
 have g2 : Ge h h2 := by rw [hh2]; exact ((Ge.refl _).push _).push _
 have w2 : h2.WF := by rw [hh2]; exact (wf.push _).push _
 have n2 : h2.next = h.next + 2 := by rw [hh2]; simp
 have x1 : h2.get h.next = some (.row (attC a vp vc vx vl vk)) := by rw [hh2]; simp
 have x2 : h2.get (h.next + 1) = some (.row attZ) := by rw [hh2]; simp
 have P2 := P.ge wf g2
 have c1 : zab h2.get h.next 16 = some (attC a vp vc vx vl vk) := by rw [zag x1 (by simp [attC])]; rfl
 simp only [attC, attZ] at hh2 c1
 simp [attC, o1, o2, o3, o4, o5]
 simp only [<- hh2]
 refine zlj P2 z.path z.segs fun v1 h3 g3 w3 f3 => ?_
 have o6 : v1.one = true := by obtain ⟨_, f, _⟩ := f3; exact f.one
 have x3 : h3.get h.next = some (.row (attC a vp vc vx vl vk)) := by rw [g3.2 _ (by omega)]; exact x1
 have y3 : h3.get (h.next + 1) = some (.row attZ) := by rw [g3.2 _ (by omega)]; exact x2
 obtain ⟨h4, hh4⟩ : ∃ h4, h4 = h3.set h.next (.row (attC a v1 vc vx vl vk)) := ⟨_, rfl⟩
 have b4 : Bx h h4 (attC a v1 vc vx vl vk) := by
  have := g3.1
  rw [hh4]
  refine ⟨w3.set (by omega) _, by simp; omega, fun x hx => ?_, by simp, ?_⟩
  ·rw [H.get_set, if_neg (by omega), g3.2 x (by omega)]; exact g2.2 x hx
  ·rw [H.get_set, if_neg (by omega)]; exact y3
 have f4 : PathFr h4 (h.next + 2) v1 a.path := by
  obtain ⟨fs, p1, p2, p3⟩ := f3
  refine ⟨fs, ?_, p2, fun k s hk => ?_⟩
  ·exact (p1.keep (by rw [hh4]; simp) fun i hi _ => by rw [hh4, H.get_set, if_neg (by have := p1.lo i hi; omega)]).le (by omega)
  ·obtain ⟨w, e, f⟩ := p3 k s hk
   exact ⟨w, e, (f.keep (by rw [hh4]; simp) fun i hi _ => by rw [hh4, H.get_set, if_neg (by have := f.lo i hi; omega)]).le (by omega)⟩
 obtain ⟨u1, d1, e1, q1, r1, s1⟩ := b4.ap wf 4 A.comms (zd6 _) (by decide) (by have := z.comms; simp; omega)
 obtain ⟨b5, k5, n5, f5⟩ := s1 (attC a v1 u1 vx vl vk)
 obtain ⟨h5, hh5⟩ : ∃ h5, h5 = (h4.app d1).set h.next (.row (attC a v1 u1 vx vl vk)) := ⟨_, rfl⟩
 rw [<- hh5] at b5 k5 n5 f5
 obtain ⟨u2, d2, e2, q2, r2, s2⟩ := b5.ap wf 8 A.exts (zil _) (by decide) (by have := z.exts; simp; omega)
 obtain ⟨b6, k6, n6, f6⟩ := s2 (attC a v1 u1 u2 vl vk)
 obtain ⟨h6, hh6⟩ : ∃ h6, h6 = (h5.app d2).set h.next (.row (attC a v1 u1 u2 vl vk)) := ⟨_, rfl⟩
 rw [<- hh6] at b6 k6 n6 f6
 obtain ⟨u3, d3, e3, q3, r3, s3⟩ := b6.ap wf 12 A.larges (ziV _) (by decide) (by have := z.larges; simp; omega)
 obtain ⟨b7, k7, n7, f7⟩ := s3 (attC a v1 u1 u2 u3 vk)
 obtain ⟨h7, hh7⟩ : ∃ h7, h7 = (h6.app d3).set h.next (.row (attC a v1 u1 u2 u3 vk)) := ⟨_, rfl⟩
 rw [<- hh7] at b7 k7 n7 f7
 obtain ⟨u4, d4, e4, q4, r4, s4⟩ := b7.ap wf 4 A.clus (zd6 _) (by decide) (by have := z.clus; simp; omega)
 obtain ⟨b8, k8, n8, f8⟩ := s4 (attC a v1 u1 u2 u3 u4)
 obtain ⟨h8, hh8⟩ : ∃ h8, h8 = (h7.app d4).set h.next (.row (attC a v1 u1 u2 u3 u4)) := ⟨_, rfl⟩
 rw [<- hh8] at b8 k8 n8 f8
 have x8 := b8.x1
 have y8 : (h7.app d4).get (h.next + 1) = some (.row attZ) := by have := b8.y1; rw [hh8, H.get_set, if_neg (by omega)] at this; exact this
 have m4 : h4.next = h3.next := by rw [hh4]; simp
 have m5 : h5.next = (h4.app d1).next := by rw [hh5]; simp
 have m6 : h6.next = (h5.app d2).next := by rw [hh6]; simp
 have m7 : h7.next = (h6.app d3).next := by rw [hh7]; simp
 rw [m4] at e1
 rw [m5] at e2
 rw [m6] at e3
 rw [m7] at e4
 have c4 : zab h4.get h.next 16 = some (attC a v1 vc vx vl vk) := by rw [zag b4.x1 (by simp [attC])]; rfl
 have c5 : zab h5.get h.next 16 = some (attC a v1 u1 vx vl vk) := by rw [zag b5.x1 (by simp [attC])]; rfl
 have c6 : zab h6.get h.next 16 = some (attC a v1 u1 u2 vl vk) := by rw [zag b6.x1 (by simp [attC])]; rfl
 have c7 : zab h7.get h.next 16 = some (attC a v1 u1 u2 u3 vk) := by rw [zag b7.x1 (by simp [attC])]; rfl
 have c8 : zab h8.get h.next 16 = some (attC a v1 u1 u2 u3 u4) := by rw [zag b8.x1 (by simp [attC])]; rfl
 simp only [attC] at x3 hh4 hh5 hh6 hh7 hh8 r1 r2 r3 r4 c4 c5 c6 c7 c8 x8
 simp only [attZ] at y3 y8
 simp [x3, zaE o6, zaD o6]
 rw [<- hh4]
 simp [e1, r1, zaE q1, zaD q1]
 rw [<- hh5]
 simp [e2, r2, zaE q2, zaD q2]
 rw [<- hh6]
 simp [e3, r3, zaE q3, zaD q3]
 rw [<- hh7]
 simp [e4, r4, zaE q4, zaD q4]
 rw [<- hh8]
 simp [y8, o6, q1, q2, q3, q4]
 obtain ⟨hF, hhF⟩ : ∃ hF, hF = h8.set (h.next + 1) (.row (attC a v1 u1 u2 u3 u4)) := ⟨_, rfl⟩
 have kF : ∀ x, h.next + 2 ≤ x -> hF.get x = h8.get x := fun x hx => by rw [hhF, H.get_set, if_neg (by omega)]
 have nF : hF.next = h8.next := by rw [hhF]; simp
 have gF : Ge h hF := by rw [hhF]; exact b8.ge.set (by omega) _
 have wF : hF.WF := by rw [hhF]; exact b8.wf.set (by have := b8.nb; omega) _
 simp only [attC] at hhF
 rw [<- hhF]
 have fin : ∀ {sz : Nat} {v : V} {es : List (List V)} {x : H}, Fc x (h.next + 2) sz v es -> x.next ≤ h8.next -> (∀ y, h.next < y -> y < x.next -> h8.get y = x.get y) -> Fc hF h.next sz v es := fun f hn hk =>
  (f.keep (by omega) fun i hi hl => by have := f.lo i hi; rw [kF i this]; exact hk i (by omega) hl).le (by omega)
 have k78 := k8
 have k68 : ∀ y, h.next < y -> y < h6.next -> h8.get y = h6.get y := fun y h1 h2 => (k8 y h1 (by omega)).trans (k7 y h1 h2)
 have k58 : ∀ y, h.next < y -> y < h5.next -> h8.get y = h5.get y := fun y h1 h2 => (k68 y h1 (by omega)).trans (k6 y h1 h2)
 have k48 : ∀ y, h.next < y -> y < h4.next -> h8.get y = h4.get y := fun y h1 h2 => (k58 y h1 (by omega)).trans (k5 y h1 h2)
 refine q v1 u1 u2 u3 u4 hF gF wF ⟨?_, fin f5 (by omega) k58, fin f6 (by omega) k68, fin f7 n8 k78, fin f8 (Nat.le_refl _) fun _ _ _ => rfl, z⟩
 obtain ⟨fs, p1, p2, p3⟩ := f4
 exact ⟨fs, fin p1 (by omega) k48, p2, fun k s hk => by obtain ⟨w, e, f⟩ := p3 k s hk; exact ⟨w, e, fin f (by omega) k48⟩⟩
end Go.Am

namespace Go.Am
open Go.Proofs Go.ChangeShapes Go.WideShapes

section
variable {H' : Type} {enc : TypeId × Value -> H'} {P : Program} {w : World} {base : Nat} {spare : Nat -> Bool} {held : Bool}
theorem zjm : ∀ {ts : List TypeId} {ds : List (DataW H')}, (DataW.weightsEach P ts ds).all (· ≤ reachBytes) = true -> ∀ (i : Nat) (t : TypeId) (d : DataW H'), ts[i]? = some t -> ds[i]? = some d -> zgY P t d
 | [], _, _, _, _, _, h1, _ => by simp at h1
 | _ :: _, [], _, _, _, _, _, h2 => by simp at h2
 | t0 :: ts, d0 :: ds, h, i, t, d, h1, h2 => by
  rw [DataW.weightsEach, List.all_append, Bool.and_eq_true] at h
  cases i with
  | zero =>
   simp at h1 h2
   subst h1 h2
   exact fun n hn => by simpa using List.all_eq_true.1 h.1 n hn
  | succ i => exact zjm h.2 i t d (by simpa using h1) (by simpa using h2)
theorem zsi {W0 : World} {μ : Nat -> Pl} {h : H} (r : Rel W0 μ h w) (ro : h.Ro) {n : Nat} {t e : TypeId} {d0 : Dl} (ht : P.underlying t = some (.slice e)) (hl : zdK P n t = some [d0]) {b : Nat} {v : Value} {d : DataW H'} {ps : List MemPlace}
  (hok : Value.okWide P w .any b t v) (hd : DataW.Trod enc P w base spare held t v d ps) (hs : zgY P t d) :
  ∃ (μ' : Nat -> Pl) (h' : H) (v' : V), Rel W0 μ' h' w ∧ h'.Ro ∧ Ext μ h μ' h' ∧ (∀ i o, h.get i = some o -> h'.get i = some o) ∧ VR μ' h' v' v ∧ Dl.ok h'.get d0 v' := by
 obtain ⟨a, len, cap, rfl⟩ := okWide_slice ht hok
 obtain ⟨μ', h', vs, ⟨i1, i2, i3, i4⟩, k, q⟩ := znO r ro hl hd hs
 obtain ⟨v', r', rfl, h1, rfl⟩ := q
 exact ⟨μ', h', v', i1, i2, i3, i4, by simpa [Value.cells, VRs] using k, h1⟩
end

theorem zcE {k : IntKind} {B : Nat} (hk : ∀ n : Int, (Lit.int k n).wf = true -> 0 ≤ n ∧ n < (B : Int)) {v : V} (h : Lf.ok (.int k) v) : ∃ n : Nat, v = .int k (n : Nat) ∧ n < B := by
 obtain ⟨n, rfl, hn⟩ := h
 have := hk n hn
 exact ⟨n.toNat, by rw [Int.toNat_of_nonneg this.1], by omega⟩
theorem zcF : ∀ n : Int, (Lit.int .u32 n).wf = true -> 0 ≤ n ∧ n < ((4294967296 : Nat) : Int) := fun n h => by
 simp [Lit.wf, IntKind.min, IntKind.max, IntKind.bits, IntKind.signed] at h; omega
theorem zj7 : ∀ n : Int, (Lit.int .u64 n).wf = true -> 0 ≤ n ∧ n < ((18446744073709551616 : Nat) : Int) := fun n h => by
 simp [Lit.wf, IntKind.min, IntKind.max, IntKind.bits, IntKind.signed] at h; omega
theorem zin {k : IntKind} {B : Nat} (hk : ∀ n : Int, (Lit.int k n).wf = true -> 0 ≤ n ∧ n < (B : Int)) {g : Nat -> Option O} : ∀ (ess : List (List V)), (∀ es ∈ ess, Dls.ok g [.lf (.int k)] es) -> ∃ l : List Nat, ess = l.map (fun x : Nat => [V.int k (x : Nat)]) ∧ ∀ x ∈ l, x < B
 | [], _ => ⟨[], rfl, fun _ h => by cases h⟩
 | es :: ess, h => by
  obtain ⟨l, rfl, hl⟩ := zin hk ess fun e he => h e (List.mem_cons_of_mem _ he)
  obtain ⟨v, r, rfl, hv, rfl⟩ := h es (by simp)
  obtain ⟨n, rfl, hn⟩ := zcE hk hv
  exact ⟨n :: l, rfl, fun x hx => (List.mem_cons.1 hx).elim (fun e => e ▸ hn) (hl x)⟩
structure NAt (g : Nat -> Option O) (b B : Nat) (k : IntKind) (v : V) (l : List Nat) : Prop where
 sls : Sls g 1 v (l.map fun x : Nat => [V.int k (x : Nat)])
 cap : zcb v
 bulk : l.length * b ≤ reachBytes
 fit : ∀ x ∈ l, x < B
theorem ziW {k : IntKind} {b B : Nat} (hk : ∀ n : Int, (Lit.int k n).wf = true -> 0 ≤ n ∧ n < (B : Int)) {g : Nat -> Option O} {v : V} (h : Dl.ok g (.sl b [.lf (.int k)]) v) : ∃ l : List Nat, NAt g b B k v l := by
 obtain ⟨ess, s, c, d, q⟩ := h
 obtain ⟨l, rfl, hl⟩ := zin hk ess q
 exact ⟨l, s, c, by simpa using d, hl⟩
theorem NAt.mono {g g' : Nat -> Option O} {b B : Nat} {k : IntKind} {v : V} {l : List Nat} (n : NAt g b B k v l) (m : ∀ i o, g i = some o -> g' i = some o) : NAt g' b B k v l := ⟨n.sls.mono m, n.cap, n.bulk, n.fit⟩
def segL : List Dl := [.lf (.int .i64), .sl 4 [.lf (.int .u32)]]
def lgL : List Dl := [.lf (.int .u32), .lf (.int .u32), .lf (.int .u32)]
def attL : List Dl := [.lf (.int .i64), .sl 32 [.lf (.int .i64), .sl 4 [.lf (.int .u32)]], .lf .str, .lf .bool, .lf (.int .u32), .lf .bool, .lf (.int .u32), .lf .bool, .lf (.int .u32), .lf (.int .u32), .sl 4 [.lf (.int .u32)], .sl 8 [.lf (.int .u64)], .sl 12 [.lf (.int .u32), .lf (.int .u32), .lf (.int .u32)], .lf .bool, .lf (.int .u32), .sl 4 [.lf (.int .u32)]]
structure AttFit (a : Att) : Prop where
 origin : (Lit.int .i64 a.origin).wf = true
 path : ∀ s ∈ a.path, (Lit.int .i64 s.kind).wf = true ∧ ∀ x ∈ s.ases, x < 4294967296
 next : a.next.length ≤ maxLen
 med : a.med < 4294967296
 pref : a.pref < 4294967296
 aggAS : a.aggAS < 4294967296
 aggId : a.aggId < 4294967296
 comms : ∀ x ∈ a.comms, x < 4294967296
 exts : ∀ x ∈ a.exts, x < 18446744073709551616
 larges : ∀ x ∈ a.larges, x.1 < 4294967296 ∧ x.2.1 < 4294967296 ∧ x.2.2 < 4294967296
 orig : a.orig < 4294967296
 clus : ∀ x ∈ a.clus, x < 4294967296
theorem zkf {g : Nat -> Option O} : ∀ (ess : List (List V)), (∀ es ∈ ess, Dls.ok g segL es) -> ∃ l : List Sg, ess.length = l.length ∧ (∀ (i : Nat) (s : Sg), l[i]? = some s -> ∃ w, ess[i]? = some [.int .i64 s.kind, w] ∧ NAt g 4 4294967296 .u32 w s.ases) ∧ ∀ s ∈ l, (Lit.int .i64 s.kind).wf = true ∧ (∀ x ∈ s.ases, x < 4294967296) ∧ s.ases.length * 4 ≤ reachBytes
 | [], _ => ⟨[], rfl, by simp, fun _ h => by cases h⟩
 | es :: ess, h => by
  obtain ⟨l, e1, e2, e3⟩ := zkf ess fun e he => h e (List.mem_cons_of_mem _ he)
  obtain ⟨v, r, rfl, ⟨k, rfl, hk⟩, w, r2, rfl, hw, rfl⟩ := h es (by simp)
  obtain ⟨m, hm⟩ := ziW zcF hw
  refine ⟨⟨k, m⟩ :: l, by simp [e1], fun i s hi => ?_, fun s hs => ?_⟩
  ·cases i with
   | zero => simp at hi; subst hi; exact ⟨w, rfl, hm⟩
   | succ i => simpa using e2 i s (by simpa using hi)
  ·rcases List.mem_cons.1 hs with rfl | hs
   ·exact ⟨hk, hm.fit, hm.bulk⟩
   ·exact e3 s hs
theorem zna {g : Nat -> Option O} : ∀ (ess : List (List V)), (∀ es ∈ ess, Dls.ok g lgL es) -> ∃ l : List Lg, ess = l.map cL ∧ ∀ x ∈ l, x.1 < 4294967296 ∧ x.2.1 < 4294967296 ∧ x.2.2 < 4294967296
 | [], _ => ⟨[], rfl, fun _ h => by cases h⟩
 | es :: ess, h => by
  obtain ⟨l, rfl, hl⟩ := zna ess fun e he => h e (List.mem_cons_of_mem _ he)
  obtain ⟨v1, r1, rfl, h1, v2, r2, rfl, h2, v3, r3, rfl, h3, rfl⟩ := h es (by simp)
  obtain ⟨n1, rfl, f1⟩ := zcE zcF h1
  obtain ⟨n2, rfl, f2⟩ := zcE zcF h2
  obtain ⟨n3, rfl, f3⟩ := zcE zcF h3
  exact ⟨(n1, n2, n3) :: l, rfl, fun x hx => (List.mem_cons.1 hx).elim (fun e => by subst e; exact ⟨f1, f2, f3⟩) (hl x)⟩
structure AttIn (g : Nat -> Option O) (a : Att) (vp vc vx vl vk : V) : Prop where
 at' : AttAt g a vp vc vx vl vk
 sz : AttSz a
 fit : AttFit a
 caps : zcb vp ∧ zcb vc ∧ zcb vx ∧ zcb vl ∧ zcb vk
theorem AttIn.mono {g g' : Nat -> Option O} {a : Att} {vp vc vx vl vk : V} (x : AttIn g a vp vc vx vl vk) (m : ∀ i o, g i = some o -> g' i = some o) : AttIn g' a vp vc vx vl vk := ⟨x.at'.mono m, x.sz, x.fit, x.caps⟩
theorem zdr {n : Nat} (h : n ≤ reachBytes) : n ≤ 140737488355328 := Nat.le_trans h (by decide)
theorem zp3 {g : Nat -> Option O} {rest : List Dl} {vs : List V} (h : Dls.ok g (attL ++ rest) vs) : ∃ (a : Att) (vp vc vx vl vk : V) (r : List V), vs = attC a vp vc vx vl vk ++ r ∧ AttIn g a vp vc vx vl vk ∧ Dls.ok g rest r := by
 obtain ⟨v1, r1, rfl, ⟨o, rfl, ho⟩, v2, r2, rfl, ⟨ess, sp, cp, bp, qp⟩, v3, r3, rfl, ⟨nx, rfl, hnx⟩, v4, r4, rfl, ⟨b4, rfl⟩, v5, r5, rfl, h5, v6, r6, rfl, ⟨b6, rfl⟩, v7, r7, rfl, h7, v8, r8, rfl, ⟨b8, rfl⟩, v9, r9, rfl, h9, v10, r10, rfl, h10, v11, r11, rfl, h11, v12, r12, rfl, h12, v13, r13, rfl, ⟨esl, sl, cl, bl, ql⟩, v14, r14, rfl, ⟨b14, rfl⟩, v15, r15, rfl, h15, v16, r16, rfl, h16, hr⟩ := h
 obtain ⟨n5, rfl, f5⟩ := zcE zcF h5
 obtain ⟨n7, rfl, f7⟩ := zcE zcF h7
 obtain ⟨n9, rfl, f9⟩ := zcE zcF h9
 obtain ⟨n10, rfl, f10⟩ := zcE zcF h10
 obtain ⟨n15, rfl, f15⟩ := zcE zcF h15
 obtain ⟨cs, hc⟩ := ziW zcF h11
 obtain ⟨xs, hx⟩ := ziW zj7 h12
 obtain ⟨ks, hk⟩ := ziW zcF h16
 obtain ⟨segs, e1, e2, e3⟩ := zkf ess qp
 obtain ⟨ls, rfl, fl⟩ := zna esl ql
 refine ⟨⟨o, segs, nx, b4, n5, b6, n7, b8, n9, n10, cs, xs, ls, b14, n15, ks⟩, v2, v11, v12, v13, v16, r16, rfl, ⟨⟨⟨ess, sp, e1, fun i s hi => ?_⟩, hc.sls, hx.sls, sl, hk.sls⟩, ⟨?_, fun s hs => ?_, ?_, ?_, ?_, ?_⟩, ⟨ho, fun s hs => ⟨(e3 s hs).1, (e3 s hs).2.1⟩, hnx, f5, f7, f9, f10, hc.fit, hx.fit, fl, f15, hk.fit⟩, cp, hc.cap, hx.cap, cl, hk.cap⟩, hr⟩
 ·obtain ⟨w, a, b⟩ := e2 i s hi
  exact ⟨w, a, b.sls⟩
 ·rw [e1] at bp; exact zdr bp
 ·exact zdr (e3 s hs).2.2
 ·exact zdr hc.bulk
 ·exact zdr hx.bulk
 ·rw [List.length_map] at bl; exact zdr bl
 ·exact zdr hk.bulk
end Go.Am
