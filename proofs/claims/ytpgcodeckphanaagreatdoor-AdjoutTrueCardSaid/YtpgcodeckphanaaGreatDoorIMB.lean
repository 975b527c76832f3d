/-
 AT0, AT1, AT2, AT3, AT4, AT5, AT6, AT7, AT8, AD, in one text.
-/
import Derived.Test.YtpgcodeckphanaaGreatDoorIMA
import Derived.Test.YtpgcodeckphanaaGreatDoorIAm37
import Derived.Test.YtpgcodeckphanaaGreatDoorIAm40
import Derived.Test.YtpgcodeckphanaaGreatDoorIAm45
namespace Go.Am

structure Sg where
 kind : Int
 ases : List Nat
 deriving DecidableEq
structure Att where
 origin : Int
 path : List Sg
 next : List UInt8
 hasMed : Bool
 med : Nat
 hasPref : Bool
 pref : Nat
 atomic : Bool
 aggAS : Nat
 aggId : Nat
 comms : List Nat
 exts : List Nat
 larges : List Lg
 hasOrig : Bool
 orig : Nat
 clus : List Nat
 deriving DecidableEq
def att0 : Att := ⟨0, [], [], false, 0, false, 0, false, 0, 0, [], [], [], false, 0, []⟩
def attC (a : Att) (vp vc vx vl vk : V) : List V := [.int .i64 a.origin, vp, .str a.next, .bool a.hasMed, .int .u32 (a.med : Nat), .bool a.hasPref, .int .u32 (a.pref : Nat), .bool a.atomic, .int .u32 (a.aggAS : Nat), .int .u32 (a.aggId : Nat), vc, vx, vl, .bool a.hasOrig, .int .u32 (a.orig : Nat), vk]

structure SegsAt (g : Nat -> Option O) (v : V) (l : List Sg) (es : List (List V)) : Prop where
 sls : Sls g 2 v es
 len : es.length = l.length
 seg : ∀ (i : Nat) (s : Sg), l[i]? = some s -> ∃ w, es[i]? = some [.int .i64 s.kind, w] ∧ Sls g 1 w (s.ases.map cP)
structure AttAt (g : Nat -> Option O) (a : Att) (vp vc vx vl vk : V) : Prop where
 path : ∃ es, SegsAt g vp a.path es
 comms : Sls g 1 vc (a.comms.map cP)
 exts : Sls g 1 vx (a.exts.map cX)
 larges : Sls g 3 vl (a.larges.map cL)
 clus : Sls g 1 vk (a.clus.map cP)
theorem SegsAt.mono {g g' : Nat -> Option O} {v : V} {l : List Sg} {es : List (List V)} (s : SegsAt g v l es) (k : ∀ i o, g i = some o -> g' i = some o) : SegsAt g' v l es :=
 ⟨s.sls.mono k, s.len, fun i x hx => by obtain ⟨w, e, h⟩ := s.seg i x hx; exact ⟨w, e, h.mono k⟩⟩
theorem AttAt.mono {g g' : Nat -> Option O} {a : Att} {vp vc vx vl vk : V} (s : AttAt g a vp vc vx vl vk) (k : ∀ i o, g i = some o -> g' i = some o) : AttAt g' a vp vc vx vl vk :=
 ⟨by obtain ⟨es, h⟩ := s.path; exact ⟨es, h.mono k⟩, s.comms.mono k, s.exts.mono k, s.larges.mono k, s.clus.mono k⟩
theorem SegsAt.ge {a b : H} {v : V} {l : List Sg} {es : List (List V)} (s : SegsAt a.get v l es) (w : a.WF) (x : Ge a b) : SegsAt b.get v l es := s.mono (x.keeps w)
theorem AttAt.ge {h h' : H} {a : Att} {vp vc vx vl vk : V} (s : AttAt h.get a vp vc vx vl vk) (w : h.WF) (x : Ge h h') : AttAt h'.get a vp vc vx vl vk := s.mono (x.keeps w)
theorem SegsAt.atG {a : H} {v : V} {l : List Sg} {es : List (List V)} (s : SegsAt a.get v l es) (w : a.WF) {k : Nat} (hk : k < l.length) :
  ∃ p q o cs u, (∀ kd, zaA 2 v (.int kd (k : Int)) = some (.ptr p q o)) ∧ p < a.next ∧ (∀ b, Ge a b -> zab b.get p q = some cs) ∧ o + 2 ≤ cs.length ∧ (cs.drop o).take 2 = [.int .i64 l[k].kind, u] ∧ cs[o]? = some (.int .i64 l[k].kind) ∧ cs[o + 1]? = some u ∧ Sls a.get 1 u (l[k].ases.map cP) ∧ es[k]? = some [.int .i64 l[k].kind, u] := by
 have hk' : k < es.length := by rw [s.len]; exact hk
 obtain ⟨u, e1, e2⟩ := s.seg k l[k] (List.getElem?_eq_getElem hk)
 obtain ⟨p, q, o, cs, h1, h2, h3, h4, h5, h6⟩ := s.sls.atG w hk'
 rw [List.getElem?_eq_getElem hk', Option.some.injEq] at e1
 have i0 := h6 0 (by omega)
 have i1 := h6 1 (by omega)
 rw [e1] at h5
 simp only [e1] at i0 i1
 exact ⟨p, q, o, cs, u, h1, h2, h3, h4, h5, by simpa using i0, by simpa using i1, e2, by rw [List.getElem?_eq_getElem hk', e1]⟩

def segB (s : Sg) : Bool := decide (1 ≤ s.kind) && decide (s.kind ≤ 4) && decide (1 ≤ s.ases.length) && decide (s.ases.length ≤ 255) && !(decide (0 ∈ s.ases))
def zes (l : List Sg) : Bool := decide (l.length ≤ 16) && l.all segB
def risB {α : Type} (c : α -> α -> Int) (l : List α) : Bool := adjB c l && decide (l.length ≤ 64)
def attB (a : Att) : Bool :=
 decide (0 ≤ a.origin) && decide (a.origin ≤ 2) && zes a.path && (decide (a.next.length = 0) || decide (a.next.length = 4) || decide (a.next.length = 16)) && (a.hasMed || decide (a.med = 0)) && (a.hasPref || decide (a.pref = 0)) && (a.hasOrig || decide (a.orig = 0)) &&
 (!decide (a.aggAS = 0) || decide (a.aggId = 0)) && decide (a.clus.length ≤ 32) && risB oN a.comms && risB oN a.exts && risB oL a.larges

def Fc (h : H) (lo sz : Nat) (v : V) (es : List (List V)) : Prop := (es = [] ∧ (v = .nilsl ∨ ∃ k, lo ≤ k ∧ v = .sl k 0 0 0 (some 0))) ∨ (es ≠ [] ∧ Gl h lo sz v es)
theorem Fc.one {h : H} {lo sz : Nat} {v : V} {es : List (List V)} (f : Fc h lo sz v es) : v.one = true := by
 rcases f with ⟨_, rfl | ⟨_, _, rfl⟩⟩ | ⟨_, g⟩
 ·rfl
 ·rfl
 ·exact g.one
theorem Fc.sls {h : H} {lo sz : Nat} {v : V} {es : List (List V)} (f : Fc h lo sz v es) (hs : ∀ e ∈ es, e.length = sz) (hb : es.length < 9223372036854775808) : Sls h.get sz v es := by
 rcases f with ⟨rfl, rfl | ⟨_, _, rfl⟩⟩ | ⟨_, g⟩
 ·exact ⟨.inl ⟨rfl, .inl rfl⟩, by simp, rfl, by simp⟩
 ·exact ⟨.inr ⟨_, _, _, _, rfl⟩, by simp, by simp [zax], by simp⟩
 ·exact g.sls hs hb
theorem Gl.fr {h : H} {lo sz : Nat} {v : V} {es : List (List V)} (g : Gl h lo sz v es) : Fc h lo sz v es := by
 by_cases he : es = []
 ·rcases g with ⟨rfl, rfl⟩ | ⟨hne, _⟩
  ·exact .inl ⟨rfl, .inl rfl⟩
  ·exact absurd he hne
 ·exact .inr ⟨he, g⟩
theorem Fc.keep {h h' : H} {lo sz : Nat} {v : V} {es : List (List V)} (f : Fc h lo sz v es) (hn : h.next ≤ h'.next) (k : ∀ i ∈ v.ids, i < h.next -> h'.get i = h.get i) : Fc h' lo sz v es := by
 rcases f with h1 | ⟨hne, g⟩
 ·exact .inl h1
 ·exact .inr ⟨hne, g.keep hn fun i hi => k i hi (g.lo i hi).2⟩
theorem Fc.ge {h h' : H} {lo sz : Nat} {v : V} {es : List (List V)} (f : Fc h lo sz v es) (g : Ge h h') : Fc h' lo sz v es := f.keep g.1 fun i _ hi => g.2 i hi
theorem Fc.le {h : H} {lo lo' sz : Nat} {v : V} {es : List (List V)} (f : Fc h lo sz v es) (hl : lo' ≤ lo) : Fc h lo' sz v es := by
 rcases f with ⟨h1, h2 | ⟨k, h2, h3⟩⟩ | ⟨hne, h1 | ⟨h1, k, h2, h3, h4⟩⟩
 ·exact .inl ⟨h1, .inl h2⟩
 ·exact .inl ⟨h1, .inr ⟨k, by omega, h3⟩⟩
 ·exact .inr ⟨hne, .inl h1⟩
 ·exact .inr ⟨hne, .inr ⟨h1, k, by omega, h3, h4⟩⟩
theorem Fc.lo {h : H} {lo sz : Nat} {v : V} {es : List (List V)} (f : Fc h lo sz v es) : ∀ i ∈ v.ids, lo ≤ i := by
 rcases f with ⟨_, rfl | ⟨k, hk, rfl⟩⟩ | ⟨_, g⟩
 ·simp [V.ids]
 ·simp [V.ids]; exact hk
 ·exact fun i hi => (g.lo i hi).1
theorem Fc.cap {h : H} {lo sz : Nat} {v : V} {es : List (List V)} (f : Fc h lo sz v es) : zcV v := by
 rcases f with ⟨_, rfl | ⟨k, hk, rfl⟩⟩ | ⟨_, g⟩
 ·trivial
 ·simp [zcV]
 ·exact g.cap
theorem zfU {g : Nat -> Option O} {next sz bytes k m : Nat} {xs : List V} {x : V} (hx : zaB g sz x = some (m, xs)) (hm : m ≠ 0) (h1 : xs.all V.one = true) (hsz : sz ≠ 0) (hb : m * bytes ≤ 140737488355328) (hb2 : m ≤ 9223372036854775807) :
  zaG g next sz bytes (.sl k 0 0 0 (some 0)) x = some (.sl next (m * sz) 0 m none, .push (.grow sz xs)) := by
 have e0 : zaB g sz (.sl k 0 0 0 (some 0)) = some (0, []) := by rw [zax, if_pos rfl]
 unfold zaG
 rw [hx]
 simp only
 rw [if_neg hm, if_neg (by simp [h1, hsz])]
 simp only [Nat.zero_add]
 rw [if_neg (by omega), e0]
 simp only [List.nil_append]
 rw [if_pos ⟨hb, hb2⟩]
theorem zfT {g : Nat -> Option O} {next sz bytes k : Nat} {x : V} (hx : zaB g sz x = some (0, [])) : zaG g next sz bytes (.sl k 0 0 0 (some 0)) x = some (.sl k 0 0 0 (some 0), .keep) := by
 unfold zaG
 rw [hx]
 simp
theorem neI (x y : Int) : (x != y) = !decide (x = y) := by by_cases h : x = y <;> simp [h]
theorem eqI (x y : Int) : (x == y) = decide (x = y) := by by_cases h : x = y <;> simp [h]
theorem zb5 {α : Type} {l m : List α} {i : Nat} (h1 : i < l.length) (h2 : i < m.length) (h : l.take i = m.take i) (e : l[i] = m[i]) : l.take (i + 1) = m.take (i + 1) := by
 rw [List.take_add_one, List.take_add_one, h, List.getElem?_eq_getElem h1, List.getElem?_eq_getElem h2, e]
theorem zeI {α : Type} {l m : List α} {i : Nat} (h1 : i < l.length) (h2 : i < m.length) (e : l[i] ≠ m[i]) : l ≠ m := fun h => e (by subst h; rfl)
theorem zc8 {α : Type} {l m : List α} {i : Nat} (hl : l.length = i) (hm : m.length = i) (h : l.take i = m.take i) : l = m := by
 rwa [List.take_of_length_le (by omega), List.take_of_length_le (by omega)] at h
theorem zdg (l : List Nat) : ∀ e ∈ l.map cP, e.length = 1 := fun e he => by obtain ⟨n, _, rfl⟩ := List.mem_map.1 he; rfl
theorem zhW (l : List Nat) : ∀ e ∈ l.map cX, e.length = 1 := fun e he => by obtain ⟨n, _, rfl⟩ := List.mem_map.1 he; rfl
theorem zim (l : List Lg) : ∀ e ∈ l.map cL, e.length = 3 := fun e he => by obtain ⟨n, _, rfl⟩ := List.mem_map.1 he; rfl
theorem zf0 (l : List Nat) : ∀ e ∈ l.map cP, e.all V.one = true := fun e he => by obtain ⟨n, _, rfl⟩ := List.mem_map.1 he; rfl
theorem zlB (l : List Nat) : ∀ e ∈ l.map cX, e.all V.one = true := fun e he => by obtain ⟨n, _, rfl⟩ := List.mem_map.1 he; rfl
theorem zlq (l : List Lg) : ∀ e ∈ l.map cL, e.all V.one = true := fun e he => by obtain ⟨n, _, rfl⟩ := List.mem_map.1 he; rfl
end Go.Am

namespace Go.Am
open Go.Proofs

set_option maxRecDepth 100000

theorem zlH {h : H} {v : V} {es : List (List V)} (hs : Sls h.get 2 v es) (ho : ∀ e ∈ es, e.all V.one = true) (hl : es.length * 32 ≤ 140737488355328) {Q : V -> H -> Prop}
  (q : ∀ v' h', Ge h h' -> h'.WF -> Fc h' h.next 2 v' es -> Q v' h') : Acalls Tryz.prog 120 [v] h Q := by
 refine zaw Tryz.func120 S.a54c S.a54e (Nat.le_of_ble_eq_true rfl) fun wf => ?_; simp only [S.a54]
 obtain ⟨h1, hh1⟩ : ∃ h1, h1 = h.push (.row []) := ⟨_, rfl⟩
 have g1 : Ge h h1 := by rw [hh1]; exact (Ge.refl _).push _
 have w1 : h1.WF := by rw [hh1]; exact wf.push _
 have n1 : h1.next = h.next + 1 := by rw [hh1]; simp
 have s1 := (hs.ge wf g1).read
 by_cases hv : v = .nilsl
 ·subst hv
  have hl0 : es = [] := by
   rcases hs.kind with ⟨e, _⟩ | ⟨_, _, _, _, e⟩
   ·exact e
   ·cases e
  have en : eqV .sl .nilsl .nilsl = some true := rfl
  simp [en]
  exact q _ _ (Ge.refl _) wf (.inl ⟨hl0, .inl rfl⟩)
 ·have en : eqV .sl v .nilsl = some false := by
   rcases hs.kind with ⟨_, rfl | rfl⟩ | ⟨_, _, _, _, rfl⟩
   ·exact absurd rfl hv
   ·rfl
   ·rfl
  simp [en]
  rw [<- hh1]
  by_cases h0 : es.length = 0
  ·have hl0 : es = [] := List.eq_nil_of_length_eq_zero h0
   subst hl0
   have a0 := zfT (next := h1.next) (bytes := 32) (k := h.next) s1
   rw [n1] at a0
   simp [n1, a0]
   exact q _ _ g1 w1 (.inl ⟨rfl, .inr ⟨_, Nat.le_refl _, rfl⟩⟩)
  ·have hne : es ≠ [] := fun e => h0 (by rw [e]; rfl)
   have ones : es.flatten.all V.one = true := by rw [List.all_flatten]; exact List.all_eq_true.2 ho
   have a0 := zfU (next := h1.next) (bytes := 32) (k := h.next) s1 h0 ones (by decide) (by omega) (by omega)
   rw [n1] at a0
   simp [n1, a0]
   have hfl := zaF hs.size
   refine q _ _ (g1.push _) (w1.push _) (.inr ⟨hne, .inr ⟨hne, h1.next, by omega, by simp, ?_, by simp⟩⟩)
   rw [hfl, n1]

theorem zhE {h : H} (wf : h.WF) {v : V} {es : List (List V)} (hs : Sls h.get 1 v es) (ho : ∀ e ∈ es, e.all V.one = true) (hl : es.length * 4 ≤ 140737488355328) :
  ∃ v' h', (∀ Q : V -> H -> Prop, Q v' h' -> Acalls Tryz.prog 121 [v] h Q) ∧ Ge h h' ∧ h'.WF ∧ Fc h' h.next 1 v' es := by
 have g1 : Ge h (h.push (.row [])) := (Ge.refl _).push _
 have s1 := (hs.ge wf g1).read
 by_cases hv : v = .nilsl
 ·subst hv
  have hl0 : es = [] := by
   rcases hs.kind with ⟨e, _⟩ | ⟨_, _, _, _, e⟩
   ·exact e
   ·cases e
  refine ⟨.nilsl, h, fun Q hq => ?_, Ge.refl _, wf, .inl ⟨hl0, .inl rfl⟩⟩
  clear wf
  refine zaw Tryz.func121 S.a55c S.a55e (Nat.le_of_ble_eq_true rfl) fun wf => ?_; simp only [S.a55]
  have en : eqV .sl .nilsl .nilsl = some true := rfl
  simp [en]
  exact hq
 ·have en : eqV .sl v .nilsl = some false := by
   rcases hs.kind with ⟨_, rfl | rfl⟩ | ⟨_, _, _, _, rfl⟩
   ·exact absurd rfl hv
   ·rfl
   ·rfl
  by_cases h0 : es.length = 0
  ·have hl0 : es = [] := List.eq_nil_of_length_eq_zero h0
   subst hl0
   refine ⟨.sl h.next 0 0 0 (some 0), h.push (.row []), fun Q hq => ?_, g1, wf.push _, .inl ⟨rfl, .inr ⟨_, Nat.le_refl _, rfl⟩⟩⟩
   clear wf
   refine zaw Tryz.func121 S.a55c S.a55e (Nat.le_of_ble_eq_true rfl) fun wf => ?_; simp only [S.a55]
   have a0 := zfT (next := h.next + 1) (bytes := 4) (k := h.next) s1
   simp [en]
   simp [a0]
   exact hq
  ·have hne : es ≠ [] := fun e => h0 (by rw [e]; rfl)
   have ones : es.flatten.all V.one = true := by rw [List.all_flatten]; exact List.all_eq_true.2 ho
   have hfl := zaF hs.size
   refine ⟨.sl (h.next + 1) (es.length * 1) 0 es.length none, (h.push (.row [])).push (.grow 1 es.flatten), fun Q hq => ?_, g1.push _, (wf.push _).push _, .inr ⟨hne, .inr ⟨hne, h.next + 1, by omega, by simp, by rw [hfl], by simp⟩⟩⟩
   clear wf
   refine zaw Tryz.func121 S.a55c S.a55e (Nat.le_of_ble_eq_true rfl) fun wf => ?_; simp only [S.a55]
   have a0 := zfU (next := h.next + 1) (bytes := 4) (k := h.next) s1 h0 ones (by decide) (by omega) (by omega)
   simp [en]
   simp [a0]
   simpa using hq

theorem znU {h : H} (wf : h.WF) {v : V} {es : List (List V)} (hs : Sls h.get 1 v es) (ho : ∀ e ∈ es, e.all V.one = true) (hl : es.length * 8 ≤ 140737488355328) :
  ∃ v' h', (∀ Q : V -> H -> Prop, Q v' h' -> Acalls Tryz.prog 122 [v] h Q) ∧ Ge h h' ∧ h'.WF ∧ Fc h' h.next 1 v' es := by
 have g1 : Ge h (h.push (.row [])) := (Ge.refl _).push _
 have s1 := (hs.ge wf g1).read
 by_cases hv : v = .nilsl
 ·subst hv
  have hl0 : es = [] := by
   rcases hs.kind with ⟨e, _⟩ | ⟨_, _, _, _, e⟩
   ·exact e
   ·cases e
  refine ⟨.nilsl, h, fun Q hq => ?_, Ge.refl _, wf, .inl ⟨hl0, .inl rfl⟩⟩
  clear wf
  refine zaw Tryz.func122 S.a56c S.a56e (Nat.le_of_ble_eq_true rfl) fun wf => ?_; simp only [S.a56]
  have en : eqV .sl .nilsl .nilsl = some true := rfl
  simp [en]
  exact hq
 ·have en : eqV .sl v .nilsl = some false := by
   rcases hs.kind with ⟨_, rfl | rfl⟩ | ⟨_, _, _, _, rfl⟩
   ·exact absurd rfl hv
   ·rfl
   ·rfl
  by_cases h0 : es.length = 0
  ·have hl0 : es = [] := List.eq_nil_of_length_eq_zero h0
   subst hl0
   refine ⟨.sl h.next 0 0 0 (some 0), h.push (.row []), fun Q hq => ?_, g1, wf.push _, .inl ⟨rfl, .inr ⟨_, Nat.le_refl _, rfl⟩⟩⟩
   clear wf
   refine zaw Tryz.func122 S.a56c S.a56e (Nat.le_of_ble_eq_true rfl) fun wf => ?_; simp only [S.a56]
   have a0 := zfT (next := h.next + 1) (bytes := 8) (k := h.next) s1
   simp [en]
   simp [a0]
   exact hq
  ·have hne : es ≠ [] := fun e => h0 (by rw [e]; rfl)
   have ones : es.flatten.all V.one = true := by rw [List.all_flatten]; exact List.all_eq_true.2 ho
   have hfl := zaF hs.size
   refine ⟨.sl (h.next + 1) (es.length * 1) 0 es.length none, (h.push (.row [])).push (.grow 1 es.flatten), fun Q hq => ?_, g1.push _, (wf.push _).push _, .inr ⟨hne, .inr ⟨hne, h.next + 1, by omega, by simp, by rw [hfl], by simp⟩⟩⟩
   clear wf
   refine zaw Tryz.func122 S.a56c S.a56e (Nat.le_of_ble_eq_true rfl) fun wf => ?_; simp only [S.a56]
   have a0 := zfU (next := h.next + 1) (bytes := 8) (k := h.next) s1 h0 ones (by decide) (by omega) (by omega)
   simp [en]
   simp [a0]
   simpa using hq

theorem znl {h : H} (wf : h.WF) {v : V} {es : List (List V)} (hs : Sls h.get 3 v es) (ho : ∀ e ∈ es, e.all V.one = true) (hl : es.length * 12 ≤ 140737488355328) :
  ∃ v' h', (∀ Q : V -> H -> Prop, Q v' h' -> Acalls Tryz.prog 123 [v] h Q) ∧ Ge h h' ∧ h'.WF ∧ Fc h' h.next 3 v' es := by
 have g1 : Ge h (h.push (.row [])) := (Ge.refl _).push _
 have s1 := (hs.ge wf g1).read
 by_cases hv : v = .nilsl
 ·subst hv
  have hl0 : es = [] := by
   rcases hs.kind with ⟨e, _⟩ | ⟨_, _, _, _, e⟩
   ·exact e
   ·cases e
  refine ⟨.nilsl, h, fun Q hq => ?_, Ge.refl _, wf, .inl ⟨hl0, .inl rfl⟩⟩
  clear wf
  refine zaw Tryz.func123 S.a57c S.a57e (Nat.le_of_ble_eq_true rfl) fun wf => ?_; simp only [S.a57]
  have en : eqV .sl .nilsl .nilsl = some true := rfl
  simp [en]
  exact hq
 ·have en : eqV .sl v .nilsl = some false := by
   rcases hs.kind with ⟨_, rfl | rfl⟩ | ⟨_, _, _, _, rfl⟩
   ·exact absurd rfl hv
   ·rfl
   ·rfl
  by_cases h0 : es.length = 0
  ·have hl0 : es = [] := List.eq_nil_of_length_eq_zero h0
   subst hl0
   refine ⟨.sl h.next 0 0 0 (some 0), h.push (.row []), fun Q hq => ?_, g1, wf.push _, .inl ⟨rfl, .inr ⟨_, Nat.le_refl _, rfl⟩⟩⟩
   clear wf
   refine zaw Tryz.func123 S.a57c S.a57e (Nat.le_of_ble_eq_true rfl) fun wf => ?_; simp only [S.a57]
   have a0 := zfT (next := h.next + 1) (bytes := 12) (k := h.next) s1
   simp [en]
   simp [a0]
   exact hq
  ·have hne : es ≠ [] := fun e => h0 (by rw [e]; rfl)
   have ones : es.flatten.all V.one = true := by rw [List.all_flatten]; exact List.all_eq_true.2 ho
   have hfl := zaF hs.size
   refine ⟨.sl (h.next + 1) (es.length * 3) 0 es.length none, (h.push (.row [])).push (.grow 3 es.flatten), fun Q hq => ?_, g1.push _, (wf.push _).push _, .inr ⟨hne, .inr ⟨hne, h.next + 1, by omega, by simp, by rw [hfl], by simp⟩⟩⟩
   clear wf
   refine zaw Tryz.func123 S.a57c S.a57e (Nat.le_of_ble_eq_true rfl) fun wf => ?_; simp only [S.a57]
   have a0 := zfU (next := h.next + 1) (bytes := 12) (k := h.next) s1 h0 ones (by decide) (by omega) (by omega)
   simp [en]
   simp [a0]
   simpa using hq

theorem zhq {h : H} {v w : V} {l m : List Nat} (hv : Sls h.get 1 v (l.map cP)) (hw : Sls h.get 1 w (m.map cP)) : Pure Tryz.prog 60 [v, w] h (.bool (decide (l = m))) := by
 refine zah Tryz.func60 S.a28c S.a28e rfl (Nat.le_of_ble_eq_true rfl) fun wf => ?_; simp only [S.a28]
 have hl := hv.len
 have hm := hw.len
 have hb := hv.bound
 simp at hl hm hb
 by_cases hlen : l.length = m.length
 ·simp [hl, hm, hlen]
  refine zaz (fun i t h' => (t 0 = v ∧ t 1 = w ∧ t 11 = v ∧ t 12 = .int .i64 (m.length : Nat) ∧ t 13 = .int .i64 (i : Nat)) ∧ h' = h ∧ l.take i = m.take i) m.length ⟨by simp, rfl, by simp⟩ ?_
  rintro i t h' hi ⟨⟨t0, t1, t11, t12, t13⟩, rfl, ht⟩ K hK
  by_cases hlt : i < m.length
  ·have hlt' : i < l.length := by omega
   obtain ⟨p, qq, o, cs, e1, e2, e3⟩ := hv.at1 (f := fun x : Nat => V.int .u32 x) hlt'
   obtain ⟨p', qq', o', cs', e1', e2', e3'⟩ := hw.at1 (f := fun x : Nat => V.int .u32 x) hlt
   have hwr := zaJ hlt (by omega)
   by_cases hx : l[i] = m[i]
   ·have b1 : ((l[i] : Int) != (m[i] : Int)) = false := by rw [neI]; simp [hx]
    simp [t12, t13, hlt]
    refine zbM ?_
    simp [t0, t1, t13, e1, e2, e3, e1', e2', e3', b1, hwr]
    exact hK _ _ hlt ⟨by simp [t0, t1, t11, t12], rfl, zb5 hlt' hlt ht hx⟩
   ·have b1 : ((l[i] : Int) != (m[i] : Int)) = true := by rw [neI]; simp; omega
    simp [t12, t13, hlt]
    refine zbM ?_
    simp [t0, t1, e1, e2, e3, e1', e2', e3', b1, zeI hlt' hlt hx]
  ·have hi2 : i = m.length := by omega
   subst hi2
   simp [t12, t13, zc8 hlen rfl ht]
 ·have : l ≠ m := fun e => hlen (by rw [e])
  have hlen' : ¬ (l.length : Int) = (m.length : Int) := by omega
  simp [hl, hm, neI, hlen', this]

theorem znv {h : H} {v w : V} {l m : List Nat} (hv : Sls h.get 1 v (l.map cX)) (hw : Sls h.get 1 w (m.map cX)) : Pure Tryz.prog 61 [v, w] h (.bool (decide (l = m))) := by
 refine zah Tryz.func61 S.a29c S.a29e rfl (Nat.le_of_ble_eq_true rfl) fun wf => ?_; simp only [S.a29]
 have hl := hv.len
 have hm := hw.len
 have hb := hv.bound
 simp at hl hm hb
 by_cases hlen : l.length = m.length
 ·simp [hl, hm, hlen]
  refine zaz (fun i t h' => (t 0 = v ∧ t 1 = w ∧ t 11 = v ∧ t 12 = .int .i64 (m.length : Nat) ∧ t 13 = .int .i64 (i : Nat)) ∧ h' = h ∧ l.take i = m.take i) m.length ⟨by simp, rfl, by simp⟩ ?_
  rintro i t h' hi ⟨⟨t0, t1, t11, t12, t13⟩, rfl, ht⟩ K hK
  by_cases hlt : i < m.length
  ·have hlt' : i < l.length := by omega
   obtain ⟨p, qq, o, cs, e1, e2, e3⟩ := hv.at1 (f := fun x : Nat => V.int .u64 x) hlt'
   obtain ⟨p', qq', o', cs', e1', e2', e3'⟩ := hw.at1 (f := fun x : Nat => V.int .u64 x) hlt
   have hwr := zaJ hlt (by omega)
   by_cases hx : l[i] = m[i]
   ·have b1 : ((l[i] : Int) != (m[i] : Int)) = false := by rw [neI]; simp [hx]
    simp [t12, t13, hlt]
    refine zbM ?_
    simp [t0, t1, t13, e1, e2, e3, e1', e2', e3', b1, hwr]
    exact hK _ _ hlt ⟨by simp [t0, t1, t11, t12], rfl, zb5 hlt' hlt ht hx⟩
   ·have b1 : ((l[i] : Int) != (m[i] : Int)) = true := by rw [neI]; simp; omega
    simp [t12, t13, hlt]
    refine zbM ?_
    simp [t0, t1, e1, e2, e3, e1', e2', e3', b1, zeI hlt' hlt hx]
  ·have hi2 : i = m.length := by omega
   subst hi2
   simp [t12, t13, zc8 hlen rfl ht]
 ·have : l ≠ m := fun e => hlen (by rw [e])
  have hlen' : ¬ (l.length : Int) = (m.length : Int) := by omega
  simp [hl, hm, neI, hlen', this]
end Go.Am

namespace Go.Am
open Go.Proofs

set_option maxRecDepth 100000
theorem zd8 {off sz : Nat} {agg : Bool} {ts : TS} {fs : List (Nat × Nat × Bool × TS)} {xs ys : List V} {x y : V} {b : Bool} (hx : zb0 agg off sz xs = some x) (hy : zb0 agg off sz ys = some y) (hb : eqV ts x y = some b) :
  eqFs ((off, sz, agg, ts) :: fs) xs ys = if b = true then eqFs fs xs ys else some false := by
 simp only [eqFs, hx, hy, hb]
 cases b <;> rfl
theorem zgc (k : IntKind) (a b : Nat) : eqV .int (.int k (a : Int)) (.int k (b : Int)) = some (decide (a = b)) := by
 have : ((a : Int) == (b : Int)) = decide (a = b) := by
  rw [eqI]
  by_cases h : a = b
  ·simp [h]
  ·have : ¬ (a : Int) = b := by omega
   simp [h, this]
 simp [eqV, this]
theorem zpT (a b : Lg) : eqV (TS.st [(0, 1, false, TS.int), (1, 1, false, TS.int), (2, 1, false, TS.int)]) (.agg (cL a)) (.agg (cL b)) = some (decide (a = b)) := by
 show eqFs _ _ _ = _
 rw [zd8 (x := .int .u32 a.1) (y := .int .u32 b.1) rfl rfl (zgc _ _ _), zd8 rfl rfl (zgc _ _ _), zd8 rfl rfl (zgc _ _ _), show eqFs [] (cL a) (cL b) = some true from rfl]
 obtain ⟨a1, a2, a3⟩ := a
 obtain ⟨b1, b2, b3⟩ := b
 by_cases h1 : a1 = b1 <;> by_cases h2 : a2 = b2 <;> by_cases h3 : a3 = b3 <;> simp [h1, h2, h3]
theorem zne {h : H} {v w : V} {l m : List Lg} (hv : Sls h.get 3 v (l.map cL)) (hw : Sls h.get 3 w (m.map cL)) : Pure Tryz.prog 62 [v, w] h (.bool (decide (l = m))) := by
 refine zah Tryz.func62 S.a30c S.a30e rfl (Nat.le_of_ble_eq_true rfl) fun wf => ?_; simp only [S.a30]
 have hl := hv.len
 have hm := hw.len
 have hb := hv.bound
 simp at hl hm hb
 by_cases hlen : l.length = m.length
 ·simp [hl, hm, hlen]
  refine zaz (fun i t h' => (t 0 = v ∧ t 1 = w ∧ t 11 = v ∧ t 12 = .int .i64 (m.length : Nat) ∧ t 13 = .int .i64 (i : Nat)) ∧ h' = h ∧ l.take i = m.take i) m.length ⟨by simp, rfl, by simp⟩ ?_
  rintro i t h' hi ⟨⟨t0, t1, t11, t12, t13⟩, rfl, ht⟩ K hK
  by_cases hlt : i < m.length
  ·have hlt' : i < l.length := by omega
   obtain ⟨p, qq, o, cs, e1, e2, l3, e3, _⟩ := hv.at (k := i) (by simpa using hlt')
   obtain ⟨p', qq', o', cs', e1', e2', l3', e3', _⟩ := hw.at (k := i) (by simpa using hlt)
   have hwr := zaJ hlt (by omega)
   have q1 := zpT l[i] m[i]
   simp only [List.getElem_map] at e3 e3'
   simp [t12, t13, hlt]
   refine zbM ?_
   simp [t0, t1, e1, e2, e3, l3, e1', e2', e3', l3', q1]
   by_cases hx : l[i] = m[i]
   ·simp [hx, hwr, t13]
    exact hK _ _ hlt ⟨by simp [t0, t1, t11, t12], rfl, zb5 hlt' hlt ht hx⟩
   ·simp [hx, zeI hlt' hlt hx]
  ·have hi2 : i = m.length := by omega
   subst hi2
   simp [t12, t13, zc8 hlen rfl ht]
 ·have : l ≠ m := fun e => hlen (by rw [e])
  have hlen' : ¬ (l.length : Int) = (m.length : Int) := by omega
  simp [hl, hm, neI, hlen', this]
theorem zme {h : H} {x y : Lg} : Pure Tryz.prog 92 [.agg (cL x), .agg (cL y)] h (.int .i64 (oL x y)) := by
 refine zah Tryz.func92 S.a42c S.a42e rfl (Nat.le_of_ble_eq_true rfl) fun wf => ?_; simp only [S.a42]
 obtain ⟨h2, hh2⟩ : ∃ h2, h2 = (h.push (.row (cL x))).push (.row (cL y)) := ⟨_, rfl⟩
 have g2 : Ge h h2 := by rw [hh2]; exact ((Ge.refl _).push _).push _
 have c1 : zab h2.get h.next 3 = some (cL x) := by rw [hh2]; simp [cL]
 have c2 : zab h2.get (h.next + 1) 3 = some (cL y) := by rw [hh2]; simp [cL]
 simp only [cL] at hh2 c1 c2
 simp [cL]
 rw [<- hh2]
 have r3 : zaq 3 [V.int .i64 0] = [.int .i64 0, .int .i64 0, .int .i64 0] := rfl
 refine zft _ zjz (by rfl) ?_
 simp [List.lookup, c1, c2, r3, zeL]
 refine zew (zqw (q := h2.next) (a := cmpI x.1 y.1) (b := cmpI x.2.1 y.2.1) (c := cmpI x.2.2 y.2.2) (by simp)) ?_
 simp [oL]
 exact g2.push _

theorem zoi {h : H} {v : V} {l : List Nat} (hs : Sls h.get 1 v (l.map cP)) : Pure Tryz.prog 89 [v, .func (.func 81) [] []] h (.bool (risB oN l)) := by
 refine zah Tryz.func89 S.a39c S.a39e rfl (Nat.le_of_ble_eq_true rfl) fun wf => ?_; simp only [S.a39]
 have hl := hs.len
 have hb := hs.bound
 simp at hl hb
 simp
 refine zaz (fun i t h' => (t 0 = v ∧ t 1 = .func (.func 81) [] [] ∧ t 5 = .int .i64 ((i : Int) + 1)) ∧ h' = h ∧ adjB oN (l.take (i + 1)) = true) l.length ⟨by simp, rfl, by cases l <;> simp [adjB]⟩ ?_
 rintro i t h' hi ⟨⟨t0, t1, t5⟩, rfl, ha⟩ K hK
 by_cases hlt : i + 1 < l.length
 ·have hlti : (i : Int) + 1 < (l.length : Int) := by omega
  obtain ⟨p, qq, o, cs, e1, e2, e3⟩ := hs.at1 (f := fun x : Nat => V.int .u32 x) hlt
  obtain ⟨p', qq', o', cs', e1', e2', e3'⟩ := hs.at1 (f := fun x : Nat => V.int .u32 x) (show i < l.length by omega)
  have wm : IntKind.i64.wrap ((i : Int) + 1 - 1) = (i : Int) := by rw [show (i : Int) + 1 - 1 = i by omega, zaf (by omega) (by omega)]
  have wp : IntKind.i64.wrap ((i : Int) + 1 + 1) = (i : Int) + 1 + 1 := by rw [zaf (by omega) (by omega)]
  obtain ⟨k, hk⟩ : ∃ k : Int, k = (i : Int) + 1 := ⟨_, rfl⟩
  have e1k := e1 .i64
  rw [show ((i + 1 : Nat) : Int) = k by omega] at e1k
  rw [<- hk] at t5 wm wp hlti
  simp [t0, t5, hl, hlti]
  refine zdf wf ?_
  simp [t0, t1, t5, e1k, e2, e3, e1', e2', e3', wm]
  obtain ⟨z, hz⟩ : ∃ z, z = oN l[i] l[i + 1] := ⟨_, rfl⟩
  refine zdc (v := .int .i64 z) rfl (fun h2 _ => by rw [hz]; exact zgg) ?_
  by_cases hc : z < 0
  ·have hc' : decide (0 ≤ z) = false := by rw [decide_eq_false_iff_not]; omega
   simp [t5, wp, hc']
   exact hK _ _ (by omega) ⟨by simp [t0, t1, hk], rfl, ze8 ha hlt (fun _ => by rw [hz] at hc; simpa using hc)⟩
  ·have hc' : decide (0 ≤ z) = true := by rw [decide_eq_true_eq]; omega
   have hf := zd0 (i := i + 1) (by omega) hlt (by rw [hz] at hc; simpa using hc)
   simp [hc', risB, hf]
 ·have hlti : ¬ (i : Int) + 1 < (l.length : Int) := by omega
  rw [List.take_of_length_le (by omega)] at ha
  obtain ⟨k, hk⟩ : ∃ k : Int, k = (i : Int) + 1 := ⟨_, rfl⟩
  rw [<- hk] at t5 hlti
  simp [t0, t5, hl, hlti, risB, ha]
  omega

theorem znh {h : H} {v : V} {l : List Nat} (hs : Sls h.get 1 v (l.map cX)) : Pure Tryz.prog 90 [v, .func (.func 55) [] []] h (.bool (risB oN l)) := by
 refine zah Tryz.func90 S.a40c S.a40e rfl (Nat.le_of_ble_eq_true rfl) fun wf => ?_; simp only [S.a40]
 have hl := hs.len
 have hb := hs.bound
 simp at hl hb
 simp
 refine zaz (fun i t h' => (t 0 = v ∧ t 1 = .func (.func 55) [] [] ∧ t 5 = .int .i64 ((i : Int) + 1)) ∧ h' = h ∧ adjB oN (l.take (i + 1)) = true) l.length ⟨by simp, rfl, by cases l <;> simp [adjB]⟩ ?_
 rintro i t h' hi ⟨⟨t0, t1, t5⟩, rfl, ha⟩ K hK
 by_cases hlt : i + 1 < l.length
 ·have hlti : (i : Int) + 1 < (l.length : Int) := by omega
  obtain ⟨p, qq, o, cs, e1, e2, e3⟩ := hs.at1 (f := fun x : Nat => V.int .u64 x) hlt
  obtain ⟨p', qq', o', cs', e1', e2', e3'⟩ := hs.at1 (f := fun x : Nat => V.int .u64 x) (show i < l.length by omega)
  have wm : IntKind.i64.wrap ((i : Int) + 1 - 1) = (i : Int) := by rw [show (i : Int) + 1 - 1 = i by omega, zaf (by omega) (by omega)]
  have wp : IntKind.i64.wrap ((i : Int) + 1 + 1) = (i : Int) + 1 + 1 := by rw [zaf (by omega) (by omega)]
  obtain ⟨k, hk⟩ : ∃ k : Int, k = (i : Int) + 1 := ⟨_, rfl⟩
  have e1k := e1 .i64
  rw [show ((i + 1 : Nat) : Int) = k by omega] at e1k
  rw [<- hk] at t5 wm wp hlti
  simp [t0, t5, hl, hlti]
  refine zdf wf ?_
  simp [t0, t1, t5, e1k, e2, e3, e1', e2', e3', wm]
  obtain ⟨z, hz⟩ : ∃ z, z = oN l[i] l[i + 1] := ⟨_, rfl⟩
  refine zdc (v := .int .i64 z) rfl (fun h2 _ => by rw [hz]; exact zia) ?_
  by_cases hc : z < 0
  ·have hc' : decide (0 ≤ z) = false := by rw [decide_eq_false_iff_not]; omega
   simp [t5, wp, hc']
   exact hK _ _ (by omega) ⟨by simp [t0, t1, hk], rfl, ze8 ha hlt (fun _ => by rw [hz] at hc; simpa using hc)⟩
  ·have hc' : decide (0 ≤ z) = true := by rw [decide_eq_true_eq]; omega
   have hf := zd0 (i := i + 1) (by omega) hlt (by rw [hz] at hc; simpa using hc)
   simp [hc', risB, hf]
 ·have hlti : ¬ (i : Int) + 1 < (l.length : Int) := by omega
  rw [List.take_of_length_le (by omega)] at ha
  obtain ⟨k, hk⟩ : ∃ k : Int, k = (i : Int) + 1 := ⟨_, rfl⟩
  rw [<- hk] at t5 hlti
  simp [t0, t5, hl, hlti, risB, ha]
  omega

theorem znz {h : H} {v : V} {l : List Lg} (hs : Sls h.get 3 v (l.map cL)) : Pure Tryz.prog 91 [v, .func (.func 92) [] []] h (.bool (risB oL l)) := by
 refine zah Tryz.func91 S.a41c S.a41e rfl (Nat.le_of_ble_eq_true rfl) fun wf => ?_; simp only [S.a41]
 have hl := hs.len
 have hb := hs.bound
 simp at hl hb
 simp
 refine zaz (fun i t h' => (t 0 = v ∧ t 1 = .func (.func 92) [] [] ∧ t 5 = .int .i64 ((i : Int) + 1)) ∧ h' = h ∧ adjB oL (l.take (i + 1)) = true) l.length ⟨by simp, rfl, by cases l <;> simp [adjB]⟩ ?_
 rintro i t h' hi ⟨⟨t0, t1, t5⟩, rfl, ha⟩ K hK
 by_cases hlt : i + 1 < l.length
 ·have hlti : (i : Int) + 1 < (l.length : Int) := by omega
  obtain ⟨p, qq, o, cs, e1, e2, l3, e3, _⟩ := hs.at (k := i + 1) (by simpa using hlt)
  obtain ⟨p', qq', o', cs', e1', e2', l3', e3', _⟩ := hs.at (k := i) (by simp; omega)
  simp only [List.getElem_map] at e3 e3'
  have wm : IntKind.i64.wrap ((i : Int) + 1 - 1) = (i : Int) := by rw [show (i : Int) + 1 - 1 = i by omega, zaf (by omega) (by omega)]
  have wp : IntKind.i64.wrap ((i : Int) + 1 + 1) = (i : Int) + 1 + 1 := by rw [zaf (by omega) (by omega)]
  obtain ⟨k, hk⟩ : ∃ k : Int, k = (i : Int) + 1 := ⟨_, rfl⟩
  have e1k := e1 .i64
  rw [show ((i + 1 : Nat) : Int) = k by omega] at e1k
  rw [<- hk] at t5 wm wp hlti
  simp [t0, t5, hl, hlti]
  refine zdf wf ?_
  simp [t0, t1, t5, e1k, e2, e3, e1', e2', e3', wm, l3, l3']
  obtain ⟨z, hz⟩ : ∃ z, z = oL l[i] l[i + 1] := ⟨_, rfl⟩
  refine zdc (v := .int .i64 z) rfl (fun h2 _ => by rw [hz]; exact zme) ?_
  by_cases hc : z < 0
  ·have hc' : decide (0 ≤ z) = false := by rw [decide_eq_false_iff_not]; omega
   simp [t5, wp, hc']
   exact hK _ _ (by omega) ⟨by simp [t0, t1, hk], rfl, ze8 ha hlt (fun _ => by rw [hz] at hc; simpa using hc)⟩
  ·have hc' : decide (0 ≤ z) = true := by rw [decide_eq_true_eq]; omega
   have hf := zd0 (i := i + 1) (by omega) hlt (by rw [hz] at hc; simpa using hc)
   simp [hc', risB, hf]
 ·have hlti : ¬ (i : Int) + 1 < (l.length : Int) := by omega
  rw [List.take_of_length_le (by omega)] at ha
  obtain ⟨k, hk⟩ : ∃ k : Int, k = (i : Int) + 1 := ⟨_, rfl⟩
  rw [<- hk] at t5 hlti
  simp [t0, t5, hl, hlti, risB, ha]
  omega
end Go.Am

namespace Go.Am
open Go.Proofs

set_option maxRecDepth 100000
theorem znm {h : H} {v : V} {l : List Nat} {c : Nat} (hs : Sls h.get 1 v (l.map cP)) {Q : V -> H -> Prop} (q : ∀ k : Int, decide (0 ≤ k) = decide (c ∈ l) -> Q (.int .i64 k) h) : Acalls Tryz.prog 150 [v, .int .u32 (c : Nat)] h Q := by
 refine zaw Tryz.func150 S.a60c S.a60e (Nat.le_of_ble_eq_true rfl) fun wf => ?_; simp only [S.a60]
 have hlen := hs.len
 have hb := hs.bound
 simp at hlen hb
 simp [hlen]
 refine zaz (fun i t h' => (t 0 = v ∧ t 1 = .int .u32 (c : Nat) ∧ t 6 = v ∧ t 7 = .int .i64 (l.length : Nat) ∧ t 8 = .int .i64 (i : Nat)) ∧ h' = h ∧ c ∉ l.take i) l.length ⟨by simp, rfl, by simp⟩ ?_
 rintro i t h' hi ⟨⟨t0, t1, t6, t7, t8⟩, rfl, hn⟩ K hK
 by_cases hlt : i < l.length
 ·obtain ⟨p, qq, o, cs, e1, e2, e3⟩ := hs.at1 (f := fun x : Nat => V.int .u32 x) hlt
  have hw := zaJ hlt hb
  by_cases hx : c = l[i]
  ·have b1 : ((c : Int) == (l[i] : Int)) = true := beq_iff_eq.2 (by omega)
   have hm : c ∈ l := by rw [hx]; exact List.getElem_mem hlt
   simp [t0, t1, t7, t8, hlt, e1, e2, e3, b1]
   exact q _ (by simp [hm])
  ·have b1 : ((c : Int) == (l[i] : Int)) = false := beq_eq_false_iff_ne.2 (by omega)
   simp [t0, t1, t7, t8, hlt, e1, e2, e3, b1, hw]
   refine hK _ _ hlt ⟨by simp [t0, t1, t6, t7], rfl, ?_⟩
   rw [List.take_add_one, List.getElem?_eq_getElem hlt, List.mem_append]
   simp [hn, hx]
 ·have : i = l.length := by omega
  subst this
  rw [List.take_length] at hn
  simp [t7, t8]
  exact q _ (by simp [hn])
theorem zoe {h : H} {v : V} {l : List Nat} {c : Nat} (hs : Sls h.get 1 v (l.map cP)) : Pure Tryz.prog 119 [v, .int .u32 (c : Nat)] h (.bool (decide (c ∈ l))) := by
 refine zah Tryz.func119 S.a53c S.a53e rfl (Nat.le_of_ble_eq_true rfl) fun wf => ?_; simp only [S.a53]
 simp
 refine znm hs fun k hk => ?_
 simp [<- hk]
theorem zgb {α : Type} {f : α -> Bool} {l : List α} {i : Nat} (h : i < l.length) (ht : (l.take i).all f = true) (hx : f l[i] = true) : (l.take (i + 1)).all f = true := by
 rw [List.take_add_one, List.getElem?_eq_getElem h, List.all_append]
 simp [ht, hx]
theorem zjI {α : Type} {f : α -> Bool} {l : List α} {i : Nat} (h : i < l.length) (hx : f l[i] = false) : l.all f = false := by
 cases e : l.all f with
 | false => rfl
 | true => rw [List.all_eq_true.1 e _ (List.getElem_mem h)] at hx; cases hx
theorem zld {h : H} {v : V} {l : List Sg} {es : List (List V)} (hs : SegsAt h.get v l es) : Pure Tryz.prog 88 [v] h (.int .i64 (if zes l = true then 0 else 2)) := by
 refine zah Tryz.func88 S.a38c S.a38e (by rfl) (Nat.le_of_ble_eq_true rfl) fun wf => ?_; simp only [S.a38]
 have hl := hs.sls.len
 have hb := hs.sls.bound
 rw [hs.len] at hl hb
 by_cases h16 : 16 < l.length
 ·have h16' : (16 : Int) < (l.length : Int) := by omega
  have hf : zes l = false := by simp [zes]; omega
  simp [hl, h16', hf]
 ·have h16' : ¬ (16 : Int) < (l.length : Int) := by omega
  simp [hl, h16']
  refine zaz (fun i t h' => (t 0 = v ∧ t 8 = v ∧ t 9 = .int .i64 (l.length : Nat) ∧ t 10 = .int .i64 (i : Nat)) ∧ Ge h h' ∧ h'.WF ∧ (l.take i).all segB = true) l.length ⟨by simp, Ge.refl _, wf, by simp⟩ ?_
  rintro i t h' hi ⟨⟨t0, t8, t9, t10⟩, gb, wb, ha⟩ K hK
  by_cases hlt : i < l.length
  ·obtain ⟨p, q, o, cs, u, e1, hp, e2, lo, e3, e4, e5, su, _⟩ := hs.atG wf hlt
   have e2' := e2 h' gb
   have hw := zaJ hlt (by omega)
   have so : u.one = true := su.one
   obtain ⟨s, hsd⟩ : ∃ s, s = l[i] := ⟨_, rfl⟩
   rw [<- hsd] at e3 e4 su
   have hn : ∀ b, Ge h' b -> Sls b.get 1 u (s.ases.map cP) := fun b hb => su.ge wf (gb.trans hb)
   simp [t8, t9, t10, hlt, e1, e2', e3, lo, so]
   obtain ⟨hb2, hhb⟩ : ∃ hb2, hb2 = (h'.push (.row [.int .i64 0, .nilsl])).set h'.next (.row [.int .i64 s.kind, u]) := ⟨_, rfl⟩
   have gb2 : Ge h' hb2 := by rw [hhb]; exact ((Ge.refl _).push _).set (Nat.le_refl _) _
   have wb2 : hb2.WF := by rw [hhb]; exact (wb.push _).set (by simp) _
   have ca : zab hb2.get h'.next 2 = some [.int .i64 s.kind, u] := by rw [hhb]; simp
   have hul := (hn _ gb2).len
   simp at hul
   have bad : segB s = false -> zes l = false := fun h0 => by
    have := zjI hlt (f := segB) (by rw [<- hsd]; exact h0)
    simp [zes, this]
   rw [<- hhb]
   by_cases k1 : s.kind < 1
   ·have hf := bad (by simp [segB]; omega)
    simp [k1, hf, gb.trans gb2]
   by_cases k2 : 4 < s.kind
   ·have hf := bad (by simp [segB]; omega)
    simp [ca, k1, k2, hf, gb.trans gb2]
   by_cases k3 : s.ases.length < 1
   ·have hf := bad (by simp [segB]; omega)
    have k3' : (s.ases.length : Int) < 1 := by omega
    simp [ca, k1, k2, hul, k3', hf, gb.trans gb2]
   have k3' : ¬ (s.ases.length : Int) < 1 := by omega
   by_cases k4 : 255 < s.ases.length
   ·have hf := bad (by simp [segB]; omega)
    have k4' : (255 : Int) < s.ases.length := by omega
    simp [ca, k1, k2, hul, k3', k4', hf, gb.trans gb2]
   have k4' : ¬ (255 : Int) < s.ases.length := by omega
   simp [ca, k1, k2, hul, k3', k4']
   refine zoe (c := 0) (hn _ gb2) _ ?_
   by_cases k5 : 0 ∈ s.ases
   ·have hf := bad (by simp [segB, k5])
    simp [k5, hf, gb.trans gb2]
   ·simp [k5, t10, hw]
    refine hK _ _ hlt ⟨by simp [t0, t8, t9], gb.trans gb2, wb2, zgb hlt ha ?_⟩
    rw [<- hsd]
    simp [segB, k5]
    omega
  ·have hi2 : i = l.length := by omega
   subst hi2
   rw [List.take_length] at ha
   have hp : zes l = true := by simp [zes, ha]; omega
   simp [t9, t10, hp, gb]
end Go.Am

namespace Go.Am
open Go.Proofs

set_option maxRecDepth 100000
theorem zjx {h : H} {a : Att} {vp vc vx vl vk : V} (A : AttAt h.get a vp vc vx vl vk) : Pure Tryz.prog 47 [.agg (attC a vp vc vx vl vk)] h (.int .i64 (if attB a = true then 0 else 2)) := by
 refine zah Tryz.func47 S.a15c S.a15e (by rfl) (Nat.le_of_ble_eq_true rfl) fun wf => ?_; simp only [S.a15]
 obtain ⟨es, P⟩ := A.path
 have o1 := P.sls.one
 have o2 := A.comms.one
 have o3 := A.exts.one
 have o4 := A.larges.one
 have o5 := A.clus.one
 obtain ⟨h2, hh2⟩ : ∃ h2, h2 = h.push (.row (attC a vp vc vx vl vk)) := ⟨_, rfl⟩
 have g2 : Ge h h2 := by rw [hh2]; exact (Ge.refl _).push _
 have c1 : zab h2.get h.next 16 = some (attC a vp vc vx vl vk) := by rw [hh2]; simp [attC]
 have A2 := A.ge wf g2
 have P2 := P.ge wf g2
 have lk := A2.clus.len
 simp at lk
 simp only [attC] at hh2 c1
 simp [attC, o1, o2, o3, o4, o5]
 rw [<- hh2]
 by_cases k1 : a.origin < 0
 ·have hf : attB a = false := by simp [attB]; omega
  simp [k1, hf, g2]
 by_cases k2 : 2 < a.origin
 ·have hf : attB a = false := by simp [attB]; omega
  simp [k1, k2, c1, hf, g2]
 simp [k1, k2, c1]
 refine zld P2 _ ?_
 cases k3 : zes a.path with
 | false =>
  have hf : attB a = false := by simp [attB, k3]
  simp [hf, g2]
 | true =>
  simp [c1]
  obtain ⟨n, hn⟩ : ∃ n : Int, n = (a.next.length : Int) := ⟨_, rfl⟩
  rw [<- hn]
  have q0 : ∀ x : Int, n = x -> (n != x) = false := fun x e => by rw [neI, decide_eq_true e]; rfl
  have q1 : ∀ x : Int, n ≠ x -> (n != x) = true := fun x e => by rw [neI, decide_eq_false e]; rfl
  by_cases k4 : n = 0 ∨ n = 4 ∨ n = 16
  case neg =>
   have hf : attB a = false := by
    have : (decide (a.next.length = 0) || decide (a.next.length = 4) || decide (a.next.length = 16)) = false := by
     rw [decide_eq_false (by omega), decide_eq_false (by omega), decide_eq_false (by omega)]; rfl
    simp only [attB, this, Bool.and_false, Bool.false_and]
   simp [q1 0 (by omega), c1, <- hn, q1 4 (by omega), q1 16 (by omega), hf, g2]
  case pos =>
   have k4' : (decide (a.next.length = 0) || decide (a.next.length = 4) || decide (a.next.length = 16)) = true := by
    rcases k4 with e | e | e
    ·rw [decide_eq_true (by omega)]; rfl
    ·rw [decide_eq_true (show a.next.length = 4 by omega)]; simp
    ·rw [decide_eq_true (show a.next.length = 16 by omega)]; simp
   have rest : (a.hasMed || decide (a.med = 0)) = true -> (a.hasPref || decide (a.pref = 0)) = true -> (a.hasOrig || decide (a.orig = 0)) = true -> (!decide (a.aggAS = 0) || decide (a.aggId = 0)) = true -> a.clus.length ≤ 32 -> risB oN a.comms = true -> risB oN a.exts = true -> attB a = risB oL a.larges := fun m1 m2 m3 m4 m5 m6 m7 => by
    unfold attB
    rw [k3, k4', m1, m2, m3, m4, m6, m7, decide_eq_true (show 0 ≤ a.origin by omega), decide_eq_true (show a.origin ≤ 2 by omega), decide_eq_true m5]
    rfl
   have bad : (a.hasMed || decide (a.med = 0)) = false ∨ (a.hasPref || decide (a.pref = 0)) = false ∨ (a.hasOrig || decide (a.orig = 0)) = false ∨ (!decide (a.aggAS = 0) || decide (a.aggId = 0)) = false ∨ decide (a.clus.length ≤ 32) = false ∨ risB oN a.comms = false ∨ risB oN a.exts = false -> attB a = false := fun h => by
    unfold attB
    rcases h with e | e | e | e | e | e | e <;> simp only [e, Bool.and_false, Bool.false_and]
   have x0 : ∀ m : Nat, ((m : Int) != 0) = !decide (m = 0) := fun m => by
    rw [neI]; by_cases e : m = 0
    ·simp [e]
    ·rw [decide_eq_false e, decide_eq_false (by omega)]
   have y0 : ∀ m : Nat, ((m : Int) == 0) = decide (m = 0) := fun m => by
    rw [eqI]; by_cases e : m = 0
    ·simp [e]
    ·rw [decide_eq_false e, decide_eq_false (by omega)]
   generalize hm0 : decide (a.med = 0) = m0 at rest bad
   generalize hp0 : decide (a.pref = 0) = p0 at rest bad
   generalize hr0 : decide (a.orig = 0) = r0 at rest bad
   generalize hs0 : decide (a.aggAS = 0) = s0 at rest bad
   generalize hd0 : decide (a.aggId = 0) = d0 at rest bad
   refine zcq (fun t' h' => (t' 1 = .ptr h.next 16 0 ∧ t' 3 = .bool false) ∧ h' = h2) (fun K' hK' => ?_) ?_
   ·rcases k4 with e | e | e
    ·simp [q0 0 e]; exact hK' _ _ ⟨by simp, rfl⟩
    ·simp [q1 0 (by omega), c1, <- hn, q0 4 e]; exact hK' _ _ ⟨by simp, rfl⟩
    ·simp [q1 0 (by omega), c1, <- hn, q1 4 (by omega), q0 16 e]; exact hK' _ _ ⟨by simp, rfl⟩
   rintro t h' ⟨⟨t1, t3⟩, rfl⟩
   simp [t1, t3, c1]
   refine zcq (fun t' h2 => (t' 1 = .ptr h.next 16 0 ∧ t' 3 = .bool !(a.hasMed || m0)) ∧ h2 = h') (fun K' hK' => ?_) ?_
   ·cases hf : a.hasMed <;> cases m0 <;> simp [t1, c1, x0, hm0] <;> exact hK' _ _ ⟨by simp [t1, hf], rfl⟩
   rintro t h2 ⟨⟨t1, t3⟩, rfl⟩
   by_cases m1 : (a.hasMed || m0) = true
   case neg =>
    rw [Bool.not_eq_true] at m1
    simp [t3, m1, bad (by simp [m1]), g2]
   replace t3 : t 3 = .bool false := by rw [t3, m1]; rfl
   replace c1 := c1
   simp [t1, t3, c1]
   refine zcq (fun t' h' => (t' 1 = .ptr h.next 16 0 ∧ t' 3 = .bool !(a.hasPref || p0)) ∧ h' = h2) (fun K' hK' => ?_) ?_
   ·cases hf : a.hasPref <;> cases p0 <;> simp [t1, c1, x0, hp0] <;> exact hK' _ _ ⟨by simp [t1, hf], rfl⟩
   rintro t h' ⟨⟨t1, t3⟩, rfl⟩
   by_cases m2 : (a.hasPref || p0) = true
   case neg =>
    rw [Bool.not_eq_true] at m2
    simp [t3, m2, bad (by simp [m2]), g2]
   replace t3 : t 3 = .bool false := by rw [t3, m2]; rfl
   replace c1 := c1
   simp [t1, t3, c1]
   refine zcq (fun t' h2 => (t' 1 = .ptr h.next 16 0 ∧ t' 3 = .bool !(a.hasOrig || r0)) ∧ h2 = h') (fun K' hK' => ?_) ?_
   ·cases hf : a.hasOrig <;> cases r0 <;> simp [t1, c1, x0, hr0] <;> exact hK' _ _ ⟨by simp [t1, hf], rfl⟩
   rintro t h2 ⟨⟨t1, t3⟩, rfl⟩
   by_cases m3 : (a.hasOrig || r0) = true
   case neg =>
    rw [Bool.not_eq_true] at m3
    simp [t3, m3, bad (by simp [m3]), g2]
   replace t3 : t 3 = .bool false := by rw [t3, m3]; rfl
   replace c1 := c1
   simp [t1, t3, c1, y0, hs0]
   refine zcq (fun t' h' => (t' 1 = .ptr h.next 16 0 ∧ t' 3 = .bool !(!s0 || d0)) ∧ h' = h2) (fun K' hK' => ?_) ?_
   ·cases s0 <;> cases d0 <;> simp [t1, c1, hd0, x0] <;> exact hK' _ _ ⟨by simp [t1], rfl⟩
   rintro t h' ⟨⟨t1, t3⟩, rfl⟩
   by_cases m4 : (!s0 || d0) = true
   case neg =>
    rw [Bool.not_eq_true] at m4
    simp [t3, m4, bad (by simp [m4]), g2]
   replace t3 : t 3 = .bool false := by rw [t3, m4]; rfl
   replace c1 := c1
   simp [t1, t3, c1, lk]
   by_cases k5 : a.clus.length ≤ 32
   case neg =>
    have k5' : (32 : Int) < (a.clus.length : Int) := by omega
    simp [k5', bad (by simp [k5]), g2]
   have k5' : ¬ (32 : Int) < (a.clus.length : Int) := by omega
   simp [k5', t1, c1]
   refine zoi A2.comms _ ?_
   cases m6 : risB oN a.comms with
   | false => simp [bad (by simp [m6]), g2]
   | true =>
    simp [t1, c1]
    refine znh A2.exts _ ?_
    cases m7 : risB oN a.exts with
    | false => simp [bad (by simp [m7]), g2]
    | true =>
     simp [t1, c1]
     refine znz A2.larges _ ?_
     have hr := rest m1 m2 m3 m4 k5 m6 m7
     cases m8 : risB oL a.larges <;> rw [m8] at hr <;> simp [hr, g2]
def zqu (a : Att) : Bool := decide (a.next.length = 0) || decide (a.next.length = 4) || decide (a.next.length = 16)
def zmk (a : Att) : Bool := (!a.hasMed && !decide (a.med = 0)) || (!a.hasPref && !decide (a.pref = 0)) || (!a.hasOrig && !decide (a.orig = 0)) || (decide (a.aggAS = 0) && !decide (a.aggId = 0))
theorem zi0 (a : Att) : attB a = (!(decide (a.origin < 0) || decide (2 < a.origin) || !zes a.path || !zqu a || zmk a || decide (32 < a.clus.length)) && risB oN a.comms && risB oN a.exts && risB oL a.larges) := by
 have e1 : decide (0 ≤ a.origin) = !decide (a.origin < 0) := by by_cases h : a.origin < 0 <;> simp [h] <;> omega
 have e2 : decide (a.origin ≤ 2) = !decide (2 < a.origin) := by by_cases h : 2 < a.origin <;> simp [h] <;> omega
 have e3 : decide (a.clus.length ≤ 32) = !decide (32 < a.clus.length) := by by_cases h : 32 < a.clus.length <;> simp [h] <;> omega
 unfold attB zmk zqu
 rw [e1, e2, e3]
 simp only [Bool.not_or, Bool.not_and, Bool.not_not, Bool.and_assoc, Bool.or_assoc]
end Go.Am

namespace Go.Am
open Go.Proofs

set_option maxRecDepth 100000
theorem zpO {a b : Sg} : (a = b) ↔ (a.kind = b.kind ∧ a.ases = b.ases) := by cases a; cases b; simp
theorem zjd {h : H} {a b : Sg} {u w : V} (hu : Sls h.get 1 u (a.ases.map cP)) (hw : Sls h.get 1 w (b.ases.map cP)) : Pure Tryz.prog 99 [.agg [.int .i64 a.kind, u], .agg [.int .i64 b.kind, w]] h (.bool (decide (a = b))) := by
 refine zah Tryz.func99 S.a49c S.a49e rfl (Nat.le_of_ble_eq_true rfl) fun wf => ?_; simp only [S.a49]
 have o1 := hu.one
 have o2 := hw.one
 obtain ⟨h2, hh2⟩ : ∃ h2, h2 = (h.push (.row [.int .i64 a.kind, u])).push (.row [.int .i64 b.kind, w]) := ⟨_, rfl⟩
 have g2 : Ge h h2 := by rw [hh2]; exact ((Ge.refl _).push _).push _
 have c1 : zab h2.get h.next 2 = some [.int .i64 a.kind, u] := by rw [hh2]; simp
 have c2 : zab h2.get (h.next + 1) 2 = some [.int .i64 b.kind, w] := by rw [hh2]; simp
 simp [o1, o2]
 rw [<- hh2]
 simp only [zpO]
 by_cases k1 : a.kind = b.kind
 ·simp [k1, c1, c2]
  refine zhq (hu.ge wf g2) (hw.ge wf g2) _ ?_
  simp [g2]
 ·simp [eqI, k1, g2]
theorem zjy {h : H} {v w : V} {l m : List Sg} {es fs : List (List V)} (hv : SegsAt h.get v l es) (hw : SegsAt h.get w m fs) : Pure Tryz.prog 59 [v, w] h (.bool (decide (l = m))) := by
 refine zah Tryz.func59 S.a27c S.a27e rfl (Nat.le_of_ble_eq_true rfl) fun wf => ?_; simp only [S.a27]
 simp
 refine (show Pure Tryz.prog 98 [v, w, .func (.func 99) [] []] h (.bool (decide (l = m))) from ?_) _ (by simp)
 clear wf
 refine zah Tryz.func98 S.a48c S.a48e rfl (Nat.le_of_ble_eq_true rfl) fun wf => ?_; simp only [S.a48]
 have hl := hv.sls.len
 have hm := hw.sls.len
 have hb := hv.sls.bound
 rw [hv.len] at hl hb
 rw [hw.len] at hm
 by_cases hlen : l.length = m.length
 ·simp [hl, hm, hlen]
  refine zaz (fun i t h' => (t 0 = v ∧ t 1 = w ∧ t 2 = .func (.func 99) [] [] ∧ t 15 = v ∧ t 16 = .int .i64 (m.length : Nat) ∧ t 17 = .int .i64 (i : Nat)) ∧ (Ge h h' ∧ h'.WF) ∧ l.take i = m.take i) m.length ⟨by simp, ⟨Ge.refl _, wf⟩, by simp⟩ ?_
  rintro i t h' hi ⟨⟨t0, t1, t2, t15, t16, t17⟩, ⟨gb, wb⟩, ht⟩ K hK
  by_cases hlt : i < m.length
  ·have hlt' : i < l.length := by omega
   obtain ⟨p, q, o, cs, u, e1, hp, e2, lo, e3, e4, e5, su, _⟩ := hv.atG wf hlt'
   obtain ⟨p', q', o', cs', u', e1', hp', e2', lo', e3', e4', e5', su', _⟩ := hw.atG wf hlt
   have so := su.one
   have so' := su'.one
   have hwr := zaJ hlt (by omega)
   have f2 := e2 h' gb
   obtain ⟨h3, hh3⟩ : ∃ h3, h3 = (h'.push (.row [.int .i64 0, .nilsl])).set h'.next (.row [.int .i64 l[i].kind, u]) := ⟨_, rfl⟩
   have g3 : Ge h' h3 := by rw [hh3]; exact ((Ge.refl _).push _).set (Nat.le_refl _) _
   have w3 : h3.WF := by rw [hh3]; exact (wb.push _).set (by simp) _
   have n3 : h3.next = h'.next + 1 := by rw [hh3]; simp
   have f2' := e2' h3 (gb.trans g3)
   have f2'' := e2' (h3.push (.row [.int .i64 0, .nilsl])) ((gb.trans g3).push _)
   have hne : ¬ p' = h'.next := by have := gb.1; omega
   simp [t1, t15, t16, t17, hlt, e1, f2, e3, lo, so]
   rw [<- hh3]
   simp [t2, e1', f2', e3', lo', so', n3]
   obtain ⟨h4, hh4⟩ : ∃ h4, h4 = (h3.push (.row [.int .i64 0, .nilsl])).set (h'.next + 1) (.row [.int .i64 m[i].kind, u']) := ⟨_, rfl⟩
   have g4 : Ge h' h4 := by rw [hh4]; exact ⟨by simp; omega, fun x hx => by
    rw [H.get_set, if_neg (by omega), H.get_push, if_neg (by omega), g3.2 x hx]⟩
   have w4 : h4.WF := by rw [hh4]; exact (w3.push _).set (by simp [n3]) _
   have c1 : zab h4.get h'.next 2 = some [.int .i64 l[i].kind, u] := by rw [hh4, hh3]; simp
   have c2 : zab h4.get (h'.next + 1) 2 = some [.int .i64 m[i].kind, u'] := by rw [hh4]; simp
   have c1' : zab h3.get h'.next 2 = some [.int .i64 l[i].kind, u] := by rw [hh3]; simp
   rw [<- hh4]
   simp [c1', c2]
   refine zjd (a := l[i]) (b := m[i]) (su.ge wf (gb.trans g4)) (su'.ge wf (gb.trans g4)) _ ?_
   by_cases hx : l[i] = m[i]
   ·simp [hx, t17, hwr]
    exact hK _ _ hlt ⟨by simp [t0, t1, t2, t15, t16], ⟨gb.trans g4, w4⟩, zb5 hlt' hlt ht hx⟩
   ·simp [hx, zeI hlt' hlt hx, gb.trans g4]
  ·have hi2 : i = m.length := by omega
   subst hi2
   simp [t16, t17, zc8 hlen rfl ht, gb]
 ·have : l ≠ m := fun e => hlen (by rw [e])
  have hlen' : ¬ (l.length : Int) = (m.length : Int) := by omega
  simp [hl, hm, neI, hlen', this]
end Go.Am

namespace Go.Am
open Go.Proofs

set_option maxRecDepth 100000
theorem eqN (m n : Nat) : ((m : Int) == (n : Int)) = decide (m = n) := by rw [eqI, decide_eq_decide]; omega
theorem eqS (m n : List UInt8) : (m == n) = decide (m = n) := by by_cases h : m = n <;> simp [h]
theorem eqB (m n : Bool) : eqV TS.bool (.bool m) (.bool n) = some (decide (m = n)) := by cases m <;> cases n <;> rfl
theorem znL {a b : Att} (k0 : a.origin = b.origin) (k1 : a.next = b.next) (k2 : a.hasMed = b.hasMed) (k3 : a.med = b.med) (k4 : a.hasPref = b.hasPref) (k5 : a.pref = b.pref) (k6 : a.atomic = b.atomic) (k7 : a.aggAS = b.aggAS) (k8 : a.aggId = b.aggId) (k9 : a.hasOrig = b.hasOrig) (k10 : a.orig = b.orig) : (a = b) ↔ (a.path = b.path ∧ a.comms = b.comms ∧ a.exts = b.exts ∧ a.larges = b.larges ∧ a.clus = b.clus) := by
 cases a
 cases b
 simp only at *
 subst k0 k1 k2 k3 k4 k5 k6 k7 k8 k9 k10
 simp
theorem zk6 {h : H} {a b : Att} {vp vc vx vl vk wp wc wx wl wk : V} (A : AttAt h.get a vp vc vx vl vk) (B : AttAt h.get b wp wc wx wl wk) : Pure Tryz.prog 21 [.agg (attC a vp vc vx vl vk), .agg (attC b wp wc wx wl wk)] h (.bool (decide (a = b))) := by
 refine zah Tryz.func21 S.a9c S.a9e rfl (Nat.le_of_ble_eq_true rfl) fun wf => ?_; simp only [S.a9]
 obtain ⟨es, PA⟩ := A.path
 obtain ⟨fs, PB⟩ := B.path
 have o1 := PA.sls.one
 have o2 := A.comms.one
 have o3 := A.exts.one
 have o4 := A.larges.one
 have o5 := A.clus.one
 have p1 := PB.sls.one
 have p2 := B.comms.one
 have p3 := B.exts.one
 have p4 := B.larges.one
 have p5 := B.clus.one
 obtain ⟨h2, hh2⟩ : ∃ h2, h2 = (h.push (.row (attC a vp vc vx vl vk))).push (.row (attC b wp wc wx wl wk)) := ⟨_, rfl⟩
 have g2 : Ge h h2 := by rw [hh2]; exact ((Ge.refl _).push _).push _
 have c1 : zab h2.get h.next 16 = some (attC a vp vc vx vl vk) := by rw [hh2]; simp [attC]
 have c2 : zab h2.get (h.next + 1) 16 = some (attC b wp wc wx wl wk) := by rw [hh2]; simp [attC]
 have PA2 := PA.ge wf g2
 have PB2 := PB.ge wf g2
 have A2 := A.ge wf g2
 have B2 := B.ge wf g2
 simp only [attC] at hh2 c1 c2
 simp [attC, o1, o2, o3, o4, o5, p1, p2, p3, p4, p5]
 rw [<- hh2]
 have eqO : (a.origin == b.origin) = decide (a.origin = b.origin) := eqI _ _
 rw [eqO]
 by_cases k0 : a.origin = b.origin
 case neg =>
  have hne : ¬ a = b := fun e => k0 (by rw [e])
  simp [k0, hne, g2]
 by_cases k1 : a.next = b.next
 case neg =>
  have hne : ¬ a = b := fun e => k1 (by rw [e])
  simp [c1, c2, k0, k1, eqS, hne, g2]
 by_cases k2 : a.hasMed = b.hasMed
 case neg =>
  have hne : ¬ a = b := fun e => k2 (by rw [e])
  simp [c1, c2, k0, k1, k2, eqB, hne, g2]
 by_cases k3 : a.med = b.med
 case neg =>
  have hne : ¬ a = b := fun e => k3 (by rw [e])
  simp [c1, c2, k0, k1, k2, k3, eqN, eqB, hne, g2]
 by_cases k4 : a.hasPref = b.hasPref
 case neg =>
  have hne : ¬ a = b := fun e => k4 (by rw [e])
  simp [c1, c2, k0, k1, k2, k3, k4, eqB, hne, g2]
 by_cases k5 : a.pref = b.pref
 case neg =>
  have hne : ¬ a = b := fun e => k5 (by rw [e])
  simp [c1, c2, k0, k1, k2, k3, k4, k5, eqN, eqB, hne, g2]
 by_cases k6 : a.atomic = b.atomic
 case neg =>
  have hne : ¬ a = b := fun e => k6 (by rw [e])
  simp [c1, c2, k0, k1, k2, k3, k4, k5, k6, eqB, hne, g2]
 by_cases k7 : a.aggAS = b.aggAS
 case neg =>
  have hne : ¬ a = b := fun e => k7 (by rw [e])
  simp [c1, c2, k0, k1, k2, k3, k4, k5, k6, k7, eqN, eqB, hne, g2]
 by_cases k8 : a.aggId = b.aggId
 case neg =>
  have hne : ¬ a = b := fun e => k8 (by rw [e])
  simp [c1, c2, k0, k1, k2, k3, k4, k5, k6, k7, k8, eqN, eqB, hne, g2]
 by_cases k9 : a.hasOrig = b.hasOrig
 case neg =>
  have hne : ¬ a = b := fun e => k9 (by rw [e])
  simp [c1, c2, k0, k1, k2, k3, k4, k5, k6, k7, k8, k9, eqB, hne, g2]
 by_cases k10 : a.orig = b.orig
 case neg =>
  have hne : ¬ a = b := fun e => k10 (by rw [e])
  simp [c1, c2, k0, k1, k2, k3, k4, k5, k6, k7, k8, k9, k10, eqN, eqB, hne, g2]
 simp [c1, c2, k0, k1, k2, k3, k4, k5, k6, k7, k8, k9, k10, eqB]
 simp only [znL k0 k1 k2 k3 k4 k5 k6 k7 k8 k9 k10]
 refine zjy PA2 PB2 _ ?_
 by_cases m1 : a.path = b.path
 case neg => simp [m1, g2]
 simp [m1, c1, c2]
 refine zhq A2.comms B2.comms _ ?_
 by_cases m2 : a.comms = b.comms
 case neg => simp [m2, g2]
 simp [m2, c1, c2]
 refine znv A2.exts B2.exts _ ?_
 by_cases m3 : a.exts = b.exts
 case neg => simp [m3, g2]
 simp [m3, c1, c2]
 refine zne A2.larges B2.larges _ ?_
 by_cases m4 : a.larges = b.larges
 case neg => simp [m4, g2]
 simp [m4, c1, c2]
 refine zhq A2.clus B2.clus _ ?_
 simp [g2]

end Go.Am

namespace Go.Am
open Go.Proofs

structure AttSz (a : Att) : Prop where
 path : a.path.length * 32 ≤ 140737488355328
 segs : ∀ s ∈ a.path, s.ases.length * 4 ≤ 140737488355328
 comms : a.comms.length * 4 ≤ 140737488355328
 exts : a.exts.length * 8 ≤ 140737488355328
 larges : a.larges.length * 12 ≤ 140737488355328
 clus : a.clus.length * 4 ≤ 140737488355328
theorem zfa {a : Att} (h : attB a = true) : AttSz a := by
 have hp := h
 rw [zi0] at hp
 simp only [Bool.and_eq_true, Bool.not_eq_true', Bool.or_eq_false_iff, decide_eq_false_iff_not, Bool.not_eq_false', risB, decide_eq_true_eq, zes, List.all_eq_true] at hp
 obtain ⟨⟨⟨⟨⟨⟨⟨⟨h1, h2⟩, h3⟩, h4⟩, h5⟩, h6⟩, h7⟩, h8⟩, h9⟩ := hp
 refine ⟨by omega, fun s hs => ?_, by omega, by omega, by omega, by omega⟩
 have := h3.2 s hs
 simp only [segB, Bool.and_eq_true, decide_eq_true_eq] at this
 omega
def PathFr (h : H) (lo : Nat) (v : V) (l : List Sg) : Prop := ∃ es : List (List V), Fc h lo 2 v es ∧ es.length = l.length ∧ ∀ (i : Nat) (s : Sg), l[i]? = some s -> ∃ w, es[i]? = some [.int .i64 s.kind, w] ∧ Fc h lo 1 w (s.ases.map cP)
structure AttFr (h : H) (lo : Nat) (a : Att) (vp vc vx vl vk : V) : Prop where
 path : PathFr h lo vp a.path
 comms : Fc h lo 1 vc (a.comms.map cP)
 exts : Fc h lo 1 vx (a.exts.map cX)
 larges : Fc h lo 3 vl (a.larges.map cL)
 clus : Fc h lo 1 vk (a.clus.map cP)
 sz : AttSz a
structure Keep3 (h h' : H) (lo : Nat) : Prop where
 next : h.next ≤ h'.next
 keep : ∀ i sz cs, lo ≤ i -> sz ≤ 3 -> h.get i = some (.grow sz cs) -> h'.get i = some (.grow sz cs)
theorem Keep3.refl (h : H) (lo : Nat) : Keep3 h h lo := ⟨Nat.le_refl _, fun _ _ _ _ _ e => e⟩
theorem Keep3.trans {a b c : H} {lo : Nat} (x : Keep3 a b lo) (y : Keep3 b c lo) : Keep3 a c lo := ⟨Nat.le_trans x.next y.next, fun i sz cs hl hs e => y.keep i sz cs hl hs (x.keep i sz cs hl hs e)⟩
theorem Ge.keep3 {h h' : H} (g : Ge h h') (w : h.WF) (lo : Nat) : Keep3 h h' lo := ⟨g.1, fun i _ _ _ _ e => g.keeps w i _ e⟩
theorem Gl.keep3 {h h' : H} {lo lo' sz : Nat} {v : V} {es : List (List V)} (g : Gl h lo sz v es) (hs : sz ≤ 3) (hl : lo' ≤ lo) (k : Keep3 h h' lo') : Gl h' lo sz v es := by
 rcases g with h1 | ⟨hne, j, h2, h3, h4, h5⟩
 ·exact .inl h1
 ·exact .inr ⟨hne, j, h2, Nat.lt_of_lt_of_le h3 k.next, h4, k.keep j _ _ (by omega) hs h5⟩
theorem Fc.keep3 {h h' : H} {lo lo' sz : Nat} {v : V} {es : List (List V)} (f : Fc h lo sz v es) (hs : sz ≤ 3) (hl : lo' ≤ lo) (k : Keep3 h h' lo') : Fc h' lo sz v es := by
 rcases f with h1 | ⟨hne, g⟩
 ·exact .inl h1
 ·exact .inr ⟨hne, g.keep3 hs hl k⟩
theorem PathFr.keep3 {h h' : H} {lo lo' : Nat} {v : V} {l : List Sg} (f : PathFr h lo v l) (hl : lo' ≤ lo) (k : Keep3 h h' lo') : PathFr h' lo v l := by
 obtain ⟨es, f1, f2, f3⟩ := f
 exact ⟨es, f1.keep3 (by omega) hl k, f2, fun i s hi => by obtain ⟨w, e, g⟩ := f3 i s hi; exact ⟨w, e, g.keep3 (by omega) hl k⟩⟩
theorem AttFr.keep3 {h h' : H} {lo lo' : Nat} {a : Att} {vp vc vx vl vk : V} (f : AttFr h lo a vp vc vx vl vk) (hl : lo' ≤ lo) (k : Keep3 h h' lo') : AttFr h' lo a vp vc vx vl vk :=
 ⟨f.path.keep3 hl k, f.comms.keep3 (by omega) hl k, f.exts.keep3 (by omega) hl k, f.larges.keep3 (by omega) hl k, f.clus.keep3 (by omega) hl k, f.sz⟩
theorem PathFr.le {h : H} {lo lo' : Nat} {v : V} {l : List Sg} (f : PathFr h lo v l) (hl : lo' ≤ lo) : PathFr h lo' v l := by
 obtain ⟨es, f1, f2, f3⟩ := f
 exact ⟨es, f1.le hl, f2, fun i s hi => by obtain ⟨w, e, g⟩ := f3 i s hi; exact ⟨w, e, g.le hl⟩⟩
theorem AttFr.le {h : H} {lo lo' : Nat} {a : Att} {vp vc vx vl vk : V} (f : AttFr h lo a vp vc vx vl vk) (hl : lo' ≤ lo) : AttFr h lo' a vp vc vx vl vk :=
 ⟨f.path.le hl, f.comms.le hl, f.exts.le hl, f.larges.le hl, f.clus.le hl, f.sz⟩
theorem AttFr.ge {h h' : H} {lo : Nat} {a : Att} {vp vc vx vl vk : V} (f : AttFr h lo a vp vc vx vl vk) (w : h.WF) (g : Ge h h') : AttFr h' lo a vp vc vx vl vk := f.keep3 (Nat.le_refl _) (g.keep3 w lo)
theorem zdU {l : List Sg} {es : List (List V)} (hl : es.length = l.length) (h : ∀ (i : Nat) (s : Sg), l[i]? = some s -> ∃ w, es[i]? = some [.int .i64 s.kind, w]) : ∀ e ∈ es, e.length = 2 := fun e he => by
 obtain ⟨i, hi, rfl⟩ := List.mem_iff_getElem.1 he
 obtain ⟨w, hw⟩ := h i l[i] (List.getElem?_eq_getElem (by omega))
 rw [List.getElem?_eq_getElem hi, Option.some.injEq] at hw
 rw [hw]; rfl
theorem zl7 {l : List Sg} {es : List (List V)} (hl : es.length = l.length) (h : ∀ (i : Nat) (s : Sg), l[i]? = some s -> ∃ w, es[i]? = some [.int .i64 s.kind, w] ∧ w.one = true) : ∀ e ∈ es, e.all V.one = true := fun e he => by
 obtain ⟨i, hi, rfl⟩ := List.mem_iff_getElem.1 he
 obtain ⟨w, hw, h1⟩ := h i l[i] (List.getElem?_eq_getElem (by omega))
 rw [List.getElem?_eq_getElem hi, Option.some.injEq] at hw
 rw [hw]; simp [h1]
theorem PathFr.at {h : H} {lo : Nat} {v : V} {l : List Sg} (f : PathFr h lo v l) (hb : l.length * 32 ≤ 140737488355328) (hs : ∀ s ∈ l, s.ases.length * 4 ≤ 140737488355328) : ∃ es, SegsAt h.get v l es := by
 obtain ⟨es, f1, f2, f3⟩ := f
 exact ⟨es, f1.sls (zdU f2 fun i s hi => by obtain ⟨w, e, _⟩ := f3 i s hi; exact ⟨w, e⟩) (by omega), f2, fun i s hi => by
  obtain ⟨w, e, g⟩ := f3 i s hi
  exact ⟨w, e, g.sls (zdg _) (by have := hs s (List.mem_of_getElem? hi); simp; omega)⟩⟩
theorem AttFr.at {h : H} {lo : Nat} {a : Att} {vp vc vx vl vk : V} (f : AttFr h lo a vp vc vx vl vk) : AttAt h.get a vp vc vx vl vk := by
 have z := f.sz
 exact ⟨f.path.at z.path z.segs, f.comms.sls (zdg _) (by have := z.comms; simp; omega), f.exts.sls (zhW _) (by have := z.exts; simp; omega), f.larges.sls (zim _) (by have := z.larges; simp; omega), f.clus.sls (zdg _) (by have := z.clus; simp; omega)⟩
theorem AttFr.one {h : H} {lo : Nat} {a : Att} {vp vc vx vl vk : V} (f : AttFr h lo a vp vc vx vl vk) : vp.one = true ∧ vc.one = true ∧ vx.one = true ∧ vl.one = true ∧ vk.one = true := by
 obtain ⟨_, f1, _⟩ := f.path
 exact ⟨f1.one, f.comms.one, f.exts.one, f.larges.one, f.clus.one⟩

theorem Fc.obj {h h' : H} {lo sz sz' j : Nat} {v : V} {es : List (List V)} {cs : List V} (f : Fc h lo sz v es) (hj : h.get j = some (.grow sz' cs)) (hne : sz ≠ sz') (hn : h.next ≤ h'.next) (k : ∀ i, i ≠ j -> i < h.next -> h'.get i = h.get i) : Fc h' lo sz v es := by
 rcases f with h1 | ⟨hes, h1 | ⟨h1, i, h2, h3, h4, h5⟩⟩
 ·exact .inl h1
 ·exact .inr ⟨hes, .inl h1⟩
 ·refine .inr ⟨hes, .inr ⟨h1, i, h2, by omega, h4, ?_⟩⟩
  rw [k i (fun e => by subst e; rw [hj] at h5; cases h5; exact hne rfl) h3]; exact h5
theorem zjW {es : List (List V)} (hs : ∀ e ∈ es, e.length = 2) {i : Nat} (hi : i < es.length) (k w : V) (hk : es[i][0]? = some k) : es.flatten.set (i * 2 + 1) w = (es.set i [k, w]).flatten := by
 induction es generalizing i with
 | nil => simp at hi
 | cons e es ih =>
  have he := hs e (by simp)
  match e, he with
  | [a, b], _ =>
   cases i with
   | zero => simp at hk; subst hk; simp
   | succ i =>
    have := ih (fun x hx => hs x (by simp [hx])) (i := i) (by simpa using hi) (by simpa using hk)
    rw [List.flatten_cons, List.set_cons_succ, List.flatten_cons, <- this, show (i + 1) * 2 + 1 = i * 2 + 1 + 2 by omega]
    rfl
def attZ : List V := [.int .i64 0, .nilsl, .str [], .bool false, .int .u32 0, .bool false, .int .u32 0, .bool false, .int .u32 0, .int .u32 0, .nilsl, .nilsl, .nilsl, .bool false, .int .u32 0, .nilsl]
set_option maxRecDepth 100000
theorem zma {h : H} {a : Att} {vp vc vx vl vk : V} (A : AttAt h.get a vp vc vx vl vk) (z : AttSz a) {Q : V -> H -> Prop}
  (q : ∀ wp wc wx wl wk h', Ge h h' -> h'.WF -> AttFr h' h.next a wp wc wx wl wk -> Q (.agg (attC a wp wc wx wl wk)) h') : Acalls Tryz.prog 93 [.agg (attC a vp vc vx vl vk)] h Q := by
 refine zaw Tryz.func93 S.a43c S.a43e (Nat.le_of_ble_eq_true rfl) fun wf => ?_; simp only [S.a43]
 obtain ⟨es, P⟩ := A.path
 have o1 := P.sls.one
 have o2 := A.comms.one
 have o3 := A.exts.one
 have o4 := A.larges.one
 have o5 := A.clus.one
 have n01 : ¬ h.next = h.next + 1 := by omega
 obtain ⟨h2, hh2⟩ : ∃ h2, h2 = (h.push (.row (attC a vp vc vx vl vk))).push (.row attZ) := ⟨_, rfl⟩
 have g2 : Ge h h2 := by rw [hh2]; exact ((Ge.refl _).push _).push _
 have w2 : h2.WF := by rw [hh2]; exact (wf.push _).push _
 have n2 : h2.next = h.next + 2 := by rw [hh2]; simp
 have x1 : h2.get h.next = some (.row (attC a vp vc vx vl vk)) := by rw [hh2]; simp
 have x2 : h2.get (h.next + 1) = some (.row attZ) := by rw [hh2]; simp
 have P2 := P.ge wf g2
 have A2 := A.ge wf g2
 have c1 : zab h2.get h.next 16 = some (attC a vp vc vx vl vk) := by rw [zai x1 (by simp [attC])]; rfl
 simp only [attC, attZ] at hh2 c1
 simp [attC, o1, o2, o3, o4, o5]
 simp only [<- hh2]
 refine zlH P2.sls (zl7 P.len fun i s hi => by obtain ⟨w, e, k⟩ := P2.seg i s hi; exact ⟨w, e, k.one⟩) (by have := P.len; have := z.path; omega) fun v1 h3 g3 w3 f3 => ?_
 have c3 : zab h3.get h.next 16 = some (attC a vp vc vx vl vk) := by rw [g3.cells (by omega), zai x1 (by simp [attC])]; rfl
 have x3 : h3.get h.next = some (.row (attC a vp vc vx vl vk)) := by rw [g3.2 _ (by omega)]; exact x1
 have o6 := f3.one
 simp only [attC] at c3 x3
 simp [x3, zbe o6, zbd o6]
 obtain ⟨h4, hh4⟩ : ∃ h4, h4 = h3.set h.next (.row (attC a v1 vc vx vl vk)) := ⟨_, rfl⟩
 have n4 : h4.next = h3.next := by rw [hh4]; simp
 have w4 : h4.WF := by rw [hh4]; exact w3.set (by have := g3.1; omega) _
 have k4 : ∀ x, x ≠ h.next -> h4.get x = h3.get x := fun x hx => by rw [hh4, H.get_set, if_neg hx]
 have x4 : h4.get h.next = some (.row (attC a v1 vc vx vl vk)) := by rw [hh4]; simp
 have y4 : h4.get (h.next + 1) = some (.row attZ) := by rw [k4 _ (by omega), g3.2 _ (by omega)]; exact x2
 have f4 : Fc h4 h2.next 2 v1 es := f3.keep (by omega) fun i hi _ => k4 i (by have := f3.lo i hi; omega)
 have l4 := (f4.sls P.sls.size P.sls.bound).len
 have hlen := P.len
 have hn0 := z.path
 rw [hlen] at l4
 simp only [attC, attZ] at hh4 x4 y4
 rw [<- hh4]
 simp [l4]
 have base : ∀ x, x < h.next -> h4.get x = h.get x := fun x hx => by rw [k4 x (by omega), g3.2 x (by omega), g2.2 x hx]
 refine zaz (fun i t h' => (t 1 = .ptr h.next 16 0 ∧ t 2 = .ptr (h.next + 1) 16 0 ∧ t 10 = .int .i64 (a.path.length : Nat) ∧ t 11 = .int .i64 (i : Nat)) ∧ (h'.WF ∧ h2.next ≤ h'.next ∧ h'.get h.next = h4.get h.next ∧ h'.get (h.next + 1) = h4.get (h.next + 1) ∧ ∀ x, x < h.next -> h'.get x = h.get x) ∧
  ∃ fs : List (List V), fs.length = a.path.length ∧ (a.path.length = 0 ∧ Fc h' h2.next 2 v1 fs ∨ ∃ j, h2.next ≤ j ∧ j < h'.next ∧ v1 = .sl j (a.path.length * 2) 0 a.path.length none ∧ h'.get j = some (.grow 2 fs.flatten)) ∧
   ∀ (k : Nat) (s : Sg), a.path[k]? = some s -> ∃ w, fs[k]? = some [.int .i64 s.kind, w] ∧ (k < i ∧ Fc h' h2.next 1 w (s.ases.map cP) ∨ i ≤ k ∧ Sls h.get 1 w (s.ases.map cP))) a.path.length ⟨by simp, ⟨w4, by have := g3.1; omega, rfl, rfl, base⟩, es, hlen, ?_, fun k s hk => ?_⟩ ?_
 ·rcases f4 with ⟨e, f⟩ | ⟨hne, e | ⟨_, j, j1, j2, j3, j4⟩⟩
  ·subst e; exact .inl ⟨by simpa using hlen.symm, .inl ⟨rfl, f⟩⟩
  ·exact absurd e.1 hne
  ·exact .inr ⟨j, j1, j2, by rw [j3, zaF P.sls.size, hlen], j4⟩
 ·obtain ⟨w, e, sw⟩ := P.seg k s hk
  exact ⟨w, e, .inr ⟨by omega, sw⟩⟩
 rintro i t h' hi ⟨⟨t1, t2, t10, t11⟩, ⟨wb, nb, xb, yb, bb⟩, fs, fl, fo, fe⟩ K hK
 have hge : Ge h h' := ⟨by omega, bb⟩
 by_cases hlt : i < a.path.length
 ·rcases fo with ⟨h0, _⟩ | ⟨j, j1, j2, j3, j4⟩
  ·omega
  have hw := zaJ hlt (by omega)
  obtain ⟨w, e1, e2⟩ := fe i a.path[i] (List.getElem?_eq_getElem hlt)
  obtain ⟨s, hsd⟩ : ∃ s, s = a.path[i] := ⟨_, rfl⟩
  rw [<- hsd] at e1 e2
  rcases e2 with ⟨e2, _⟩ | ⟨_, sw⟩
  ·omega
  have hif : i < fs.length := by omega
  have e1' : fs[i] = [.int .i64 s.kind, w] := by rw [List.getElem?_eq_getElem hif, Option.some.injEq] at e1; exact e1
  have f2 : ∀ e ∈ fs, e.length = 2 := zdU fl fun k s hk => by obtain ⟨w, e, _⟩ := fe k s hk; exact ⟨w, e⟩
  have hfl := zaF f2
  rw [fl] at hfl
  obtain ⟨v5, h5, c5, g5, w5, q5⟩ := zhE wb (sw.ge wf hge) (zf0 s.ases) (by have := z.segs s (by rw [hsd]; exact List.getElem_mem hlt); simp; omega)
  have xb' := xb.trans x4
  have cb : zab h'.get h.next 16 = some (attC a v1 vc vx vl vk) := by rw [zai xb' (by simp)]; rfl
  have cj : zab h'.get j (a.path.length * 2) = some fs.flatten := by rw [zai j4 (by simp [hfl])]; rfl
  have i0 : fs.flatten[i * 2 + 1]? = some w := by
   have := zff f2 hif
   have h1 : (fs.flatten.drop (i * 2)).take 2 = [.int .i64 s.kind, w] := by rw [this, e1']
   have h2 : ((fs.flatten.drop (i * 2)).take 2)[1]? = some w := by rw [h1]; rfl
   rw [List.getElem?_take, if_pos (by omega), List.getElem?_drop] at h2
   exact h2
  simp only [attC] at cb
  simp [t10, t11, hlt]
  refine zbP [h.next] [0, 2, 0, 0, 0, 0, 0, 0, 0, 1, 0, 0, 0] rfl (by rfl) ?_
  subst j3
  simp [t1, cb, cj, i0, hlt, I.foot, zaQ]
  refine zby (v := v5) (h' := h5) (fun Q q => by simpa using c5 Q q) (by decide) (fun _ => fun k hk => ?_) ?_
  ·rw [List.mem_singleton] at hk
   subst hk
   exact g5.2 _ (by omega)
  have j5 : h5.get j = some (.grow 2 fs.flatten) := by rw [g5.2 j j2]; exact j4
  have o8 := q5.one
  have hle : i * 2 + 1 + 1 ≤ a.path.length * 2 := by omega
  have hfs := zjW f2 hif (.int .i64 s.kind) v5 (by rw [e1']; rfl)
  have hls : putCells fs.flatten (i * 2 + 1) [v5] = (fs.set i [.int .i64 s.kind, v5]).flatten := by
   rw [<- hfs, List.set_eq_take_append_cons_drop, if_pos (by omega)]
   simp [putCells]
  simp only [putCells, List.length_singleton, List.append_assoc, List.singleton_append] at hls
  simp [hlt, j5, hfl, zbe o8, zbd o8, hle, t11, hw, hls]
  refine hK _ _ hlt ⟨by simp [t1, t2, t10], ⟨w5.set (by have := g5.1; omega) _, ?_, ?_, ?_, fun x hx => ?_⟩, fs.set i [.int .i64 s.kind, v5], by simp [fl], .inr ⟨j, j1, ?_, rfl, by simp⟩, fun k s' hk => ?_⟩
  ·have := g5.1; simp; omega
  ·rw [H.get_set, if_neg (by omega), g5.2 _ (by omega)]; exact xb
  ·rw [H.get_set, if_neg (by omega), g5.2 _ (by omega)]; exact yb
  ·rw [H.get_set, if_neg (by omega), g5.2 _ (by omega)]; exact bb x hx
  ·have := g5.1; simp; omega
  ·by_cases hki : k = i
   ·subst hki
    rw [List.getElem?_eq_getElem hlt, Option.some.injEq, <- hsd] at hk
    subst hk
    refine ⟨v5, by rw [List.getElem?_set_self hif], .inl ⟨by omega, ?_⟩⟩
    exact (q5.le (by omega)).obj j5 (by omega) (by simp) fun x hx _ => by rw [H.get_set, if_neg hx]
   ·obtain ⟨w', e3, e4⟩ := fe k s' hk
    refine ⟨w', by rw [List.getElem?_set_ne (by omega)]; exact e3, ?_⟩
    rcases e4 with ⟨e4, e5⟩ | ⟨e4, e5⟩
    ·exact .inl ⟨by omega, ((e5.ge g5)).obj j5 (by omega) (by simp) fun x hx _ => by rw [H.get_set, if_neg hx]⟩
    ·exact .inr ⟨by omega, e5⟩
 ·have hi2 : i = a.path.length := by omega
  subst hi2
  simp [t10, t11]
  have xb' := xb.trans x4
  have yb' := yb.trans y4
  have cb : ∀ x, Ge h' x -> zab x.get h.next 16 = some (attC a v1 vc vx vl vk) := fun x gx => by rw [zai ((gx.2 _ (by omega)).trans xb') (by simp)]; rfl
  have kp : ∀ x y, Ge h' x -> Ge x y -> Keep [h.next] x y := fun x y g1 g2 k hk => by
   rw [List.mem_singleton] at hk
   subst hk
   exact g2.2 _ (by have := g1.1; omega)
  obtain ⟨u1, h5, r1, g5, w5, q5⟩ := zhE wb (A.comms.ge wf hge) (zf0 _) (by have := z.comms; simp; omega)
  have ge5 := hge.trans g5
  obtain ⟨u2, h6, r2, g6, w6, q6⟩ := znU w5 (A.exts.ge wf ge5) (zlB _) (by have := z.exts; simp; omega)
  have ge6 := ge5.trans g6
  obtain ⟨u3, h7, r3, g7, w7, q7⟩ := znl w6 (A.larges.ge wf ge6) (zlq _) (by have := z.larges; simp; omega)
  have ge7 := ge6.trans g7
  obtain ⟨u4, h8, r4, g8, w8, q8⟩ := zhE w7 (A.clus.ge wf ge7) (zf0 _) (by have := z.clus; simp; omega)
  have g56 := g5.trans g6
  have g57 := g56.trans g7
  have g58 := g57.trans g8
  have c0 := cb h' (Ge.refl _)
  have c5 := cb h5 g5
  have c6 := cb h6 g56
  have c7 := cb h7 g57
  have x8 : h8.get h.next = some (.row (attC a v1 vc vx vl vk)) := (g58.2 _ (by omega)).trans xb'
  have y8 : h8.get (h.next + 1) = some (.row attZ) := (g58.2 _ (by omega)).trans yb'
  have p1 := q5.one
  have p2 := q6.one
  have p3 := q7.one
  have p4 := q8.one
  simp only [attC, attZ] at c0 c5 c6 c7 x8 y8
  refine zbP [h.next] [0, 2, 1, 0, 2, 1, 0, 2, 1, 0, 2, 1, 0, 0, 0, 0, 0, 0, 0, 0] rfl (by rfl) ?_
  simp [t1, c0, I.foot, zaQ]
  refine zby (v := u1) (h' := h5) (fun Q q => by simpa using r1 Q q) (by decide) (fun _ => kp _ _ (Ge.refl _) g5) ?_
  simp [t1, c5, I.foot, zaQ]
  refine zby (v := u2) (h' := h6) (fun Q q => by simpa using r2 Q q) (by decide) (fun _ => kp _ _ g5 g6) ?_
  simp [t1, c6, I.foot, zaQ]
  refine zby (v := u3) (h' := h7) (fun Q q => by simpa using r3 Q q) (by decide) (fun _ => kp _ _ g56 g7) ?_
  simp [t1, c7, I.foot, zaQ]
  refine zby (v := u4) (h' := h8) (fun Q q => by simpa using r4 Q q) (by decide) (fun _ => kp _ _ g57 g8) ?_
  simp [t1, x8, zbe p1, zbd p1, zbe p2, zbd p2, zbe p3, zbd p3, zbe p4, zbd p4]
  simp [t2, y8, p1, p2, p3, p4, o6]
  obtain ⟨hF, hhF⟩ : ∃ hF, hF = (h8.set h.next (.row (attC a v1 u1 u2 u3 u4))).set (h.next + 1) (.row (attC a v1 u1 u2 u3 u4)) := ⟨_, rfl⟩
  have gF : Ge h hF := by rw [hhF]; exact ((hge.trans g58).set (Nat.le_refl _) _).set (by omega) _
  have l8 : h2.next ≤ h8.next := by have := g58.1; omega
  have wF : hF.WF := by rw [hhF]; exact (w8.set (by omega) _).set (by simp; omega) _
  have nF : hF.next = h8.next := by rw [hhF]; simp
  have kF : ∀ x, h2.next ≤ x -> hF.get x = h8.get x := fun x hx => by rw [hhF, H.get_set, if_neg (by omega), H.get_set, if_neg (by omega)]
  simp only [attC] at hhF
  rw [<- hhF]
  have fin : ∀ {sz : Nat} {v : V} {es : List (List V)} {x : H} {lo : Nat}, Fc x lo sz v es -> Ge x h8 -> h2.next ≤ lo -> Fc hF h.next sz v es := fun f g hl =>
   ((f.ge g).keep (by omega) fun i hi _ => kF i (by have := f.lo i hi; omega)).le (by omega)
  refine q v1 u1 u2 u3 u4 hF gF wF ⟨⟨fs, ?_, fl, fun k s hk => ?_⟩, fin q5 (g6.trans (g7.trans g8)) nb, fin q6 (g7.trans g8) (by have := g5.1; omega), fin q7 g8 (by have := g56.1; omega), fin q8 (Ge.refl _) (by have := g57.1; omega), z⟩
  ·rcases fo with ⟨_, f⟩ | ⟨j, j1, j2, j3, j4⟩
   ·exact fin f g58 (Nat.le_refl _)
   ·have f2 : ∀ e ∈ fs, e.length = 2 := zdU fl fun k s hk => by obtain ⟨w, e, _⟩ := fe k s hk; exact ⟨w, e⟩
    by_cases h0 : fs = []
    ·subst h0
     have hn : a.path.length = 0 := by simpa using fl.symm
     rcases f4 with ⟨e, f⟩ | ⟨hne, _⟩
     ·subst e
      exact .inl ⟨rfl, by
       rcases f with f | ⟨k, hk, f⟩
       ·exact .inl f
       ·exact .inr ⟨k, by omega, f⟩⟩
     ·exact absurd (List.eq_nil_of_length_eq_zero (by omega)) hne
    ·exact fin (lo := h2.next) (x := h') (.inr ⟨h0, .inr ⟨h0, j, j1, j2, by rw [j3, zaF f2, fl], j4⟩⟩) g58 (Nat.le_refl _)
  ·obtain ⟨w, e, f⟩ := fe k s hk
   have hk' := (List.getElem?_eq_some_iff.1 hk).1
   rcases f with ⟨_, f⟩ | ⟨f, _⟩
   ·exact ⟨w, e, fin f g58 (Nat.le_refl _)⟩
   ·omega
end Go.Am

namespace Go.Am
open Go.Proofs

set_option maxRecDepth 100000
theorem zeF {h : H} {lo sz bytes : Nat} {v : V} {es : List (List V)} (e : List V) (g : Gl h lo sz v es) (hlo : lo ≤ h.next) (hs : ∀ a ∈ es, a.length = sz) (he : e.length = sz) (h1 : e.all V.one = true) (hsz : sz ≠ 0)
  (hb : (es.length + 1) * bytes ≤ 140737488355328) (hb2 : es.length + 1 ≤ 9223372036854775807) :
  ∃ v' d, zaG (h.push (.row e)).get (h.next + 1) sz bytes v (.sl h.next sz 0 1 (some 1)) = some (v', d) ∧ Gl ((h.push (.row e)).app d) lo sz v' (es ++ [e]) ∧ h.next ≤ ((h.push (.row e)).app d).next ∧
   (∀ x, x ∉ v.ids -> x < h.next -> ((h.push (.row e)).app d).get x = h.get x) ∧ (h.WF -> ((h.push (.row e)).app d).WF) ∧ ∀ i ∈ v'.ids, i ∈ v.ids ∨ h.next ≤ i := by
 have kp : ∀ x, x < h.next -> (h.push (.row e)).get x = h.get x := fun x hx => by rw [H.get_push, if_neg (by omega)]
 have g1' : Gl (h.push (.row e)) lo sz v es := g.keep (by simp) fun x hx => kp x (g.lo x hx).2
 have hx : zaB (h.push (.row e)).get sz (.sl h.next sz 0 1 (some 1)) = some (1, e) := by simp [zax, he, List.take_of_length_le (Nat.le_of_eq he)]
 obtain ⟨v', d, ea, gl, hn, hk, hw, hid⟩ := g1'.append2 (bytes := bytes) (by simp; omega) hs he hx h1 hsz hb hb2
 refine ⟨v', d, by simpa using ea, gl, by simp at hn; omega, fun x hx hlt => (hk x hx (by simp; omega)).trans (kp x hlt), fun w => hw (w.push _), fun i hi => ?_⟩
 rcases hid i hi with h | h
 ·exact .inl h
 ·simp at h; exact .inr (by omega)
structure Bx (h g : H) (row : List V) : Prop where
 wf : g.WF
 nb : h.next + 2 ≤ g.next
 base : ∀ x, x < h.next -> g.get x = h.get x
 x1 : g.get h.next = some (.row row)
 y1 : g.get (h.next + 1) = some (.row attZ)
theorem Bx.ge {h g : H} {row : List V} (b : Bx h g row) : Ge h g := ⟨by have := b.nb; omega, b.base⟩
end Go.Am

namespace Go.Am
open Go.Proofs Go.ChangeShapes Go.WideShapes

section
variable {H' : Type} {enc : TypeId × Value -> H'} {P : Program} {w : World} {base : Nat} {spare : Nat -> Bool} {held : Bool}
end

theorem zjs {k : IntKind} {B : Nat} (hk : ∀ n : Int, (Lit.int k n).wf = true -> 0 ≤ n ∧ n < (B : Int)) {v : V} (h : Lf.ok (.int k) v) : ∃ n : Nat, v = .int k (n : Nat) ∧ n < B := by
 obtain ⟨n, rfl, hn⟩ := h
 have := hk n hn
 exact ⟨n.toNat, by rw [Int.toNat_of_nonneg this.1], by omega⟩
theorem zng : ∀ n : Int, (Lit.int .u8 n).wf = true -> 0 ≤ n ∧ n < ((256 : Nat) : Int) := fun n h => by
 simp [Lit.wf, IntKind.min, IntKind.max, IntKind.bits, IntKind.signed] at h; omega
structure NAt (g : Nat -> Option O) (b B : Nat) (k : IntKind) (v : V) (l : List Nat) : Prop where
 sls : Sls g 1 v (l.map fun x : Nat => [V.int k (x : Nat)])
 cap : zcV v
 bulk : l.length * b ≤ reachBytes
 fit : ∀ x ∈ l, x < B
theorem NAt.mono {g g' : Nat -> Option O} {b B : Nat} {k : IntKind} {v : V} {l : List Nat} (n : NAt g b B k v l) (m : ∀ i o, g i = some o -> g' i = some o) : NAt g' b B k v l := ⟨n.sls.mono m, n.cap, n.bulk, n.fit⟩
structure AttFit (a : Att) : Prop where
 origin : (Lit.int .i64 a.origin).wf = true
 path : ∀ s ∈ a.path, (Lit.int .i64 s.kind).wf = true ∧ ∀ x ∈ s.ases, x < 4294967296
 next : a.next.length ≤ maxLen
 med : a.med < 4294967296
 pref : a.pref < 4294967296
 aggAS : a.aggAS < 4294967296
 aggId : a.aggId < 4294967296
 comms : ∀ x ∈ a.comms, x < 4294967296
 exts : ∀ x ∈ a.exts, x < 18446744073709551616
 larges : ∀ x ∈ a.larges, x.1 < 4294967296 ∧ x.2.1 < 4294967296 ∧ x.2.2 < 4294967296
 orig : a.orig < 4294967296
 clus : ∀ x ∈ a.clus, x < 4294967296
structure AttIn (g : Nat -> Option O) (a : Att) (vp vc vx vl vk : V) : Prop where
 at' : AttAt g a vp vc vx vl vk
 sz : AttSz a
 fit : AttFit a
 caps : zcV vp ∧ zcV vc ∧ zcV vx ∧ zcV vl ∧ zcV vk
theorem AttIn.mono {g g' : Nat -> Option O} {a : Att} {vp vc vx vl vk : V} (x : AttIn g a vp vc vx vl vk) (m : ∀ i o, g i = some o -> g' i = some o) : AttIn g' a vp vc vx vl vk := ⟨x.at'.mono m, x.sz, x.fit, x.caps⟩
end Go.Am
