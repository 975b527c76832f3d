/-
 AM, PART 25. The walk of a drawn region by simp (calls in it that make objects); 'a && b.f' without a split.
-/
import Derived.Test.YtjahfjcfjnnnjaaGreatDoorYAm24
namespace Go.Am

variable {P : Program}
def dopK (P : Program) (K : Tm -> H -> Prop) (fr : List (Nat × Nat)) (e0 e1 : Nat) (d : Option Nat) (ft : List Nat) (is : List SI) (t : Tm) (get : Nat -> Option O) (evs : List Ev) (r : Option (V × D)) : Prop :=
 match r with
 | some (v, dd) => Dwp P K fr e0 e1 is (t.put d v) (upds get (dd.ups (e0 + evs.length * room))) (evs ++ [⟨ft, dd.ups (e0 + evs.length * room)⟩])
 | none => False
def zkm (P : Program) (K : Tm -> H -> Prop) (fr : List (Nat × Nat)) (e0 e1 : Nat) (d : Option Nat) (f : V) (args : List V) (is : List SI) (t : Tm) (get : Nat -> Option O) (evs : List Ev) : Prop :=
 ∃ v rd os, zeO P f args get (e0 + evs.length * room) e1 v rd os ∧
  Dwp P K fr e0 e1 is (t.put d v) (upds get (names (e0 + evs.length * room) os)) (evs ++ [⟨rd, names (e0 + evs.length * room) os⟩])
section
variable (K : Tm -> H -> Prop) (fr : List (Nat × Nat)) (e0 e1 : Nat) (d : Option Nat) (is : List SI) (t : Tm) (get : Nat -> Option O) (evs : List Ev)
@[simp] theorem znp (ft : List Nat) (v : V) (dd : D) : dopK P K fr e0 e1 d ft is t get evs (some (v, dd)) = Dwp P K fr e0 e1 is (t.put d v) (upds get (dd.ups (e0 + evs.length * room))) (evs ++ [⟨ft, dd.ups (e0 + evs.length * room)⟩]) := _root_.id rfl
@[simp] theorem zpk (i : I) : Dwp P K fr e0 e1 (⟨d, none, .op i⟩ :: is) t get evs = dopK P K fr e0 e1 d (i.foot t) is t get evs (exec i t get (e0 + evs.length * room)) := by
 simp only [Dwp, zaw, dopK]
 cases exec i t get (e0 + evs.length * room) <;> rfl
@[simp] theorem zoQ (f : A) (args : List A) : Dwp P K fr e0 e1 (⟨d, none, .call f args⟩ :: is) t get evs = zkm P K fr e0 e1 d (f.ev t) (args.map (·.ev t)) is t get evs := by
 simp only [Dwp, zaw, zkm]
@[simp] theorem zoD (k : Nat) : D.keep.ups k = [] := _root_.id rfl
@[simp] theorem zpa (k i : Nat) (o : O) : (D.set i o).ups k = [(i, o)] := _root_.id rfl
@[simp] theorem zoB (k : Nat) (o : O) : (D.push o).ups k = [(k, o)] := _root_.id rfl
@[simp] theorem zoi : upds get [] = get := _root_.id rfl
theorem zj4 (k : Nat) (o : O) (i : Nat) : upds get [(k, o)] i = if i = k then some o else get i := _root_.id rfl
@[simp] theorem zkM (k : Nat) (o : O) (i n : Nat) : zaf (upds get [(k, o)]) i n = if i = k then (if o.len = n then some o.cells else none) else zaf get i n := by
 unfold zaf
 rw [zj4]
 by_cases e : i = k <;> simp [e]
end
def glV (k : Nat) (l : List V) (len : Nat) : V := if l = [] then .nilsl else .sl k l.length 0 len none
def glO (sz : Nat) (l : List V) : List O := if l = [] then [] else [.grow sz l]
theorem zo5 {get : Nat -> Option O} {nx lo k sz : Nat} {es : List (List V)} (h1 : lo ≤ k) (h2 : k < nx) (hsz : sz ≠ 0) (hs : ∀ e ∈ es, e.length = sz) (hg : es ≠ [] -> get k = some (.grow sz es.flatten)) : Gl ⟨nx, get⟩ lo sz (glV k es.flatten es.length) es := by
 have hf : es.flatten = [] ↔ es = [] := by
  constructor
  ·intro h
   cases es with
   | nil => rfl
   | cons a l =>
    have ha := hs a (by simp)
    simp only [List.flatten_cons, List.append_eq_nil_iff] at h
    rw [h.1] at ha
    exact absurd ha.symm hsz
  ·rintro rfl; rfl
 by_cases e : es = []
 ·left; simp [e, glV]
 ·right
  exact ⟨e, k, h1, h2, by simp only [glV, hf, e, if_false], hg e⟩
end Go.Am
