/-
 AM, PART 34. Listed package variables: what a row says of them is what the heap's table says.
-/
import Derived.Test.YtpgcodeckphanaaGreatDoorIAm33
import Derived.LaidLaws
namespace Go.Am
open Go.ChangeShapes Go.WideShapes

variable {P : Program} {W : World}

theorem zkI : ∀ {laid : List (String × DataW Unit)} {ps : List MemPlace}, DataW.LaidVars P W laid ps -> ∀ {n : String} {d : DataW Unit}, (n, d) ∈ laid ->
  ∃ g t cs fuel p, P.globalNamed n = some g ∧ (P.globals[g]?).map (·.type) = some t ∧ W.var? P n = some cs ∧ DataW.trod (fun _ => ()) P W 0 (fun _ => true) false fuel t cs.toList = some (d, p)
 | [], _, _, _, _, hm => by simp at hm
 | (n0, d0) :: r, _, ⟨g, t, cs, fuel, p, q, h1, h2, h3, h4, h5, _⟩, n, d, hm => by
  rcases List.mem_cons.1 hm with e | hm
  ·cases e
   exact ⟨g, t, cs, fuel, p, h1, h2, h3, h4⟩
  ·exact zkI h5 hm

def zmW (P : Program) (laid : List (String × DataW Unit)) (g : Nat) (vs : List V) : Prop :=
 ∃ (n : String) (d : DataW Unit) (t : TypeId) (ls : List Lf), (n, d) ∈ laid ∧ P.globalNamed n = some g ∧ (P.globals[g]?).map (·.type) = some t ∧ zdV P 6 t = some ls ∧ zhp d = vs
def zhe (P : Program) (laid : List (String × DataW Unit)) : List (Nat × List V) -> Prop
 | [] => True
 | x :: r => zmW P laid x.1 x.2 ∧ zhe P laid r
theorem zdl {laid : List (String × DataW Unit)} : ∀ {l : List (Nat × List V)}, zhe P laid l -> ∀ {g : Nat} {cs : List V}, l.lookup g = some cs -> zmW P laid g cs
 | [], _, g, cs, h => by simp at h
 | (g0, c0) :: r, ⟨h1, h2⟩, g, cs, h => by
  rw [List.lookup_cons] at h
  split at h
  ·rename_i e
   rw [eq_of_beq e]
   cases h
   exact h1
  ·exact zdl h2 h
theorem zpx {laid : List (String × DataW Unit)} (hL : laidMetH P laid W) (hn : (laid.filter fun x => x.2.handleName?.isSome) = []) (h : zhe P laid GT) : GlobOk W := by
 unfold laidMetH at hL
 rw [hn] at hL
 obtain ⟨ps, hv, _⟩ := hL
 intro g vs hg
 obtain ⟨n, d, t, ls, hm, h1, h2, h3, rfl⟩ := zdl h hg
 obtain ⟨g', t', cs, fuel, p, e1, e2, e3, e4⟩ := zkI hv hm
 rw [h1] at e1
 cases e1
 rw [h2] at e2
 cases e2
 obtain ⟨vs, k, r, e5⟩ := zfM 6 t ls h3 fuel cs.toList _ e4
 have hw : ∃ u fz, W.heap[g]? = some (.cells cs u fz) := by
  unfold World.var? at e3
  rw [h1, Option.bind_some] at e3
  split at e3
  ·rename_i a b c hh
   simp only [Option.some.injEq] at e3
   subst e3
   exact ⟨b, c, hh⟩
  ·cases e3
 obtain ⟨u, fz, hh⟩ := hw
 refine ⟨(Array.getElem?_eq_some_iff.1 hh).1, fun j v hj => ?_⟩
 rw [e5] at hj
 obtain ⟨c, hc, hr⟩ := (r (fun _ => ⟨0, 0, 0⟩) ⟨0, fun _ => none⟩).get hj
 refine ⟨c, ?_, fun μ h => ?_⟩
 ·have := cell_of_row W g j cs u fz hh
  rw [this]
  simpa using hc
 ·obtain ⟨c', hc', hr'⟩ := (r μ h).get hj
  rw [hc] at hc'
  cases hc'
  exact hr'
end Go.Am
