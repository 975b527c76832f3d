/-
  AM, PART 22. From the reading of arguments to the abstract heap: slices of flat elements become objects to be looked at.
-/
import Derived.Test.YtjejnanjelooiaaDoorWAm19
import Derived.Deep.Slices
import Derived.OpenShut
namespace Go.Am
open Go.ChangeShapes Go.WideShapes

section
variable {H' : Type} {enc : TypeId × Value → H'} {P : Program} {w : World} {base : Nat} {spare : Nat → Bool} {held : Bool}

end
/-- A pure call, over a world. -/
theorem Pure.calls {P : Program} {f : FuncId} {args : List V} {h : H} {v : V} (c : Pure P f args h v) {W : World} {μ : Nat → Pl} (r : Rel W μ h W) {cargs : List Value} (hv : VRs μ h args cargs) :
    Calls P f cargs.toArray W fun e W' => ∃ cv, e = .returned cv ∧ VR μ h v cv ∧ Go.RowKit.Below W.heap.size W W' := by
  refine ((c (fun v' h' => v' = v ∧ h' = h) ⟨rfl, rfl⟩).2 W μ W cargs r hv).mono ?_
  rintro e W' ⟨v', cv, h', μ', he, ⟨rfl, rfl⟩, r', hv', x⟩
  refine ⟨cv, he, ?_, r'.below.toBelow⟩
  exact hv'.ext (fun i o ho => by
    obtain ⟨o', ho', a, b, c⟩ := x i o ho
    exact ⟨o, ho, rfl, Nat.le_refl _, fun _ => by rw [ho] at ho'; cases ho'; exact (c rfl).symm⟩)
end Go.Am
