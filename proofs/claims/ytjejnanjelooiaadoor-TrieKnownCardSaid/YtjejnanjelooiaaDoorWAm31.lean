/-
  AM, PART 31. A drawn region with calls that look at no heap.
-/
import Derived.Test.YtjejnanjelooiaaDoorWAm30
namespace Go.Am

variable {P : Program}
def plainOf (l : List (Nat × (List V → Option V))) : Plains := fun k => l.lookup k
@[simp] theorem repS_op (L : Plains) (d : Option Nat) (g : Option (Nat × Bool)) (i : I) : repS L ⟨d, g, .op i⟩ = ⟨d, g, .op i⟩ := _root_.id rfl
@[simp] theorem repS_slot (L : Plains) (d : Option Nat) (g : Option (Nat × Bool)) (k : Nat) (args : List A) : repS L ⟨d, g, .call (.t k) args⟩ = ⟨d, g, .call (.t k) args⟩ := _root_.id rfl
@[simp] theorem repS_call (l : List (Nat × (List V → Option V))) (d : Option Nat) (g : Option (Nat × Bool)) (k : Nat) (args : List A) : repS (plainOf l) ⟨d, g, .call (.c (.func (.func k) [] [])) args⟩ = match l.lookup k with | some fn => ⟨d, g, .op (.pcall k fn args)⟩ | none => ⟨d, g, .call (.c (.func (.func k) [] [])) args⟩ := _root_.id rfl
end Go.Am
