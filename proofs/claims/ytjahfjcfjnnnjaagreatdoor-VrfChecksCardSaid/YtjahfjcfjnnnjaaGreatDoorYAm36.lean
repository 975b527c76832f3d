/-
 AM, PART 36. A fast closed run that knows some calls' answers beforehand (each shown by a run of its own).
-/
import Derived.Test.YtjahfjcfjnnnjaaGreatDoorYAm21
namespace Go.Am
variable {P : Program}
namespace Fr

abbrev znb := List (Nat × List V × V)
def KnownOk (P : Program) (l : znb) : Prop := ∀ x ∈ l, ∀ h, Pure P x.1 x.2.1 h x.2.2
theorem KnownOk.nil : KnownOk P [] := fun _ h => by cases h
theorem KnownOk.cons {k : Nat} {a : List V} {v : V} {l : znb} (c : ∀ h, Pure P k a h v) (ok : KnownOk P l) : KnownOk P ((k, a, v) :: l) := fun x hx => by
 rcases List.mem_cons.1 hx with rfl | hx
 ·exact c
 ·exact ok x hx

end Fr
end Go.Am
