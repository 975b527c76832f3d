/-
 AM, PART 47. maps.Clone, by the shelf's contract.
-/
import Derived.Test.YtpgcodeckphanaaGreatDoorHAm20
import Derived.Test.YtpgcodeckphanaaGreatDoorHAm6b
import Derived.Shelf.SlMaps.Clone
namespace Go.Am
open Go.Proofs Go.Shelf

variable {P : Program} {ρ : Ren}
end Go.Am
