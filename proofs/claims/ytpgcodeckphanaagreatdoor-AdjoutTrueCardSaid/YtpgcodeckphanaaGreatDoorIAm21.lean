/-
 AM, PART 21. A closed run of a call that asks nothing of the heap serves in every heap.
-/
import Derived.Test.YtpgcodeckphanaaGreatDoorIAm18
namespace Go.Am

variable {P : Program}
end Go.Am
