/-
 THE SEAT'S FUNCTIONS WITH RANGES OVER FUNCTIONS, printed by program (wip/gencoder.py) off the loaded program; each equation is the kernel's.
-/
import Derived.Test.YtpgcodeckphanaaGreatDoorIAmR
import Derived.Test.YtpgcodeckphanaaGreatDoorProg
import Derived.KernelRfl
namespace Go.Am
open Go.Proofs (Tryz.prog)

end Go.Am
