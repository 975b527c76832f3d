/-
  A world in which the listed package variables lie as the program's text lays them: the witness of the rows (printed by program, wip/laid.py).
-/
import Derived.Test.YtfbmffkgphgoaaaDoorRows
import Derived.Deep.DeepLaidRun
import Derived.Deep.DeepHandedRow
import Derived.KernelRfl
namespace Go.Proofs.YtfbmffkgphgoaaaDoor

mutual
def litCells : DataW Unit → List Value
  | .lit (.int k n) => [.int k n]
  | .agg ps => litCellsAll ps
  | _ => []
def litCellsAll : List (DataW Unit) → List Value
  | [] => []
  | d :: r => litCells d ++ litCellsAll r
end
def layC (cs : List Value) : Obj → Obj
  | .cells _ t fz => .cells cs.toArray t fz
  | o => o
noncomputable def lowB : Nat := (World.holding Tryd.prog default ⟨#[], #[], []⟩).heap.size
noncomputable def laidWorld (os : Os) : World :=
  let w0 := World.holding Tryd.prog os ⟨#[], #[], []⟩
  { w0 with heap := (((w0.heap.modify 4 (layC (litCells Rows.laid_math_bits_deBruijn32tab))).modify 5 (layC (litCells Rows.laid_math_bits_deBruijn64tab))).modify 3 (layC (litCells Rows.laid_internal_strconv_uint64pow10))) }
theorem commSetsRow_met (os : Os) (args : Array Value) : laidMet Tryd.prog Rows.commSetsRow.laid ((laidWorld os).forCall (fun _ _ => 0) ⟨#[], args, []⟩).memory :=
  laidMet_of_run3 8 (by kernel_rfl) (by kernel_rfl) (by kernel_rfl)
end Go.Proofs.YtfbmffkgphgoaaaDoor
