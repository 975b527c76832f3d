/-
  A world in which the listed package variables lie as the program's text lays them: the witness of the rows (printed by program, wip/laid.py).
-/
import Derived.Test.YtpgcodeckphanaaGreatDoorRows
import Derived.Deep.DeepLaidRun
import Derived.Deep.DeepHandedRow
import Derived.KernelRfl
namespace Go.Proofs.YtpgcodeckphanaaGreatDoor

mutual
def litCells : DataW Unit → List Value
  | .lit (.int k n) => [.int k n]
  | .agg ps => litCellsAll ps
  | _ => []
def litCellsAll : List (DataW Unit) → List Value
  | [] => []
  | d :: r => litCells d ++ litCellsAll r
end
def layC (cs : List Value) : Obj → Obj
  | .cells _ t fz => .cells cs.toArray t fz
  | o => o
noncomputable def lowB : Nat := (World.holding Tryz.prog default ⟨#[], #[], []⟩).heap.size
noncomputable def laidWorld (os : Os) : World :=
  let w0 := World.holding Tryz.prog os ⟨#[.cells #[.string ⟨#[118, 97, 108, 117, 101, 32, 111, 117, 116, 32, 111, 102, 32, 114, 97, 110, 103, 101]⟩] 242, .cells #[.string ⟨#[105, 110, 118, 97, 108, 105, 100, 32, 115, 121, 110, 116, 97, 120]⟩] 242], #[], []⟩
  { w0 with heap := (((((((w0.heap.modify 6 (layC (litCells Rows.laid_math_bits_deBruijn32tab))).modify 7 (layC (litCells Rows.laid_math_bits_deBruijn64tab))).modify 3 (layC (litCells Rows.laid_internal_strconv_uint64pow10))).modify 5 (layC (litCells Rows.laid_unicode_utf8_acceptRanges))).modify 2 (layC [.iface 240 (.pointer (some ⟨lowB + 0, 0, none⟩))])).modify 1 (layC [.iface 240 (.pointer (some ⟨lowB + 1, 0, none⟩))])).modify 4 (layC (litCells Rows.laid_unicode_utf8_first))) }
theorem adjoutTrueRow_met (os : Os) (args : Array Value) : laidMet Tryz.prog Rows.adjoutTrueRow.laid ((laidWorld os).forCall (fun _ _ => 0) ⟨#[], args, []⟩).memory :=
  laidMet_of_run3 8 (by kernel_rfl) (by kernel_rfl) (by kernel_rfl)
end Go.Proofs.YtpgcodeckphanaaGreatDoor
