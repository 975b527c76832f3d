/-
  The heap's table of package variables is what the row lists (printed by program, wip/gtab.py).
-/
import Derived.Test.YtpgcodeckphanaaGreatDoorRows
import Derived.Test.YtpgcodeckphanaaGreatDoorIAm34
import Derived.KernelRfl
namespace Go.Proofs.YtpgcodeckphanaaGreatDoor
set_option maxRecDepth 100000
theorem glob_all : Am.zhe Tryz.prog Rows.paceFreeRow.laid Am.GT :=
  ⟨⟨"math/bits.deBruijn32tab", Rows.laid_math_bits_deBruijn32tab, 244, _, .head _, by kernel_rfl, by kernel_rfl, rfl, rfl⟩,
  ⟨"math/bits.deBruijn64tab", Rows.laid_math_bits_deBruijn64tab, 245, _, .tail _ (.head _), by kernel_rfl, by kernel_rfl, rfl, rfl⟩,
  ⟨"internal/strconv.uint64pow10", Rows.laid_internal_strconv_uint64pow10, 231, _, .tail _ (.tail _ (.head _)), by kernel_rfl, by kernel_rfl, rfl, rfl⟩,
  trivial⟩
theorem glob_ok {W : World} (hL : laidMetH Tryz.prog Rows.paceFreeRow.laid W) : Am.GlobOk W := Am.zpx hL rfl glob_all
end Go.Proofs.YtpgcodeckphanaaGreatDoor
