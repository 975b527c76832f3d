/-
  The heap's table of package variables is what the row lists (printed by program, wip/gtab.py).
-/
import Derived.Test.YtjahfjcfjnnnjaaGreatDoorRows
import Derived.Test.YtjahfjcfjnnnjaaGreatDoorYAm34
import Derived.KernelRfl
namespace Go.Proofs.YtjahfjcfjnnnjaaGreatDoor
set_option maxRecDepth 100000
theorem glob_all : Am.zgb Tryz.prog Rows.vrfApartRow.laid Am.GT :=
  ⟨⟨"math/bits.deBruijn32tab", Rows.laid_math_bits_deBruijn32tab, 247, _, .head _, by kernel_rfl, by kernel_rfl, rfl, rfl⟩,
  ⟨"math/bits.deBruijn64tab", Rows.laid_math_bits_deBruijn64tab, 248, _, .tail _ (.head _), by kernel_rfl, by kernel_rfl, rfl, rfl⟩,
  ⟨"internal/strconv.uint64pow10", Rows.laid_internal_strconv_uint64pow10, 230, _, .tail _ (.tail _ (.head _)), by kernel_rfl, by kernel_rfl, rfl, rfl⟩,
  trivial⟩
theorem glob_ok {W : World} (hL : laidMetH Tryz.prog Rows.vrfApartRow.laid W) : Am.GlobOk W := Am.znF hL rfl glob_all
end Go.Proofs.YtjahfjcfjnnnjaaGreatDoor
