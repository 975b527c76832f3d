/-
  The heap's table of package variables is what the row lists (printed by program, wip/gtab.py).
-/
import Derived.Test.YtfbmffkgphgoaaaDoorRows
import Derived.Test.YtfbmffkgphgoaaaDoorAm34
import Derived.KernelRfl
namespace Go.Proofs.YtfbmffkgphgoaaaDoor
set_option maxRecDepth 100000
theorem glob_all : Am.globAll Tryd.prog Rows.commTextsUptoRow.laid Am.GT :=
  ⟨⟨"math/bits.deBruijn32tab", Rows.laid_math_bits_deBruijn32tab, 168, _, .head _, by kernel_rfl, by kernel_rfl, rfl, rfl⟩,
  ⟨"math/bits.deBruijn64tab", Rows.laid_math_bits_deBruijn64tab, 169, _, .tail _ (.head _), by kernel_rfl, by kernel_rfl, rfl, rfl⟩,
  ⟨"internal/strconv.uint64pow10", Rows.laid_internal_strconv_uint64pow10, 159, _, .tail _ (.tail _ (.head _)), by kernel_rfl, by kernel_rfl, rfl, rfl⟩,
  ⟨"strconv.ErrRange", Rows.laid_strconv_ErrRange, 72, _, .tail _ (.tail _ (.tail _ (.head _))), by kernel_rfl, by kernel_rfl, rfl, rfl⟩,
  ⟨"strconv.ErrSyntax", Rows.laid_strconv_ErrSyntax, 72, _, .tail _ (.tail _ (.tail _ (.tail _ (.head _)))), by kernel_rfl, by kernel_rfl, rfl, rfl⟩,
  trivial⟩
theorem glob_ok {W : World} (hL : laidMetH Tryd.prog Rows.commTextsUptoRow.laid W) : Am.GlobOk W := Am.globOk_of hL rfl glob_all
end Go.Proofs.YtfbmffkgphgoaaaDoor
