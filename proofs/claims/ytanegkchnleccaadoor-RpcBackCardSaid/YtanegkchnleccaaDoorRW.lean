/-
  'works' answers true, by a run of its code.
-/
import Derived.Test.YtanegkchnleccaaDoorAm21
import Derived.Test.YtanegkchnleccaaDoorQwTab
import Derived.KernelRfl
namespace Go.Am
open Go.Proofs
theorem works_run : saysTrue (Fr.runF8 Fr.q.tab 100000 60 8 [] ⟨0, .nil⟩) = true := by kernel_rfl
theorem works_ct (h : H) : Pure Tryd.prog 8 [] h (.bool true) := pure_true8 Fr.q.tab_ok works_run h
end Go.Am
