/-
  'NlriKnown' answers true, by a run of its code.
-/
import Derived.Test.YtcokdbloajhapaaGreatDoorAm21
import Derived.Test.YtcokdbloajhapaaGreatDoorKwTab
import Derived.KernelRfl
namespace Go.Am
open Go.Proofs

theorem known_run : saysTrue (Fr.runF8 Fr.q.tab 100000 60 5 [] ⟨0, .nil⟩) = true := by kernel_rfl
theorem known_ct (h : H) : Pure Tryz.prog 5 [] h (.bool true) := pure_true8 Fr.q.tab_ok known_run h
end Go.Am
