/-
 AM, PART 21. A closed run of a call that asks nothing of the heap serves in every heap.
-/
import Derived.Test.YtjahfjcfjnnnjaaGreatDoorYAm18
namespace Go.Am

variable {P : Program}
theorem zhF {tab : Bt Fr.SF8} (ht : tab.All (Fr.Tab8 P) 0 1) {N d : Nat} {f : FuncId} (e : zfl (Fr.runF8 tab N d f [] ⟨0, .nil⟩) = true) (h : H) : Pure P f [] h (.bool true) := by
 refine zeV rfl rfl (fun Q q => ?_) h
 unfold zfl at e
 split at e
 ·rename_i b h1 e1
  subst e
  exact Fr.runF8_ok ht N d f [] ⟨0, .nil⟩ _ _ e1 _ (q _)
 ·cases e
end Go.Am
