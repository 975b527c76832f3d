/-
  AM, PART 21. A closed run of a call that asks nothing of the heap serves in every heap.
-/
import Derived.Test.YtapokdcbhpdceaaAm18
import Derived.Test.YtapokdcbhpdceaaAm20
namespace Go.Am

variable {P : Program}
theorem pure_frame {f : FuncId} {args : List V} {v : V} (ha : V.idss args = []) (hv : v.ids = []) (c : ∀ Q : V → H → Prop, (∀ h1, Q v h1) → Acalls P f args ⟨0, fun _ => none⟩ Q) (h : H) : Pure P f args h v := by
  intro Q q
  have S : Small ⟨0, fun _ => none⟩ h.get := ⟨fun _ _ => rfl, fun i o e => (by cases e), fun i o e => (by cases e)⟩
  have ho : v.opens = [] := List.eq_nil_iff_forall_not_mem.2 fun i hi => by have := V.opens_ids v i hi; rw [hv] at this; cases this
  have fr := Acalls.frame (f := f) (args := args) (Q := fun v' os => v' = v ∧ os = []) S (by rw [ha]; simp) (c _ fun h1 => ⟨[], ⟨List.nodup_nil, by simp, by rw [hv]; simp, by rw [ho]; simp⟩, by rw [V.ren_id v (by rw [hv]; simp)], rfl⟩)
  refine fr.mono ?_
  rintro v' h' ⟨os, ⟨rfl, rfl⟩, rfl⟩
  exact q
/-- A closed call that answers true, in any heap. -/
theorem pure_true8 {tab : Bt Fr.SF8} (ht : tab.All (Fr.Tab8 P) 0 1) {N d : Nat} {f : FuncId} (e : saysTrue (Fr.runF8 tab N d f [] ⟨0, .nil⟩) = true) (h : H) : Pure P f [] h (.bool true) := by
  refine pure_frame rfl rfl (fun Q q => ?_) h
  unfold saysTrue at e
  split at e
  · rename_i b h1 e1
    subst e
    exact Fr.runF8_ok ht N d f [] ⟨0, .nil⟩ _ _ e1 _ (q _)
  · cases e
end Go.Am
