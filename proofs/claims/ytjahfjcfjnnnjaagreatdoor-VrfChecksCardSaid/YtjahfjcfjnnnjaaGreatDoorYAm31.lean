/-
 AM, PART 31. A drawn region with calls that look at no heap.
-/
import Derived.Test.YtjahfjcfjnnnjaaGreatDoorYAm30
namespace Go.Am

variable {P : Program}
def zdc (l : List (Nat × (List V -> Option V))) : Plains := fun k => l.lookup k
theorem zhJ {l : List (Nat × (List V -> Option V))} (hl : ∀ p ∈ l, ∀ vals v, p.2 vals = some v -> ∀ h, Acalls P p.1 vals h fun u h' => u = v ∧ h' = h) : (zdc l).ok P := by
 intro k fn hk vals v hv h
 have : (k, fn) ∈ l := by
  unfold zdc at hk
  clear hl
  induction l with
  | nil => cases hk
  | cons p l ih =>
   obtain ⟨k', fn'⟩ := p
   rw [List.lookup_cons] at hk
   split at hk
   ·rename_i e
    have : k = k' := by simpa using e
    cases hk; subst this; simp
   ·exact List.mem_cons_of_mem _ (ih hk)
 exact hl _ this vals v hv h
theorem zhM {fr : List (Nat × Nat)} {Q : Exit -> Tm -> H -> Prop} {ops : List SI} {t : Tm} {h : H} (l : List (Nat × (List V -> Option V))) (hl : ∀ p ∈ l, ∀ vals v, p.2 vals = some v -> ∀ h, Acalls P p.1 vals h fun u h' => u = v ∧ h' = h)
  (hfr : (fr.all fun p => ((ops.map (repS (zdc l))).getD p.1 default).cls == 0 || ((ops.map (repS (zdc l))).getD p.2 default).cls == 0) = true) (c : Swp P (Q .normal) (ops.map (repS (zdc l))) t h) : Cwp P (.dreg fr ops) Q t h :=
 .inr (.inr (.inl ⟨zdc l, zhJ hl, fun p hp => by
  have := List.all_eq_true.1 hfr p hp
  simpa using this, c⟩))
@[simp] theorem zo2 (L : Plains) (d : Option Nat) (g : Option (Nat × Bool)) (i : I) : repS L ⟨d, g, .op i⟩ = ⟨d, g, .op i⟩ := _root_.id rfl
@[simp] theorem znl (L : Plains) (d : Option Nat) (g : Option (Nat × Bool)) (k : Nat) (args : List A) : repS L ⟨d, g, .call (.t k) args⟩ = ⟨d, g, .call (.t k) args⟩ := _root_.id rfl
@[simp] theorem znM (l : List (Nat × (List V -> Option V))) (d : Option Nat) (g : Option (Nat × Bool)) (k : Nat) (args : List A) : repS (zdc l) ⟨d, g, .call (.c (.func (.func k) [] [])) args⟩ = match l.lookup k with | some fn => ⟨d, g, .op (.pcall k fn args)⟩ | none => ⟨d, g, .call (.c (.func (.func k) [] [])) args⟩ := _root_.id rfl
end Go.Am
