/-
 AM, PART 22. From the reading of arguments to the abstract heap: slices of flat elements become objects to be looked at.
-/
import Derived.Test.YtjahfjcfjnnnjaaGreatDoorYAm19
import Derived.Deep.Slices
import Derived.OpenShut
namespace Go.Am
open Go.ChangeShapes Go.WideShapes

def H.Ro (h : H) : Prop := ∀ i o, h.get i = some o -> o.own = false

theorem Rel.addro {W0 : World} {μ : Nat -> Pl} {h : H} {w : World} (r : Rel W0 μ h w) (ro : h.Ro) {cs : List V} {p : Pl} (hn : ORel W0 (upd μ h.next p) (h.push (.ro cs)) h.next w (.ro cs)) :
  Rel W0 (upd μ h.next p) (h.push (.ro cs)) w ∧ (h.push (.ro cs)).Ro ∧ Ext μ h (upd μ h.next p) (h.push (.ro cs)) := by
 have hk : h.get h.next = none := r.next _ (Nat.le_refl _)
 have x : Ext μ h (upd μ h.next p) (h.push (.ro cs)) := by have := Ext.push (μ := μ) hk (.ro cs) p; rwa [H.pushAt_next] at this
 have ro' : (h.push (.ro cs)).Ro := fun i o ho => by
  rw [H.get_push] at ho
  split at ho
  ·cases ho; rfl
  ·exact ro i o ho
 refine ⟨⟨r.glob, r.below, fun i hi => ?_, fun i o ho => ?_, fun i j oi oj _ hi _ hown => by rw [ro' i oi hi] at hown; cases hown⟩, ro', x⟩
 ·simp only [H.next_push] at hi
  rw [H.get_push, if_neg (by omega)]; exact r.next i (by omega)
 ·rw [H.get_push] at ho
  split at ho
  ·rename_i e; cases ho; subst e; exact hn
  ·rename_i e; exact (r.obj i o ho).keep x (zcc _ _ e) (Nat.le_refl _) rfl

theorem zhT {sz n : Nat} (hsz : 0 < sz) {f : Nat -> List Value} {at' : Nat -> Option Value} (hl : ∀ i, i < n -> (f i).length = sz) (hc : ∀ i, i < n -> ∀ j, j < sz -> at' (i * sz + j) = (f i)[j]?) : ∀ (k : Nat) (c : Value), (((List.range n).map f).flatten)[k]? = some c -> at' k = some c := by
 induction n with
 | zero => intro k c h; simp at h
 | succ n ih =>
  intro k c h
  rw [List.range_succ, List.map_append, List.flatten_append] at h
  have hlen : ((List.range n).map f).flatten.length = n * sz := by
   clear ih h hc
   induction n with
   | zero => simp
   | succ n ih2 => rw [List.range_succ, List.map_append, List.flatten_append, List.length_append, ih2 (fun i hi => hl i (by omega))]; simp [hl n (by omega), Nat.add_mul]
  rw [List.getElem?_append, hlen] at h
  split at h
  ·exact ih (fun i hi => hl i (by omega)) (fun i hi => hc i (by omega)) k c h
  ·rename_i hk
   simp at h
   have hj : k - n * sz < sz := by
    have := (List.getElem?_eq_some_iff.1 h).1
    rw [hl n (by omega)] at this; exact this
   have := hc n (by omega) (k - n * sz) hj
   rw [show n * sz + (k - n * sz) = k by omega] at this
   rw [this, h]

section
variable {H' : Type} {enc : TypeId × Value -> H'} {P : Program} {w : World} {base : Nat} {spare : Nat -> Bool} {held : Bool}

end
theorem Pure.calls {P : Program} {f : FuncId} {args : List V} {h : H} {v : V} (c : Pure P f args h v) {W : World} {μ : Nat -> Pl} (r : Rel W μ h W) {cargs : List Value} (hv : VRs μ h args cargs) :
  Calls P f cargs.toArray W fun e W' => ∃ cv, e = .returned cv ∧ VR μ h v cv ∧ Go.RowKit.Below W.heap.size W W' := by
 refine ((c (fun v' h' => v' = v ∧ h' = h) ⟨rfl, rfl⟩).2 W μ W cargs r hv).mono ?_
 rintro e W' ⟨v', cv, h', μ', he, ⟨rfl, rfl⟩, r', hv', x⟩
 refine ⟨cv, he, ?_, r'.below.toBelow⟩
 exact hv'.ext (fun i o ho => by
  obtain ⟨o', ho', a, b, c⟩ := x i o ho
  exact ⟨o, ho, rfl, Nat.le_refl _, fun _ => by rw [ho] at ho'; cases ho'; exact (c rfl).symm⟩)
end Go.Am
