/-
 AM, PART 27. Two lists that grow side by side; ways that meet again; 'a || x.f' without a split.
-/
import Derived.Test.YtjahfjcfjnnnjaaGreatDoorYAm26
namespace Go.Am

variable {P : Program}
theorem Gl.append2 {h : H} {lo sz bytes : Nat} {v x : V} {es : List (List V)} {e : List V} (g : Gl h lo sz v es) (hlo : lo ≤ h.next) (hs : ∀ a ∈ es, a.length = sz) (he : e.length = sz) (hx : zaC h.get sz x = some (1, e)) (h1 : e.all V.one = true) (hsz : sz ≠ 0)
  (hb : (es.length + 1) * bytes ≤ 140737488355328) (hb2 : es.length + 1 ≤ 9223372036854775807) :
  ∃ v' d, zay h.get h.next sz bytes v x = some (v', d) ∧ Gl (h.app d) lo sz v' (es ++ [e]) ∧ h.next ≤ (h.app d).next ∧ (∀ i, i ∉ v.ids -> i < h.next -> (h.app d).get i = h.get i) ∧ (h.WF -> (h.app d).WF) ∧ ∀ i ∈ v'.ids, i ∈ v.ids ∨ h.next ≤ i := by
 rcases g with ⟨rfl, rfl⟩ | ⟨hne, j, g1, g2, rfl, g3⟩
 ·refine ⟨_, _, zbm hx (by omega) h1 hsz (by simpa using hb) (by omega), .inr ⟨by simp, h.next, hlo, by simp, by simp [he], by simp⟩, by simp, fun i _ hi => ?_, fun w => w.push _, by simp [V.ids]⟩
  rw [zci, H.get_push, if_neg (by omega)]
 ·have hl := zaN hs
  refine ⟨_, _, zbw g3 rfl hl.symm hx (by omega) h1 hsz hb hb2, .inr ⟨by simp, j, g1, by simpa using g2, by simp [he], by simp⟩, by simp, fun i hi _ => ?_, fun w => w.set g2 _, by simp [V.ids]⟩
  rw [zer, H.get_set, if_neg (by simpa [V.ids] using hi)]
theorem zb1 {K : Tm -> H -> Prop} {w : Bool} {d : Option Nat} {x : X} {is : List SI} {t : Tm} {h : H} {v : V} (J : Tm -> H -> Prop) (ha : ∀ K' : Tm -> H -> Prop, (∀ t' h', J t' h' -> K' t' h') -> zbS P K' w d x is t h v) (k : ∀ t' h', J t' h' -> K t' h') : zbS P K w d x is t h v := ha K k
end Go.Am
