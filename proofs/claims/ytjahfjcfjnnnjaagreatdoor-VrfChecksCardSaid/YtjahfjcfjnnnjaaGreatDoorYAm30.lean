/-
 AM, PART 30. In a drawn region: a call with a plain result (zgx); what lists told by the next names are (zdE).
-/
import Derived.Test.YtjahfjcfjnnnjaaGreatDoorYAm29
namespace Go.Am

variable {P : Program}
theorem zgx {f : FuncId} {first cap args : List V} {h : H} {get : Nat -> Option O} {k e : Nat} {v : V} (hv : v.ids = []) (hk : k + room ≤ e) (hn : h.next ≤ k) (hg : ∀ i, i < h.next -> get i = h.get i) (c : ∀ h2, Ge h h2 -> Pure P f (first ++ args ++ cap) h2 v) :
  zeO P (.func (.func f) first cap) args get k e v (List.range h.next) [] :=
 zdN (its := []) (mk := fun _ => v) (fun σ _ => V.ren_id v (fun i hi => by rw [hv] at hi; cases hi)) (fun _ i hi => by rw [hv] at hi; cases hi) (fun _ hi => by cases hi) (by simp [room]) hk hn hg
  (fun h2 g => c h2 g _ ⟨Ge.refl _, [], rfl, rfl, List.nodup_nil⟩)

theorem zmc {h : H} {lo sz k : Nat} {es : List (List V)} (hsz : sz ≠ 0) (hs : ∀ e ∈ es, e.length = sz) (h1 : lo ≤ k) (h2 : k < h.next) (hg : ∀ i (hi : i < (glO sz es.flatten).length), h.get (k + i) = some (glO sz es.flatten)[i]) : Gl h lo sz (glV k es.flatten es.length) es := by
 have := zo5 (get := h.get) (nx := h.next) h1 h2 hsz hs (fun hne => by
  have hf : es.flatten ≠ [] := by
   intro e
   cases es with
   | nil => exact hne rfl
   | cons a l =>
    have ha := hs a (by simp)
    simp only [List.flatten_cons, List.append_eq_nil_iff] at e
    rw [e.1] at ha
    exact hsz ha.symm
  have ho : glO sz es.flatten = [.grow sz es.flatten] := by simp only [glO, hf, if_false]
  have := hg 0 (by simp [ho])
  simpa [ho] using this)
 exact this
@[simp] theorem znR (k : Nat) : names k [] = [] := rfl
theorem zdE {h H : H} {lo : Nat} : ∀ (its : List It) (kk : Nat), (∀ i ∈ its, ItOk h i) -> lo ≤ kk -> kk + (zax its).length < H.next -> (∀ i (hi : i < (zax its).length), H.get (kk + i) = some (zax its)[i]) -> Made H lo its (zaX kk its)
 | [], kk, _, _, _, _ => rfl
 | i :: r, kk, hi, h1, h2, h3 => by
  have hok := hi i (by simp)
  cases hf : i.fr with
  | false =>
   have e2 : zax (i :: r) = zax r := by simp [zax, hf]
   have e3 : zaX kk (i :: r) = i.old :: zaX kk r := by simp [zaX, hf]
   rw [e2] at h2
   refine ⟨_, _, e3, by rw [if_neg (by simp [hf])], zdE r kk (fun x hx => hi x (by simp [hx])) h1 h2 (fun j hj => ?_)⟩
   have := h3 j (by rw [e2]; exact hj)
   simpa [e2] using this
  | true =>
   have e2 : zax (i :: r) = glO i.sz i.es.flatten ++ zax r := by simp [zax, hf]
   have e3 : zaX kk (i :: r) = glV kk i.es.flatten i.es.length :: zaX (kk + (glO i.sz i.es.flatten).length) r := by simp [zaX, hf]
   rw [e2, List.length_append] at h2
   refine ⟨_, _, e3, ?_, zdE r _ (fun x hx => hi x (by simp [hx])) (by omega) (by omega) (fun j hj => ?_)⟩
   ·rw [if_pos hf]
    refine zmc (hok.sz hf) (hok.es hf) h1 (by omega) (fun j hj => ?_)
    have := h3 j (by rw [e2, List.length_append]; omega)
    rw [this]
    simp only [e2]
    rw [List.getElem_append_left hj]
   ·have := h3 ((glO i.sz i.es.flatten).length + j) (by rw [e2, List.length_append]; omega)
    rw [Nat.add_assoc, this]
    simp only [e2]
    rw [List.getElem_append_right (by omega)]
    simp
end Go.Am
