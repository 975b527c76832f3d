/-
  AM, PART 30. In a drawn region: a call with a plain result (callEv_pure); what lists told by the next names are (canon_made).
-/
import Derived.Test.YtjejnanjelooiaaDoorQAm29
namespace Go.Am

variable {P : Program}
theorem callEv_pure {f : FuncId} {first cap args : List V} {h : H} {get : Nat → Option O} {k e : Nat} {v : V} (hv : v.ids = []) (hk : k + room ≤ e) (hn : h.next ≤ k) (hg : ∀ i, i < h.next → get i = h.get i) (c : ∀ h2, Ge h h2 → Pure P f (first ++ args ++ cap) h2 v) :
    callEv P (.func (.func f) first cap) args get k e v (List.range h.next) [] :=
  callEv_lists (its := []) (mk := fun _ => v) (fun σ _ => V.ren_id v (fun i hi => by rw [hv] at hi; cases hi)) (fun _ i hi => by rw [hv] at hi; cases hi) (fun _ hi => by cases hi) (by simp [room]) hk hn hg
    (fun h2 g => c h2 g _ ⟨Ge.refl _, [], rfl, rfl, List.nodup_nil⟩)

theorem glV_gl1 {h : H} {lo sz k : Nat} {es : List (List V)} (hsz : sz ≠ 0) (hs : ∀ e ∈ es, e.length = sz) (h1 : lo ≤ k) (h2 : k < h.next) (hg : ∀ i (hi : i < (glO sz es.flatten).length), h.get (k + i) = some (glO sz es.flatten)[i]) : Gl h lo sz (glV k es.flatten es.length) es := by
  have := gl_of (get := h.get) (nx := h.next) h1 h2 hsz hs (fun hne => by
    have hf : es.flatten ≠ [] := by
      intro e
      cases es with
      | nil => exact hne rfl
      | cons a l =>
        have ha := hs a (by simp)
        simp only [List.flatten_cons, List.append_eq_nil_iff] at e
        rw [e.1] at ha
        exact hsz ha.symm
    have ho : glO sz es.flatten = [.grow sz es.flatten] := by simp only [glO, hf, if_false]
    have := hg 0 (by simp [ho])
    simpa [ho] using this)
  exact this
@[simp] theorem names_nil (k : Nat) : names k [] = [] := rfl
theorem names_get2 {get : Nat → Option O} : ∀ {os : List O} {k i : Nat}, upds get (names k os) i = if k ≤ i ∧ i < k + os.length then os[i - k]? else get i
  | [], k, i => by rw [if_neg (by simp only [List.length_nil]; omega)]; rfl
  | o :: os, k, i => by
    have ih := @names_get2 get os (k + 1) i
    have : upds get (names k (o :: os)) i = if i = k then some o else upds get (names (k + 1) os) i := rfl
    rw [this, ih, List.length_cons]
    by_cases e : i = k
    · subst e; simp
    · rw [if_neg e]
      by_cases h1 : k + 1 ≤ i ∧ i < k + 1 + os.length
      · rw [if_pos h1, if_pos (by omega), show i - k = (i - (k + 1)) + 1 by omega, List.getElem?_cons_succ]
      · rw [if_neg h1, if_neg (by omega)]
theorem canon_made {h H : H} {lo : Nat} : ∀ (its : List It) (kk : Nat), (∀ i ∈ its, ItOk h i) → lo ≤ kk → kk + (canonO its).length < H.next → (∀ i (hi : i < (canonO its).length), H.get (kk + i) = some (canonO its)[i]) → Made H lo its (canonV kk its)
  | [], kk, _, _, _, _ => rfl
  | i :: r, kk, hi, h1, h2, h3 => by
    have hok := hi i (by simp)
    cases hf : i.fr with
    | false =>
      have e2 : canonO (i :: r) = canonO r := by simp [canonO, hf]
      have e3 : canonV kk (i :: r) = i.old :: canonV kk r := by simp [canonV, hf]
      rw [e2] at h2
      refine ⟨_, _, e3, by rw [if_neg (by simp [hf])], canon_made r kk (fun x hx => hi x (by simp [hx])) h1 h2 (fun j hj => ?_)⟩
      have := h3 j (by rw [e2]; exact hj)
      simpa [e2] using this
    | true =>
      have e2 : canonO (i :: r) = glO i.sz i.es.flatten ++ canonO r := by simp [canonO, hf]
      have e3 : canonV kk (i :: r) = glV kk i.es.flatten i.es.length :: canonV (kk + (glO i.sz i.es.flatten).length) r := by simp [canonV, hf]
      rw [e2, List.length_append] at h2
      refine ⟨_, _, e3, ?_, canon_made r _ (fun x hx => hi x (by simp [hx])) (by omega) (by omega) (fun j hj => ?_)⟩
      · rw [if_pos hf]
        refine glV_gl1 (hok.sz hf) (hok.es hf) h1 (by omega) (fun j hj => ?_)
        have := h3 j (by rw [e2, List.length_append]; omega)
        rw [this]
        simp only [e2]
        rw [List.getElem_append_left hj]
      · have := h3 ((glO i.sz i.es.flatten).length + j) (by rw [e2, List.length_append]; omega)
        rw [Nat.add_assoc, this]
        simp only [e2]
        rw [List.getElem_append_right (by omega)]
        simp
/-- The names of what is made afresh lie in order. -/
theorem canon_ids {h : H} : ∀ (its : List It) (kk : Nat), (∀ i ∈ its, ItOk h i) → (∀ j ∈ freshIds its (canonV kk its), kk ≤ j ∧ j < kk + (canonO its).length) ∧ (freshIds its (canonV kk its)).Nodup
  | [], kk, _ => by simp [canonV, freshIds]
  | i :: r, kk, hi => by
    have hok := hi i (by simp)
    cases hf : i.fr with
    | false =>
      have e1 : freshIds (i :: r) (canonV kk (i :: r)) = freshIds r (canonV kk r) := by simp [freshIds, canonV, hf]
      have e2 : canonO (i :: r) = canonO r := by simp [canonO, hf]
      rw [e1, e2]
      exact canon_ids r kk fun x hx => hi x (by simp [hx])
    | true =>
      have e1 : freshIds (i :: r) (canonV kk (i :: r)) = (glV kk i.es.flatten i.es.length).ids ++ freshIds r (canonV (kk + (glO i.sz i.es.flatten).length) r) := by simp [freshIds, canonV, hf]
      have e2 : canonO (i :: r) = glO i.sz i.es.flatten ++ canonO r := by simp [canonO, hf]
      obtain ⟨a, b⟩ := canon_ids r (kk + (glO i.sz i.es.flatten).length) fun x hx => hi x (by simp [hx])
      have hg : (∀ j ∈ (glV kk i.es.flatten i.es.length).ids, j = kk ∧ (glO i.sz i.es.flatten).length = 1) ∧ (glV kk i.es.flatten i.es.length).ids.Nodup := by
        unfold glV glO
        split <;> simp [V.ids]
      rw [e1, e2, List.length_append]
      refine ⟨fun j hj => ?_, List.nodup_append.2 ⟨hg.2, b, fun x hx y hy e => ?_⟩⟩
      · rcases List.mem_append.1 hj with hj | hj
        · have := hg.1 j hj; omega
        · have := a j hj; omega
      · have := hg.1 x hx
        have := a y hy
        omega
end Go.Am
