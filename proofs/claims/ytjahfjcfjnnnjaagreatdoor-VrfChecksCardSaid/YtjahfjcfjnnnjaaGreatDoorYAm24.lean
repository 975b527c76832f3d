/-
 AM, PART 24. Lists that a call builds: growing slices (Gl), one append; a fresh list as a call's result, told by the next name (fresh).
-/
import Derived.Test.YtjahfjcfjnnnjaaGreatDoorYAm20
namespace Go.Am

variable {P : Program}
def H.Cl (h : H) : Prop := ∀ i o, h.get i = some o -> ∀ k ∈ o.ids, ∃ o', h.get k = some o'
theorem Acalls.cl {f : FuncId} {args : List V} {h : H} {Q : V -> H -> Prop} (he : zac P f = true) (c : h.WF -> h.Cl -> Acalls P f args h Q) : Acalls P f args h Q :=
 ⟨he, fun W0 μ w cargs hr hv => (c hr.next fun i o ho => (hr.obj i o ho).live).2 W0 μ w cargs hr hv⟩

theorem Acalls.fresh {f : FuncId} {args : List V} {h : H} {sz len : Nat} {cells : List V} {Q : V -> H -> Prop}
  (c : Acalls P f args h fun v h1 => Ge h h1 ∧ ((v = .nilsl ∧ cells = []) ∨ (cells ≠ [] ∧ ∃ j, v = .sl j cells.length 0 len none ∧ h.next ≤ j ∧ h1.get j = some (.grow sz cells)))) (hids : V.idss cells = [])
  (q1 : cells = [] -> Q .nilsl h) (q2 : cells ≠ [] -> Q (.sl h.next cells.length 0 len none) (h.push (.grow sz cells))) : Acalls P f args h Q := by
 refine Acalls.cl c.1 fun wf cl => Acalls.rename (c.mono ?_)
 rintro v h1 ⟨hg, ⟨rfl, hc⟩ | ⟨hne, j, rfl, hj, hget⟩⟩
 ·exact ⟨id, .nilsl, h, rfl, ⟨fun i o ho => by rw [show o.ren id = o from O.ren_id o (fun _ _ => rfl)]; exact hg.keeps wf i o ho, fun _ _ _ _ _ _ e => e, cl, wf⟩, by simp [V.ids], fun i o ho => ⟨rfl, o, ho⟩, q1 hc⟩
 ·let σ : Nat -> Nat := fun i => if i = h.next then j else i
  have hσ : ∀ i, i ≠ h.next -> σ i = i := fun i hi => if_neg hi
  have hold : ∀ i o, h.get i = some o -> o.ren σ = o := fun i o ho => O.ren_id o fun k hk => by
   obtain ⟨o', ho'⟩ := cl i o ho k hk
   exact hσ k (by have := wf.lt ho'; omega)
  refine ⟨σ, .sl h.next cells.length 0 len none, h.push (.grow sz cells), by simp [V.ren, σ], ⟨fun i o ho => ?_, fun a b oa ob ha hb e => ?_, fun i o ho k hk => ?_, wf.push _⟩, ?_, fun i o ho => ?_, q2 hne⟩
  ·rw [H.get_push] at ho
   split at ho
   ·rename_i e
    cases ho
    simp only [σ, e, if_pos, O.ren]
    rw [V.rens_id cells (by rw [hids]; simp)]
    exact hget
   ·rename_i e
    rw [hσ i e, hold i o ho]
    exact hg.keeps wf i o ho
  ·rw [H.get_push] at ha hb
   have small : ∀ i o, (if i = h.next then some (O.grow sz cells) else h.get i) = some o -> i ≠ h.next -> i < h.next := fun i o ho hi => by rw [if_neg hi] at ho; exact wf.lt ho
   by_cases ea : a = h.next <;> by_cases eb : b = h.next
   ·rw [ea, eb]
   ·have := small b ob hb eb
    rw [hσ b eb, ea] at e
    simp only [σ, if_pos] at e; omega
   ·have := small a oa ha ea
    rw [hσ a ea, eb] at e
    simp only [σ, if_pos] at e; omega
   ·rw [hσ a ea, hσ b eb] at e; exact e
  ·rw [H.get_push] at ho
   split at ho
   ·cases ho
    simp only [O.ids, hids, List.not_mem_nil] at hk
   ·obtain ⟨o', ho'⟩ := cl i o ho k hk
    exact ⟨o', by rw [H.get_push, if_neg (by have := wf.lt ho'; omega)]; exact ho'⟩
  ·intro i hi
   simp only [V.ids, List.mem_cons, List.not_mem_nil, or_false] at hi
   subst hi
   exact ⟨_, by rw [H.get_push, if_pos rfl]⟩
  ·exact ⟨hσ i (by have := wf.lt ho; omega), o, by rw [H.get_push, if_neg (by have := wf.lt ho; omega)]; exact ho⟩

def Gl (h : H) (lo sz : Nat) (v : V) (es : List (List V)) : Prop :=
 (es = [] ∧ v = .nilsl) ∨ (es ≠ [] ∧ ∃ j, lo ≤ j ∧ j < h.next ∧ v = .sl j es.flatten.length 0 es.length none ∧ h.get j = some (.grow sz es.flatten))
theorem Gl.nil (h : H) (lo sz : Nat) : Gl h lo sz .nilsl [] := .inl ⟨rfl, rfl⟩
theorem Gl.one {h : H} {lo sz : Nat} {v : V} {es : List (List V)} (g : Gl h lo sz v es) : v.one = true := by
 rcases g with ⟨_, rfl⟩ | ⟨_, j, _, _, rfl, _⟩ <;> rfl
theorem Gl.keep {h h' : H} {lo sz : Nat} {v : V} {es : List (List V)} (g : Gl h lo sz v es) (hn : h.next ≤ h'.next) (k : ∀ i ∈ v.ids, h'.get i = h.get i) : Gl h' lo sz v es := by
 rcases g with ⟨rfl, rfl⟩ | ⟨hne, j, h1, h2, rfl, h3⟩
 ·exact .inl ⟨rfl, rfl⟩
 ·exact .inr ⟨hne, j, h1, by omega, rfl, by rw [k j (by simp [V.ids])]; exact h3⟩
theorem Gl.lo {h : H} {lo sz : Nat} {v : V} {es : List (List V)} (g : Gl h lo sz v es) : ∀ i ∈ v.ids, lo ≤ i ∧ i < h.next := by
 rcases g with ⟨rfl, rfl⟩ | ⟨hne, j, h1, h2, rfl, h3⟩
 ·simp [V.ids]
 ·simp [V.ids, h1, h2]
theorem Gl.sls {h : H} {lo sz : Nat} {v : V} {es : List (List V)} (g : Gl h lo sz v es) (hs : ∀ e ∈ es, e.length = sz) (hb : es.length < 9223372036854775808) : Sls h.get sz v es := by
 rcases g with ⟨rfl, rfl⟩ | ⟨hne, j, h1, h2, rfl, h3⟩
 ·exact ⟨.inl ⟨rfl, .inl rfl⟩, by simp, rfl, by simp⟩
 ·refine ⟨.inr ⟨_, _, _, _, rfl⟩, hs, ?_, hb⟩
  have hl := zaN hs
  rw [zaz, if_neg (by simpa using hne), zak h3 (by simp)]
  simp only [zhI, Nat.zero_add, hl, Nat.le_refl, if_true, List.drop_zero]
  rw [<- hl, List.take_length]
theorem Gl.append {h : H} {lo sz bytes : Nat} {v x : V} {es : List (List V)} {e : List V} (g : Gl h lo sz v es) (hlo : lo ≤ h.next) (hs : ∀ a ∈ es, a.length = sz) (he : e.length = sz) (hx : zaC h.get sz x = some (1, e)) (h1 : e.all V.one = true) (hsz : sz ≠ 0)
  (hb : (es.length + 1) * bytes ≤ 140737488355328) (hb2 : es.length + 1 ≤ 9223372036854775807) :
  ∃ v' d, zay h.get h.next sz bytes v x = some (v', d) ∧ Gl (h.app d) lo sz v' (es ++ [e]) ∧ h.next ≤ (h.app d).next ∧ (∀ i, i ∉ v.ids -> i < h.next -> (h.app d).get i = h.get i) ∧ (h.WF -> (h.app d).WF) := by
 rcases g with ⟨rfl, rfl⟩ | ⟨hne, j, g1, g2, rfl, g3⟩
 ·refine ⟨_, _, zbm hx (by omega) h1 hsz (by simpa using hb) (by omega), .inr ⟨by simp, h.next, hlo, by simp, by simp [he], by simp⟩, by simp, fun i _ hi => ?_, fun w => w.push _⟩
  rw [zci, H.get_push, if_neg (by omega)]
 ·have hl := zaN hs
  refine ⟨_, _, zbw g3 rfl hl.symm hx (by omega) h1 hsz hb hb2, .inr ⟨by simp, j, g1, by simpa using g2, by simp [he], by simp⟩, by simp, fun i hi _ => ?_, fun w => w.set g2 _⟩
  rw [zer, H.get_set, if_neg (by simpa [V.ids] using hi)]
end Go.Am
