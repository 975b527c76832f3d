/-
 AM, PART 20. Drawn regions in which nothing turns the heap: loads and pure calls, in whatever order.
-/
import Derived.Test.YtpgcodeckphanaaGreatDoorIAm19
namespace Go.Am

variable {P : Program}
def Qwp (P : Program) (K : Tm -> H -> Prop) : List SI -> Tm -> H -> Prop
 | [], t, h => K t h
 | s :: is, t, h =>
  match zao s.guard t with
  | none => False
  | some false => Qwp P K is (t.put s.dst .undef) h
  | some true =>
   match s.ins with
   | .op i => i.cls ≠ 2 ∧ match exec i t h.get h.next with
    | some (v, _) => Qwp P K is (t.put s.dst v) h
    | none => False
   | .call f args => ∃ v, v.ids = [] ∧ (∀ h2, Ge h h2 -> ∀ Q : V -> H -> Prop, Q v h2 -> zdA P (f.ev t) (args.map (·.ev t)) h2 Q) ∧ Qwp P K is (t.put s.dst v) h

theorem zjO {i : I} {t : Nat -> V} {get : Nat -> Option O} {k k' : Nat} (hc : i.cls ≠ 2) : exec i t get k = exec i t get k' := by
 cases i <;> first | rfl | (exact absurd rfl hc)

theorem zgd {K : Tm -> H -> Prop} {fr : List (Nat × Nat)} {h : H} (wf : h.WF) : ∀ (ops : List SI) (t : Tm) (evs : List Ev) (e1 : Nat), h.next ≤ e1 -> (∀ k, (evAt evs k).up = []) -> Qwp P K ops t h -> Dwp P K fr h.next e1 ops t h.get evs
 | [], t, evs, e1, he, hu, q => by
  refine ⟨fun p _ => ⟨fun x hx => (by rw [hu] at hx; cases hx), fun y hy => (by rw [hu] at hy; cases hy)⟩, h.next, he, fun i h1 _ => wf i h1, q⟩
 | s :: is, t, evs, e1, he, hu, q => by
  have app : ∀ ev : Ev, ev.up = [] -> ∀ k, (evAt (evs ++ [ev]) k).up = [] := by
   intro ev hev k
   have := hu k
   unfold evAt at this ⊢
   rw [List.getD_eq_getElem?_getD] at this ⊢
   rw [List.getElem?_append]
   split
   ·exact this
   ·rename_i hk
    cases hj : k - evs.length with
    | zero => simpa using hev
    | succ j => rfl
  simp only [Qwp] at q
  simp only [Dwp]
  split at q
  ·exact q.elim
  ·rename_i hg
   simp only [hg]
   exact zgd wf is _ _ _ he (app _ rfl) q
  ·rename_i hg
   simp only [hg]
   split at q
   ·rename_i i hi
    simp only [hi]
    obtain ⟨hc, q⟩ := q
    split at q
    ·rename_i v d hx
     have hd := zcl hc hx
     subst hd
     rw [zjO (k' := h.next) hc, hx]
     exact zgd wf is _ _ _ he (app _ rfl) q
    ·exact q.elim
   ·rename_i f args hi
    simp only [hi]
    obtain ⟨v, hv, hcall, q⟩ := q
    refine ⟨v, List.range h.next, [], ⟨by simp, by rw [hv]; simp, by simp, fun h2 hn hrd => ?_⟩, ?_⟩
    ·refine hcall h2 ⟨by omega, fun i hi => hrd i (by simpa using hi)⟩ _ ⟨?_, rfl⟩
     rw [V.ren_id v (by rw [hv]; simp)]
    ·exact zgd wf is _ _ _ he (app _ rfl) q
theorem zdf {fr : List (Nat × Nat)} {Q : Exit -> Tm -> H -> Prop} {ops : List SI} {t : Tm} {h : H} (wf : h.WF) (q : Qwp P (Q .normal) ops t h) : Cwp P (.dreg fr ops) Q t h :=
 .inr (.inl (zgd wf ops t [] _ (by omega) (fun k => by cases k <;> rfl) q))

def qopK (P : Program) (K : Tm -> H -> Prop) (d : Option Nat) (is : List SI) (t : Tm) (h : H) (r : Option (V × D)) : Prop :=
 match r with
 | some (v, _) => Qwp P K is (t.put d v) h
 | none => False
def zbO (P : Program) (K : Tm -> H -> Prop) (w : Bool) (d : Option Nat) (x : X) (is : List SI) (t : Tm) (h : H) (g : V) : Prop :=
 match g with
 | .bool b => if (b == w) = true then Qwp P K (⟨d, none, x⟩ :: is) t h else Qwp P K is (t.put d .undef) h
 | .tup [] => Qwp P K is (t.put d .undef) h
 | _ => False
def zmA (P : Program) (K : Tm -> H -> Prop) (d : Option Nat) (is : List SI) (t : Tm) (h : H) (f : V) (args : List V) : Prop :=
 ∃ v, v.ids = [] ∧ (∀ h2, Ge h h2 -> ∀ Q : V -> H -> Prop, Q v h2 -> zdA P f args h2 Q) ∧ Qwp P K is (t.put d v) h
section
variable (K : Tm -> H -> Prop) (d : Option Nat) (x : X) (is : List SI) (t : Tm) (h : H)
@[simp] theorem zpJ (v : V) (dd : D) : qopK P K d is t h (some (v, dd)) = Qwp P K is (t.put d v) h := _root_.id rfl
@[simp] theorem zrO : Qwp P K [] t h = K t h := _root_.id rfl
@[simp] theorem zoJ : zbO P K true d x is t h (.bool true) = Qwp P K (⟨d, none, x⟩ :: is) t h := by simp [zbO]
@[simp] theorem zoY : zbO P K false d x is t h (.bool false) = Qwp P K (⟨d, none, x⟩ :: is) t h := by simp [zbO]
@[simp] theorem zoA : zbO P K false d x is t h (.bool true) = Qwp P K is (t.put d .undef) h := by simp [zbO]
@[simp] theorem zoy : zbO P K true d x is t h (.bool false) = Qwp P K is (t.put d .undef) h := by simp [zbO]
@[simp] theorem zlo (w : Bool) : zbO P K w d x is t h .undef = Qwp P K is (t.put d .undef) h := _root_.id rfl
@[simp] theorem zkV (w : Bool) : zbO P K w d x is t h (.tup []) = Qwp P K is (t.put d .undef) h := _root_.id rfl
@[simp] theorem zsb (i : I) : Qwp P K (⟨d, none, .op i⟩ :: is) t h = (i.cls ≠ 2 ∧ qopK P K d is t h (exec i t h.get h.next)) := by
 simp only [Qwp, zao, qopK]
@[simp] theorem zpR (g : Nat) (w : Bool) : Qwp P K (⟨d, some (g, w), x⟩ :: is) t h = zbO P K w d x is t h (t g) := by
 simp only [Qwp, zao, zbO]
 split
 ·rename_i e
  split at e <;> first | (cases e; done) | skip
  rename_i _ h1 h2
  split
  ·rename_i e'; exact absurd e' (h1 _)
  ·rename_i e'; exact absurd e' h2
  ·rfl
 ·rename_i e
  split at e
  ·rename_i b hb
   simp only [Option.some.injEq] at e
   rw [hb]
   simp [e]
  ·rename_i hb; rw [hb]
  ·cases e
 ·rename_i e
  split at e
  ·rename_i b hb
   simp only [Option.some.injEq] at e
   rw [hb]
   simp [e]
  ·cases e
  ·cases e
@[simp] theorem zrm (f : A) (args : List A) : Qwp P K (⟨d, none, .call f args⟩ :: is) t h = zmA P K d is t h (f.ev t) (args.map (·.ev t)) := _root_.id rfl
end
attribute [simp] I.cls
theorem zdc {K : Tm -> H -> Prop} {d : Option Nat} {is : List SI} {t : Tm} {h : H} {g : FuncId} {first cap args : List V} {v : V} (hv : v.ids = []) (c : ∀ h2, Ge h h2 -> Pure P g (first ++ args ++ cap) h2 v) (k : Qwp P K is (t.put d v) h) : zmA P K d is t h (.func (.func g) first cap) args :=
 ⟨v, hv, fun h2 g Q q => c h2 g Q q, k⟩
theorem zlc {Q : Exit -> Tm -> H -> Prop} {a b : C} {t : Tm} {h : H} {c : Bool} (J : Tm -> H -> Prop) (ha : c = true -> ∀ R : Exit -> Tm -> H -> Prop, (∀ t' h', J t' h' -> R .normal t' h') -> Cwp P a R t h)
  (hb : c = false -> ∀ R : Exit -> Tm -> H -> Prop, (∀ t' h', J t' h' -> R .normal t' h') -> Cwp P b R t h) (k : ∀ t' h', J t' h' -> Q .normal t' h') : zhM P Q a b t h (.bool c) :=
 ziN (fun e => ha e Q k) (fun e => hb e Q k)
theorem zfw {f : FuncId} {args : List V} {v : V} (ha : V.idss args = []) (hv : v.ids = []) (c : ∀ Q : V -> H -> Prop, (∀ h1, Q v h1) -> Acalls P f args ⟨0, fun _ => none⟩ Q) (h : H) : Pure P f args h v := by
 intro Q q
 have S : Small ⟨0, fun _ => none⟩ h.get := ⟨fun _ _ => rfl, fun i o e => (by cases e), fun i o e => (by cases e)⟩
 have ho : v.opens = [] := List.eq_nil_iff_forall_not_mem.2 fun i hi => by have := V.opens_ids v i hi; rw [hv] at this; cases this
 have fr := Acalls.frame (f := f) (args := args) (Q := fun v' os => v' = v ∧ os = []) S (by rw [ha]; simp) (c _ fun h1 => ⟨[], ⟨List.nodup_nil, by simp, by rw [hv]; simp, by rw [ho]; simp⟩, by rw [V.ren_id v (by rw [hv]; simp)], rfl⟩)
 refine fr.mono ?_
 rintro v' h' ⟨os, ⟨rfl, rfl⟩, rfl⟩
 exact q
end Go.Am
