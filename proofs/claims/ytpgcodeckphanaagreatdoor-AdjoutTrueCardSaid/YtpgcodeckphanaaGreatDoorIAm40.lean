/-
 AM, PART 40. A drawn region with calls beside looks at what they leave, walked by simp (zbP); a call that turns some objects, whose other makings are let go (Acalls.settle).
-/
import Derived.Test.YtpgcodeckphanaaGreatDoorIAmL
namespace Go.Am

variable {P : Program}
theorem zkY (ops : List SI) (ms : List Nat) (hl : ms.length = ops.length) : (List.range ops.length).map (zee ops fun i => ms.getD i 0) = ops.zip ms := by
 apply List.ext_getElem?
 intro k
 by_cases hk : k < ops.length
 ·have h1 : ops[k]? = some ops[k] := List.getElem?_eq_getElem hk
  have h2 : ms[k]? = some ms[k] := List.getElem?_eq_getElem (by omega)
  have h3 : (ops.zip ms)[k]? = some (ops[k], ms[k]) := List.getElem?_zip_eq_some.2 ⟨h1, h2⟩
  rw [List.getElem?_map, List.getElem?_range hk, h3]
  simp [zee, List.getD_eq_getElem?_getD, h1, h2]
 ·rw [List.getElem?_eq_none (by simp; omega), List.getElem?_eq_none (by simp; omega)]
theorem zbP {fr : List (Nat × Nat)} {Q : Exit -> Tm -> H -> Prop} {ops : List SI} {t : Tm} {h : H} (F ms : List Nat) (hl : ms.length = ops.length) (hfr : (fr.all (zfb ops fun i => ms.getD i 0)) = true)
  (q : Awp P F (Q .normal) (ops.zip ms) t h) : Cwp P (.dreg fr ops) Q t h :=
 .inr (.inr (.inr (.inl ⟨F, fun i => ms.getD i 0, fun p hp => List.all_eq_true.1 hfr p hp, by rw [zkY ops ms hl]; exact q⟩)))
def aopK (P : Program) (F : List Nat) (K : Tm -> H -> Prop) (d : Option Nat) (m : Nat) (is : List (SI × Nat)) (t : Tm) (h : H) (r : Option (V × D)) : Prop :=
 match r with
 | some (v, dd) => (m = 1 -> Keep F h (h.app dd)) ∧ Awp P F K is (t.put d v) (h.app dd)
 | none => False
def zjA (P : Program) (F : List Nat) (K : Tm -> H -> Prop) (d : Option Nat) (m : Nat) (is : List (SI × Nat)) (t : Tm) (h : H) (f : V) (args : List V) : Prop :=
 m ≠ 2 ∧ ∃ Q' : V -> H -> Prop, (∃ v h', Q' v h') ∧ zdA P f args h Q' ∧ ∀ v h', Q' v h' -> (m = 1 -> Keep F h h') ∧ Awp P F K is (t.put d v) h'
section
variable (F : List Nat) (K : Tm -> H -> Prop) (d : Option Nat) (is : List (SI × Nat)) (t : Tm) (h : H)
@[simp] theorem zpc (v : V) (dd : D) : aopK P F K d 0 is t h (some (v, dd)) = Awp P F K is (t.put d v) (h.app dd) := by simp [aopK]
@[simp] theorem zqD (v : V) (dd : D) : aopK P F K d 1 is t h (some (v, dd)) = (Keep F h (h.app dd) ∧ Awp P F K is (t.put d v) (h.app dd)) := by simp [aopK]
@[simp] theorem zqR (v : V) (dd : D) : aopK P F K d 2 is t h (some (v, dd)) = Awp P F K is (t.put d v) (h.app dd) := by simp [aopK]
@[simp] theorem zrZ : Awp P F K [] t h = K t h := _root_.id rfl
@[simp] theorem zr6 (m : Nat) (i : I) : Awp P F K ((⟨d, none, .op i⟩, m) :: is) t h = ((m = 2 -> ∀ k ∈ i.foot t, k ∈ F) ∧ aopK P F K d m is t h (exec i t h.get h.next)) := by
 simp only [Awp, Astep, Sstep, zao, FootIn, aopK]
 rw [and_comm]
 cases exec i t h.get h.next <;> rfl
@[simp] theorem zqL (m : Nat) (f : A) (args : List A) : Awp P F K ((⟨d, none, .call f args⟩, m) :: is) t h = zjA P F K d m is t h (f.ev t) (args.map (·.ev t)) := by
 simp only [Awp, Astep, Sstep, zao, FootIn, zjA, imp_false]
 rw [and_comm]
end
theorem zby {F : List Nat} {K : Tm -> H -> Prop} {d : Option Nat} {m : Nat} {is : List (SI × Nat)} {t : Tm} {h : H} {g : FuncId} {first cap args : List V} {v : V} {h' : H} (c : ∀ Q : V -> H -> Prop, Q v h' -> Acalls P g (first ++ args ++ cap) h Q)
  (hm : m ≠ 2) (hk : m = 1 -> Keep F h h') (k : Awp P F K is (t.put d v) h') : zjA P F K d m is t h (.func (.func g) first cap) args :=
 ⟨hm, fun u h2 => u = v ∧ h2 = h', ⟨v, h', rfl, rfl⟩, c _ ⟨rfl, rfl⟩, by rintro u h2 ⟨rfl, rfl⟩; exact ⟨hk, k⟩⟩

theorem Acalls.settle {f : FuncId} {args : List V} {h : H} {Q : V -> H -> Prop} (hT : H) (hn : hT.next = h.next) (liv : ∀ k, (∃ o, h.get k = some o) -> ∃ o, hT.get k = some o) (refs : ∀ k o, hT.get k = some o -> h.get k = some o ∨ ((∃ o, h.get k = some o) ∧ o.ids = []))
  (c : h.WF -> Acalls P f args h fun v h1 => Ge hT h1 ∧ v.ids = [] ∧ Q v hT) (he : zaa P f = true) : Acalls P f args h Q := by
 refine Acalls.cl he fun wf cl => Acalls.rename ((c wf).mono ?_)
 rintro v h1 ⟨hg, hv, hq⟩
 have w2 : hT.WF := fun k hk => by
  cases e : hT.get k with
  | none => rfl
  | some o =>
   have : ∃ o, h.get k = some o := by
    rcases refs k o e with h1 | ⟨h1, _⟩
    ·exact ⟨o, h1⟩
    ·exact h1
   obtain ⟨o', ho'⟩ := this
   rw [wf k (by omega)] at ho'; cases ho'
 refine ⟨id, v, hT, (V.ren_id (σ := id) v (fun _ _ => rfl)).symm, ⟨fun k o hk => by rw [show o.ren id = o from O.ren_id (σ := id) o (fun _ _ => rfl)]; exact hg.keeps w2 k o hk, fun _ _ _ _ _ _ e => e, fun k o hk j hj => ?_, w2⟩, fun k hk => (by rw [hv] at hk; cases hk), fun k o hk => ⟨rfl, liv k ⟨o, hk⟩⟩, hq⟩
 rcases refs k o hk with h2 | ⟨_, h2⟩
 ·exact liv j (cl k o h2 j hj)
 ·rw [h2] at hj; cases hj
end Go.Am
