/-
  What two agree upon, by the reference's way: the plain laws.
-/
import Derived.Test.YtapokdcbhpdceaaO21
namespace Go.Am
open Go.Proofs

def fr (i : Nat) : List Int := (List.range i).map fun k => ((k + 1 : Nat) : Int)
theorem fr_succ (i : Nat) : fr (i + 1) = fr i ++ [((i + 1 : Nat) : Int)] := by simp [fr, List.range_succ]
theorem mem_fr {i : Nat} {x : Int} : x ∈ fr i ↔ 1 ≤ x ∧ x ≤ i := by
  simp only [fr, List.mem_map, List.mem_range]
  constructor
  · rintro ⟨k, hk, rfl⟩; omega
  · rintro ⟨h1, h2⟩; exact ⟨x.toNat - 1, by omega, by omega⟩
theorem fr_pair (i : Nat) : (fr i).Pairwise (· < ·) := by
  induction i with
  | zero => simp [fr]
  | succ i ih =>
    rw [fr_succ, List.pairwise_append]
    refine ⟨ih, by simp, fun x hx y hy => ?_⟩
    have := (mem_fr.1 hx).2
    simp at hy; omega
def agF (o p : Opn) (i : Nat) : List Int := (fr i).filter fun f => o.fams.contains f && p.fams.contains f
def agS (a b : List Add) (fl : List Int) : List Int := fl.filter fun f => (addB a f).send && (addB b f).take
def agT (a b : List Add) (fl : List Int) : List Int := fl.filter fun f => (addB a f).take && (addB b f).send
def agK (l : List Rest) (fl : List Int) : List Rest := fl.flatMap fun f => l.filter fun x => x.fam == f
theorem agF_succ (o p : Opn) (i : Nat) : agF o p (i + 1) = if (o.fams.contains ((i + 1 : Nat) : Int) && p.fams.contains ((i + 1 : Nat) : Int)) = true then agF o p i ++ [((i + 1 : Nat) : Int)] else agF o p i := by
  unfold agF
  rw [fr_succ, List.filter_append]
  by_cases h : (o.fams.contains ((i + 1 : Nat) : Int) && p.fams.contains ((i + 1 : Nat) : Int)) = true
  · rw [if_pos h, List.filter_cons, if_pos h]; rfl
  · rw [if_neg h, List.filter_cons, if_neg h]; simp
theorem rising_le : ∀ (l : List Int) (last : Int), rising last l = true → ∀ x ∈ l, x ≤ 5
  | [], _, _, x, hx => by cases hx
  | f :: l, last, h, x, hx => by
    simp [rising] at h
    rcases List.mem_cons.1 hx with rfl | hx
    · exact h.1.2
    · exact rising_le l f h.2 x hx
theorem agF_eq {o p : Opn} (ho : checkB o = true) : agF o p 5 = shFams o p := by
  have r1 : rising 0 o.fams = true := by have := checkB_parts o; rw [ho] at this; simp at this; exact this.2.1
  refine pair_ext _ _ ((fr_pair 5).filter _) ((rising_pair _ _ r1).filter _) fun x => ?_
  simp only [agF, shFams, List.mem_filter, mem_fr, Bool.and_eq_true, List.contains_iff_mem]
  constructor
  · rintro ⟨_, h1, h2⟩; exact ⟨h1, h2⟩
  · rintro ⟨h1, h2⟩
    have a := rising_mem _ _ r1 x h1
    have b := rising_le _ _ r1 x h1
    exact ⟨⟨by omega, by omega⟩, h1, h2⟩
theorem addB_any (q : Add → Bool) (hq : q ⟨0, false, false⟩ = false) : ∀ (l : List Add) (last f : Int), rising last (l.map Add.fam) = true → q (addB l f) = l.any fun x => x.fam == f && q x
  | [], _, _, _ => by simp [addB, hq]
  | x :: l, last, f, h => by
    simp only [List.map_cons, rising, Bool.and_eq_true] at h
    by_cases e : x.fam = f
    · have hn : (l.any fun x => x.fam == f && q x) = false := by
        rw [List.any_eq_false]
        intro y hy
        have := rising_mem _ _ h.2 y.fam (List.mem_map_of_mem hy)
        simp; intro hy2; omega
      unfold addB
      rw [List.find?_cons_of_pos (by simpa using e), List.any_cons, hn]
      simp [e]
    · have := addB_any q hq l x.fam f h.2
      unfold addB at this ⊢
      rw [List.find?_cons_of_neg (by simpa using e), this, List.any_cons]
      simp [e]
theorem agS_eq {a b : List Add} {fl : List Int} (ha : rising 0 (a.map Add.fam) = true) (hb : rising 0 (b.map Add.fam) = true) : agS a b fl = bothB a b fl := by
  unfold agS bothB
  congr 1; funext f
  rw [addB_any Add.send rfl a 0 f ha, addB_any Add.take rfl b 0 f hb]
theorem agT_eq {a b : List Add} {fl : List Int} (ha : rising 0 (a.map Add.fam) = true) (hb : rising 0 (b.map Add.fam) = true) : agT a b fl = bothB b a fl := by
  unfold agT bothB
  congr 1; funext f
  rw [addB_any Add.take rfl a 0 f ha, addB_any Add.send rfl b 0 f hb, Bool.and_comm]
theorem filter_or {α : Type} {R : α → α → Prop} {p q : α → Bool} (h1 : ∀ a b, q a = true → p b = true → ¬ R a b) (h2 : ∀ a, p a = true → q a = false) : ∀ (l : List α), l.Pairwise R → l.filter (fun x => p x || q x) = l.filter p ++ l.filter q
  | [], _ => rfl
  | x :: l, h => by
    cases h with
    | cons hx hl =>
      have ih := filter_or h1 h2 l hl
      simp only [List.filter_cons]
      cases hp : p x with
      | true => simp [h2 x hp, ih]
      | false =>
        cases hq : q x with
        | false => simp [ih]
        | true =>
          have hn : l.filter p = [] := by
            rw [List.filter_eq_nil_iff]
            intro y hy hpy
            exact h1 x y hq hpy (hx y hy)
          simp [ih, hn]
theorem agK_eq {l : List Rest} (hl : rising 0 (l.map Rest.fam) = true) : ∀ (fl : List Int), fl.Pairwise (· < ·) → agK l fl = l.filter fun x => fl.contains x.fam
  | [], _ => by simp [agK]
  | f :: fl, h => by
    cases h with
    | cons hf hfl =>
      have ih := agK_eq hl fl hfl
      unfold agK at ih ⊢
      rw [List.flatMap_cons, ih]
      have hp : l.Pairwise (fun a b => a.fam < b.fam) := by
        have := rising_pair _ _ hl
        rw [List.pairwise_map] at this
        exact this
      have := filter_or (R := fun a b : Rest => a.fam < b.fam) (p := fun x => x.fam == f) (q := fun x => fl.contains x.fam) (fun a b ha hb => by
        simp only [List.contains_iff_mem] at ha
        have := hf _ ha
        simp at hb; omega) (fun a ha => by
        simp only [beq_iff_eq] at ha
        rw [ha]
        rw [List.contains_eq_mem]
        simp only [decide_eq_false_iff_not]
        intro hm
        have := hf _ hm; omega) l hp
      rw [← this]
      congr 1
theorem agK_sh {o p : Opn} (ho : checkB o = true) (hp : checkB p = true) : agK p.kept (shFams o p) = shKept o p := by
  have r1 : rising 0 o.fams = true := by have := checkB_parts o; rw [ho] at this; simp at this; exact this.2.1
  have r2 : rising 0 (p.kept.map Rest.fam) = true := by have := checkB_parts p; rw [hp] at this; simp at this; exact this.2.2.2.2
  exact agK_eq r2 _ ((rising_pair _ _ r1).filter _)
end Go.Am
