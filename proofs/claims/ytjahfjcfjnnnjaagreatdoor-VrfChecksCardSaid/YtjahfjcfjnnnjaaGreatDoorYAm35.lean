/-
 AM, PART 35. Orders (numbers, texts, one behind the other), rising lists: the plain law.
-/
import Derived.Lib.Bytealg
namespace Go.Am

def cmpI (a b : Int) : Int := if a < b then -1 else if b < a then 1 else 0
def orI (a b : Int) : Int := if a = 0 then b else a
theorem zfs (a : Int) : orI 0 a = a := rfl
theorem zkO {a : Int} (h : a ≠ 0) (b : Int) : orI a b = a := if_neg h
open Go.Lib in
open Go.Lib in
open Go.Lib in
open Go.Lib in
open Go.Lib in
structure Ordr {α : Type} (c : α -> α -> Int) : Prop where
 anti : ∀ a b, c b a = - c a b
 same : ∀ a b d, c a b = 0 -> c a d = c b d
 down : ∀ a b d, c a b < 0 -> c b d < 0 -> c a d < 0
theorem Ordr.on {α β : Type} {c : α -> α -> Int} (o : Ordr c) (f : β -> α) : Ordr fun a b => c (f a) (f b) :=
 ⟨fun a b => o.anti (f a) (f b), fun a b d => o.same (f a) (f b) (f d), fun a b d => o.down (f a) (f b) (f d)⟩
theorem Ordr.or {α : Type} {c e : α -> α -> Int} (o : Ordr c) (p : Ordr e) : Ordr fun a b => orI (c a b) (e a b) := by
 refine ⟨fun a b => ?_, fun a b d h => ?_, fun a b d h1 h2 => ?_⟩
 ·have h1 := o.anti a b
  have h2 := p.anti a b
  simp only [orI]; split <;> split <;> omega
 ·simp only [orI] at h ⊢
  split at h
  ·rename_i h0
   rw [o.same a b d h0, p.same a b d h]
  ·rename_i h0; exact absurd h h0
 ·simp only [orI] at h1 h2 ⊢
  by_cases ab : c a b = 0
  ·rw [if_pos ab] at h1
   rw [o.same a b d ab]
   split at h2
   ·rename_i bd; rw [if_pos bd]; exact p.down a b d h1 h2
   ·rename_i bd; rw [if_neg bd]; exact h2
  ·rw [if_neg ab] at h1
   by_cases bd : c b d = 0
   ·have e1 := o.anti a d
    have e2 := o.anti b d
    have e3 := o.same d b a (by omega)
    have e4 := o.anti a b
    have : c a d = c a b := by have := o.anti b a; omega
    rw [this, if_neg ab]; exact h1
   ·rw [if_neg bd] at h2
    have := o.down a b d h1 h2
    rw [if_neg (by omega)]; exact this
open Go.Lib in
open Go.Lib in
section
variable {α : Type} {c : α -> α -> Int}
def spot (c : α -> α -> Int) (n : α) (l : List α) : Nat -> Nat
 | 0 => 0
 | k + 1 => match l[k]? with
  | some x => if c n x < 0 then spot c n l k else k + 1
  | none => k + 1
variable [DecidableEq α]
end
end Go.Am
