/-
 AM, PART 35. Orders (numbers, texts, one behind the other), rising lists: the plain law.
-/
import Derived.Lib.Bytealg
namespace Go.Am

def cmpI (a b : Int) : Int := if a < b then -1 else if b < a then 1 else 0
def orI (a b : Int) : Int := if a = 0 then b else a
theorem zcs {a b : Int} : cmpI a b = 0 ↔ a = b := by unfold cmpI; split <;> (try split) <;> omega
theorem zbh (a : Int) : orI 0 a = a := rfl
theorem zcG {a : Int} (h : a ≠ 0) (b : Int) : orI a b = a := if_neg h
open Go.Lib in
open Go.Lib in
theorem zfL (x y : UInt8) (a b : List UInt8) : compareBytes (x :: a) (y :: b) = orI (cmpI x.toNat y.toNat) (compareBytes a b) := by
 rw [compareBytes]
 unfold cmpI orI
 simp only [UInt8.lt_iff_toNat_lt, Int.ofNat_lt]
 split
 ·simp
 ·split <;> simp
open Go.Lib in
open Go.Lib in
open Go.Lib in
structure Ordr {α : Type} (c : α -> α -> Int) : Prop where
 anti : ∀ a b, c b a = - c a b
 same : ∀ a b d, c a b = 0 -> c a d = c b d
 down : ∀ a b d, c a b < 0 -> c b d < 0 -> c a d < 0
theorem Ordr.self {α : Type} {c : α -> α -> Int} (o : Ordr c) (a : α) : c a a = 0 := by have := o.anti a a; omega
theorem ordr_int : Ordr cmpI := by
 refine ⟨fun a b => ?_, fun a b d h => by rw [zcs] at h; rw [h], fun a b d => ?_⟩
 ·unfold cmpI; split <;> split <;> (try split) <;> omega
 ·unfold cmpI; repeat' split
  all_goals omega
theorem Ordr.on {α β : Type} {c : α -> α -> Int} (o : Ordr c) (f : β -> α) : Ordr fun a b => c (f a) (f b) :=
 ⟨fun a b => o.anti (f a) (f b), fun a b d => o.same (f a) (f b) (f d), fun a b d => o.down (f a) (f b) (f d)⟩
theorem Ordr.or {α : Type} {c e : α -> α -> Int} (o : Ordr c) (p : Ordr e) : Ordr fun a b => orI (c a b) (e a b) := by
 refine ⟨fun a b => ?_, fun a b d h => ?_, fun a b d h1 h2 => ?_⟩
 ·have h1 := o.anti a b
  have h2 := p.anti a b
  simp only [orI]; split <;> split <;> omega
 ·simp only [orI] at h ⊢
  split at h
  ·rename_i h0
   rw [o.same a b d h0, p.same a b d h]
  ·rename_i h0; exact absurd h h0
 ·simp only [orI] at h1 h2 ⊢
  by_cases ab : c a b = 0
  ·rw [if_pos ab] at h1
   rw [o.same a b d ab]
   split at h2
   ·rename_i bd; rw [if_pos bd]; exact p.down a b d h1 h2
   ·rename_i bd; rw [if_neg bd]; exact h2
  ·rw [if_neg ab] at h1
   by_cases bd : c b d = 0
   ·have e1 := o.anti a d
    have e2 := o.anti b d
    have e3 := o.same d b a (by omega)
    have e4 := o.anti a b
    have : c a d = c a b := by have := o.anti b a; omega
    rw [this, if_neg ab]; exact h1
   ·rw [if_neg bd] at h2
    have := o.down a b d h1 h2
    rw [if_neg (by omega)]; exact this
open Go.Lib in
theorem zpe : ∀ a b : List UInt8, compareBytes a b = 0 -> a = b := by
 have e0 : ∀ (y : UInt8) (b : List UInt8), compareBytes [] (y :: b) = -1 := fun _ _ => rfl
 have e1 : ∀ (y : UInt8) (b : List UInt8), compareBytes (y :: b) [] = 1 := fun _ _ => rfl
 intro a
 induction a with
 | nil => intro b h; cases b with
  | nil => rfl
  | cons => simp [e0] at h
 | cons x a ih =>
  intro b h
  cases b with
  | nil => simp [e1] at h
  | cons y b =>
   rw [zfL] at h
   simp only [orI] at h
   split at h
   ·rename_i h0
    rw [zcs] at h0
    rw [ih b h, UInt8.toNat_inj.1 (show x.toNat = y.toNat by omega)]
   ·rename_i h0; exact absurd h h0
open Go.Lib in
theorem ordr_cb : Ordr compareBytes := by
 have e0 : ∀ (y : UInt8) (b : List UInt8), compareBytes [] (y :: b) = -1 := fun _ _ => rfl
 have e1 : ∀ (y : UInt8) (b : List UInt8), compareBytes (y :: b) [] = 1 := fun _ _ => rfl
 have e2 : compareBytes [] [] = 0 := rfl
 have at_ : ∀ a b : List UInt8, compareBytes b a = - compareBytes a b := by
  intro a
  induction a with
  | nil => intro b; cases b <;> simp [e0, e1, e2]
  | cons x a ih =>
   intro b
   cases b with
   | nil => simp [e0, e1]
   | cons y b =>
    rw [zfL, zfL, ih b]
    have := ordr_int.anti x.toNat y.toNat
    simp only [orI]; split <;> split <;> omega
 refine ⟨at_, fun a b d h => by rw [zpe a b h], ?_⟩
 intro a
 induction a with
 | nil => intro b d h1 h2; cases d with
  | nil => cases b with
   | nil => exact h2
   | cons => simp [e1] at h2
  | cons => simp [e0]
 | cons x a ih =>
  intro b d h1 h2
  cases b with
  | nil => simp [e1] at h1
  | cons y b =>
   cases d with
   | nil => simp [e1] at h2
   | cons z d =>
    rw [zfL] at h1 h2 ⊢
    by_cases xy : cmpI x.toNat y.toNat = 0
    ·rw [xy, zbh] at h1
     rw [zcs] at xy
     rw [xy]
     by_cases yz : cmpI y.toNat z.toNat = 0
     ·rw [yz, zbh] at h2 ⊢; exact ih b d h1 h2
     ·rw [zcG yz] at h2 ⊢; exact h2
    ·rw [zcG xy] at h1
     by_cases yz : cmpI y.toNat z.toNat = 0
     ·rw [zcs] at yz
      rw [<- yz, zcG xy]; exact h1
     ·rw [zcG yz] at h2
      have := ordr_int.down _ _ _ h1 h2
      rw [zcG (by omega)]; exact this
theorem zmV {a b : Int} : orI a b = 0 ↔ a = 0 ∧ b = 0 := by
 unfold orI; split <;> simp_all
section
variable {α : Type} {c : α -> α -> Int}
def Rise (c : α -> α -> Int) (l : List α) : Prop := l.Pairwise fun a b => c a b < 0
theorem zf8 (o : Ordr c) : ∀ {l m : List α}, Rise c l -> Rise c m -> (∀ x, x ∈ l ↔ x ∈ m) -> l = m
 | [], [], _, _, _ => rfl
 | [], y :: m, _, _, h => by have := (h y).2 (by simp); simp at this
 | x :: l, [], _, _, h => by have := (h x).1 (by simp); simp at this
 | x :: l, y :: m, h1, h2, h => by
  have g1 := List.pairwise_cons.1 h1
  have g2 := List.pairwise_cons.1 h2
  have exy : x = y := by
   rcases List.mem_cons.1 ((h x).1 (by simp)) with e | e
   ·exact e
   ·rcases List.mem_cons.1 ((h y).2 (by simp)) with e' | e'
    ·exact e'.symm
    ·have a1 := g2.1 x e
     have a2 := g1.1 y e'
     have := o.anti x y
     omega
  subst exy
  refine congrArg _ (zf8 o g1.2 g2.2 fun z => ⟨fun hz => ?_, fun hz => ?_⟩)
  ·rcases List.mem_cons.1 ((h z).1 (by simp [hz])) with e | e
   ·subst e; have := g1.1 z hz; have := o.self z; omega
   ·exact e
  ·rcases List.mem_cons.1 ((h z).2 (by simp [hz])) with e | e
   ·subst e; have := g2.1 z hz; have := o.self z; omega
   ·exact e
def spot (c : α -> α -> Int) (n : α) (l : List α) : Nat -> Nat
 | 0 => 0
 | k + 1 => match l[k]? with
  | some x => if c n x < 0 then spot c n l k else k + 1
  | none => k + 1
variable [DecidableEq α]
end
end Go.Am
