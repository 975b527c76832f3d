/-
 AM, PART 35. Orders (numbers, texts, one behind the other), rising lists: the plain law.
-/
import Derived.Lib.Bytealg
namespace Go.Am

def cmpI (a b : Int) : Int := if a < b then -1 else if b < a then 1 else 0
def orI (a b : Int) : Int := if a = 0 then b else a
theorem zg6 {a b : Int} : cmpI a b = 0 ↔ a = b := by unfold cmpI; split <;> (try split) <;> omega
theorem zfY (a : Int) : orI 0 a = a := rfl
theorem zmC {a : Int} (h : a ≠ 0) (b : Int) : orI a b = a := if_neg h
open Go.Lib in
open Go.Lib in
open Go.Lib in
open Go.Lib in
open Go.Lib in
structure Ordr {α : Type} (c : α -> α -> Int) : Prop where
 anti : ∀ a b, c b a = - c a b
 same : ∀ a b d, c a b = 0 -> c a d = c b d
 down : ∀ a b d, c a b < 0 -> c b d < 0 -> c a d < 0
theorem Ordr.self {α : Type} {c : α -> α -> Int} (o : Ordr c) (a : α) : c a a = 0 := by have := o.anti a a; omega
theorem ordr_int : Ordr cmpI := by
 refine ⟨fun a b => ?_, fun a b d h => by rw [zg6] at h; rw [h], fun a b d => ?_⟩
 ·unfold cmpI; split <;> split <;> (try split) <;> omega
 ·unfold cmpI; repeat' split
  all_goals omega
theorem Ordr.on {α β : Type} {c : α -> α -> Int} (o : Ordr c) (f : β -> α) : Ordr fun a b => c (f a) (f b) :=
 ⟨fun a b => o.anti (f a) (f b), fun a b d => o.same (f a) (f b) (f d), fun a b d => o.down (f a) (f b) (f d)⟩
theorem Ordr.or {α : Type} {c e : α -> α -> Int} (o : Ordr c) (p : Ordr e) : Ordr fun a b => orI (c a b) (e a b) := by
 refine ⟨fun a b => ?_, fun a b d h => ?_, fun a b d h1 h2 => ?_⟩
 ·have h1 := o.anti a b
  have h2 := p.anti a b
  simp only [orI]; split <;> split <;> omega
 ·simp only [orI] at h ⊢
  split at h
  ·rename_i h0
   rw [o.same a b d h0, p.same a b d h]
  ·rename_i h0; exact absurd h h0
 ·simp only [orI] at h1 h2 ⊢
  by_cases ab : c a b = 0
  ·rw [if_pos ab] at h1
   rw [o.same a b d ab]
   split at h2
   ·rename_i bd; rw [if_pos bd]; exact p.down a b d h1 h2
   ·rename_i bd; rw [if_neg bd]; exact h2
  ·rw [if_neg ab] at h1
   by_cases bd : c b d = 0
   ·have e1 := o.anti a d
    have e2 := o.anti b d
    have e3 := o.same d b a (by omega)
    have e4 := o.anti a b
    have : c a d = c a b := by have := o.anti b a; omega
    rw [this, if_neg ab]; exact h1
   ·rw [if_neg bd] at h2
    have := o.down a b d h1 h2
    rw [if_neg (by omega)]; exact this
open Go.Lib in
open Go.Lib in
section
variable {α : Type} {c : α -> α -> Int}
def Rise (c : α -> α -> Int) (l : List α) : Prop := l.Pairwise fun a b => c a b < 0
theorem zfW (o : Ordr c) : ∀ {l m : List α}, Rise c l -> Rise c m -> (∀ x, x ∈ l ↔ x ∈ m) -> l = m
 | [], [], _, _, _ => rfl
 | [], y :: m, _, _, h => by have := (h y).2 (by simp); simp at this
 | x :: l, [], _, _, h => by have := (h x).1 (by simp); simp at this
 | x :: l, y :: m, h1, h2, h => by
  have g1 := List.pairwise_cons.1 h1
  have g2 := List.pairwise_cons.1 h2
  have exy : x = y := by
   rcases List.mem_cons.1 ((h x).1 (by simp)) with e | e
   ·exact e
   ·rcases List.mem_cons.1 ((h y).2 (by simp)) with e' | e'
    ·exact e'.symm
    ·have a1 := g2.1 x e
     have a2 := g1.1 y e'
     have := o.anti x y
     omega
  subst exy
  refine congrArg _ (zfW o g1.2 g2.2 fun z => ⟨fun hz => ?_, fun hz => ?_⟩)
  ·rcases List.mem_cons.1 ((h z).1 (by simp [hz])) with e | e
   ·subst e; have := g1.1 z hz; have := o.self z; omega
   ·exact e
  ·rcases List.mem_cons.1 ((h z).2 (by simp [hz])) with e | e
   ·subst e; have := g2.1 z hz; have := o.self z; omega
   ·exact e
def spot (c : α -> α -> Int) (n : α) (l : List α) : Nat -> Nat
 | 0 => 0
 | k + 1 => match l[k]? with
  | some x => if c n x < 0 then spot c n l k else k + 1
  | none => k + 1
theorem zhx (n : α) (l : List α) : ∀ k, spot c n l k ≤ k
 | 0 => Nat.le_refl _
 | k + 1 => by
  unfold spot
  split
  ·split
   ·have := zhx n l k; omega
   ·omega
  ·omega
theorem zfU (n : α) (l : List α) : ∀ k, k ≤ l.length -> ∀ j (hj : j < l.length), spot c n l k ≤ j -> j < k -> c n l[j] < 0
 | 0, _, j, hj, _, h => absurd h (by omega)
 | k + 1, hk, j, hj, h1, h2 => by
  have e : l[k]? = some l[k] := List.getElem?_eq_getElem (by omega)
  unfold spot at h1
  rw [e] at h1
  simp only at h1
  split at h1
  ·rename_i hc
   rcases Nat.lt_or_ge j k with g | g
   ·exact zfU n l k (by omega) j hj h1 g
   ·have : j = k := by omega
    subst this; exact hc
  ·omega
theorem zff (n : α) (l : List α) : ∀ k, k ≤ l.length -> ∀ j, spot c n l k = j + 1 -> ∃ h : j < l.length, ¬ c n l[j] < 0
 | 0, _, j, h => by simp [spot] at h
 | k + 1, hk, j, h => by
  have e : l[k]? = some l[k] := List.getElem?_eq_getElem (by omega)
  unfold spot at h
  rw [e] at h
  simp only at h
  split at h
  ·exact zff n l k (by omega) j h
  ·rename_i hc
   have : j = k := by omega
   subst this; exact ⟨by omega, hc⟩
variable [DecidableEq α]
def putL (c : α -> α -> Int) (l : List α) (n : α) : List α :=
 let k := spot c n l l.length
 if 0 < k ∧ l[k - 1]? = some n then l else l.take k ++ n :: l.drop k
theorem zjv (o : Ordr c) (e0 : ∀ a b, c a b = 0 -> a = b) {l : List α} (h : Rise c l) (n : α) : Rise c (putL c l n) := by
 unfold putL
 simp only
 split
 ·exact h
 ·rename_i hn
  have hk := zhx (c := c) n l l.length
  generalize hsp : spot c n l l.length = k at hn hk
  have hA : ∀ x ∈ l.take k, c x n < 0 := by
   intro x hx
   obtain ⟨i, hi, rfl⟩ := List.mem_iff_getElem.1 hx
   rw [List.length_take] at hi
   rw [List.getElem_take]
   obtain ⟨j, rfl⟩ : ∃ j, k = j + 1 := ⟨k - 1, by omega⟩
   obtain ⟨hj, hc⟩ := zff n l l.length (Nat.le_refl _) j hsp
   have h1 : c l[j] n < 0 := by
    have a := o.anti n l[j]
    rcases Int.lt_trichotomy (c n l[j]) 0 with g | g | g
    ·exact absurd g hc
    ·exfalso; apply hn
     refine ⟨by omega, ?_⟩
     rw [Nat.add_sub_cancel, List.getElem?_eq_getElem hj, e0 _ _ g]
    ·omega
   rcases Nat.lt_or_ge i j with g | g
   ·exact o.down _ _ _ (List.pairwise_iff_getElem.1 h i j (by omega) hj g) h1
   ·have : i = j := by omega
    subst this; exact h1
  have hB : ∀ x ∈ l.drop k, c n x < 0 := by
   intro x hx
   obtain ⟨i, hi, rfl⟩ := List.mem_iff_getElem.1 hx
   rw [List.length_drop] at hi
   rw [List.getElem_drop]
   exact zfU n l l.length (Nat.le_refl _) (k + i) (by omega) (by omega) (by omega)
  refine List.pairwise_append.2 ⟨h.sublist (List.take_sublist ..), List.pairwise_cons.2 ⟨hB, h.sublist (List.drop_sublist ..)⟩, fun x hx y hy => ?_⟩
  rcases List.mem_cons.1 hy with rfl | hy
  ·exact hA x hx
  ·exact o.down _ _ _ (hA x hx) (hB y hy)
theorem zmh (l : List α) (n x : α) : x ∈ putL c l n ↔ x = n ∨ x ∈ l := by
 unfold putL
 simp only
 split
 ·rename_i h
  constructor
  ·exact .inr
  ·rintro (rfl | g)
   ·exact List.mem_of_getElem? h.2
   ·exact g
 ·rw [List.mem_append, List.mem_cons]
  conv => rhs; rhs; rw [<- List.take_append_drop (spot c n l l.length) l, List.mem_append]
  constructor
  ·rintro (g | g | g)
   ·exact .inr (.inl g)
   ·exact .inl g
   ·exact .inr (.inr g)
  ·rintro (g | g | g)
   ·exact .inr (.inl g)
   ·exact .inl g
   ·exact .inr (.inr g)
theorem zmr (l : List α) (n : α) : (putL c l n).length ≤ l.length + 1 := by
 unfold putL
 simp only
 split
 ·omega
 ·simp only [List.length_append, List.length_take, List.length_cons, List.length_drop]; omega
def zgC (c : α -> α -> Int) (l : List α) : List α := l.foldl (putL c) []
theorem zb2 (o : Ordr c) (e0 : ∀ a b, c a b = 0 -> a = b) : ∀ (l acc : List α), Rise c acc -> Rise c (l.foldl (putL c) acc) ∧ ∀ x, x ∈ l.foldl (putL c) acc ↔ x ∈ acc ∨ x ∈ l
 | [], acc, h => ⟨h, fun x => by simp⟩
 | n :: l, acc, h => by
  obtain ⟨h1, h2⟩ := zb2 o e0 l (putL c acc n) (zjv o e0 h n)
  refine ⟨h1, fun x => ?_⟩
  rw [List.foldl_cons, h2 x, zmh, List.mem_cons]
  constructor
  ·rintro ((g | g) | g)
   ·exact .inr (.inl g)
   ·exact .inl g
   ·exact .inr (.inr g)
  ·rintro (g | g | g)
   ·exact .inl (.inr g)
   ·exact .inl (.inl g)
   ·exact .inr g
def zav : List α -> List α
 | [] => []
 | [a] => [a]
 | a :: b :: l => if a = b then zav (b :: l) else a :: zav (b :: l)
theorem zc9 : ∀ (l : List α) (x : α), x ∈ zav l ↔ x ∈ l
 | [], _ => Iff.rfl
 | [a], _ => Iff.rfl
 | a :: b :: l, x => by
  have ih := zc9 (b :: l) x
  unfold zav
  split
  ·rename_i e; rw [ih, e]; simp
  ·rw [List.mem_cons, ih, List.mem_cons (a := x) (b := a)]
theorem zd8 (o : Ordr c) (e0 : ∀ a b, c a b = 0 -> a = b) : ∀ {l : List α}, l.Pairwise (fun x y => ¬ c y x < 0) -> Rise c (zav l)
 | [], _ => List.Pairwise.nil
 | [a], _ => List.pairwise_singleton _ a
 | a :: b :: l, h => by
  have g := List.pairwise_cons.1 h
  have ih := zd8 o e0 g.2
  unfold zav
  split
  ·exact ih
  ·rename_i hab
   refine List.pairwise_cons.2 ⟨fun x hx => ?_, ih⟩
   have lt_ab : c a b < 0 := by
    have h1 := g.1 b (by simp)
    have h2 := o.anti a b
    rcases Int.lt_trichotomy (c a b) 0 with k | k | k
    ·exact k
    ·exact absurd (e0 _ _ k) hab
    ·omega
   rw [zc9] at hx
   rcases List.mem_cons.1 hx with rfl | hx
   ·exact lt_ab
   ·have h3 := (List.pairwise_cons.1 g.2).1 x hx
    have h4 := o.anti b x
    rcases Int.lt_trichotomy (c b x) 0 with k | k | k
    ·exact o.down _ _ _ lt_ab k
    ·rw [<- e0 _ _ k]; exact lt_ab
    ·omega
theorem zgG (o : Ordr c) (e0 : ∀ a b, c a b = 0 -> a = b) {l m : List α} (hp : m.Perm l) (hs : m.Pairwise fun x y => ¬ c y x < 0) : zav m = zgC c l := by
 obtain ⟨h1, h2⟩ := zb2 o e0 l [] List.Pairwise.nil
 refine zfW o (zd8 o e0 hs) h1 fun x => ?_
 rw [zc9, zgC, h2 x, hp.mem_iff]; simp
end
end Go.Am
