/-
  One round of Decode, plainly; its last byte.
-/
import Derived.Test.YtcokdbloajhapaaDoorN7
namespace Go.Am
open Go.Proofs

set_option maxRecDepth 100000
def tkC (c : Bool) (n : Nat) (st : List UInt8 × Bool) : Nat × (List UInt8 × Bool) := if c = true then tkS n st else (0, st)
theorem tkC_true (n : Nat) (st : List UInt8 × Bool) : tkC true n st = tkS n st := rfl
theorem tkC_false (n : Nat) (st : List UInt8 × Bool) : tkC false n st = (0, st) := rfl
/-- The numbers of one round. -/
structure ItN where
  id : Nat
  b : Nat
  lab : Nat
  rd : Nat
  st : List UInt8 × Bool
def badLab (fam : Int) (v : Nat) : Bool := labelF fam && (decide (v % 2 = 0) && !decide (v = 8388608))
def itS (fam : Int) (add : Bool) (s : List UInt8) : ItN :=
  let s1 := tkC add 4 (s, false)
  let s2 := tkS 1 s1.2
  let s3 := tkC (labelF fam) 3 s2.2
  let s4 := tkC (apartF fam) 8 (s3.2.1, s3.2.2 || badLab fam s3.1)
  ⟨s1.1, s2.1, s3.1, s4.1, s4.2⟩
theorem tkS_bad {n : Nat} {l : List UInt8} : (tkS n (l, true)).2.2 = true := by unfold tkS; split <;> rfl
theorem tkC_bad {c : Bool} {n : Nat} {l : List UInt8} : (tkC c n (l, true)).2.2 = true := by cases c; rfl; exact tkS_bad
theorem tkS_yes {n : Nat} {l : List UInt8} {w : Bool} (h : n ≤ l.length) : tkS n (l, w) = (val (l.take n), (l.drop n, w)) := by unfold tkS; rw [if_pos h]
theorem tkS_no {n : Nat} {l : List UInt8} {w : Bool} (h : ¬ n ≤ l.length) : tkS n (l, w) = (0, (l, true)) := by unfold tkS; rw [if_neg h]
theorem st_bad {st : List UInt8 × Bool} (h : st.2 = true) : st = (st.1, true) := by rw [← h]
theorem itS_bad2 (fam : Int) (s2 : Nat × (List UInt8 × Bool)) (h : s2.2.2 = true) : (tkC (apartF fam) 8 ((tkC (labelF fam) 3 s2.2).2.1, (tkC (labelF fam) 3 s2.2).2.2 || badLab fam (tkC (labelF fam) 3 s2.2).1)).2.2 = true := by
  rw [st_bad h, tkC_bad, Bool.true_or]; exact tkC_bad
theorem dec1_it (fam : Int) (add : Bool) (s : List UInt8) : dec1 fam add s =
    if (itS fam add s).st.2 = true ∨ (itS fam add s).b < aheadN fam ∨ 8 * sizeN fam < (itS fam add s).b - aheadN fam then none else
    match tk (wholeN ((itS fam add s).b - aheadN fam)) (itS fam add s).st.1 with
    | none => none
    | some (a, r) => some (⟨⟨fam, (itS fam add s).rd, maskL (a ++ List.replicate (sizeN fam - a.length) 0) ((itS fam add s).b - aheadN fam : Nat), ((itS fam add s).b - aheadN fam : Nat)⟩, (itS fam add s).id, if (itS fam add s).lab = 8388608 then 0 else (itS fam add s).lab / 16⟩, r) := by
  have part1 : ∀ (c : Bool) (n : Nat) (l : List UInt8), (∃ a r, tkIf c n l = some (a, r) ∧ tkC c n (l, false) = (val a, (r, false))) ∨ (tkIf c n l = none ∧ (tkC c n (l, false)).2.2 = true) := by
    intro c n l
    cases c with
    | false => exact .inl ⟨[], l, rfl, rfl⟩
    | true =>
      by_cases h : n ≤ l.length
      · exact .inl ⟨l.take n, l.drop n, by simp [tkIf, tk, h], by rw [tkC_true, tkS_yes h]⟩
      · exact .inr ⟨by simp [tkIf, tk, h], by rw [tkC_true, tkS_no h]⟩
  have part2 : ∀ (n : Nat) (l : List UInt8), (∃ a r, tk n l = some (a, r) ∧ tkS n (l, false) = (val a, (r, false))) ∨ (tk n l = none ∧ (tkS n (l, false)).2.2 = true) := fun n l => part1 true n l
  unfold dec1
  rcases part1 add 4 s with ⟨a1, r1, e1, f1⟩ | ⟨e1, f1⟩
  rotate_left
  · have : (itS fam add s).st.2 = true := by
      simp only [itS]
      exact itS_bad2 fam _ (by rw [st_bad f1]; exact tkS_bad)
    simp [e1, this]
  rcases part2 1 r1 with ⟨a2, r2, e2, f2⟩ | ⟨e2, f2⟩
  rotate_left
  · have : (itS fam add s).st.2 = true := by
      simp only [itS, f1]
      exact itS_bad2 fam _ f2
    simp [e1, e2, this]
  rcases part1 (labelF fam) 3 r2 with ⟨a3, r3, e3, f3⟩ | ⟨e3, f3⟩
  rotate_left
  · have : (itS fam add s).st.2 = true := by
      simp only [itS, f1, f2]
      rw [f3, Bool.true_or]; exact tkC_bad
    simp [e1, e2, e3, this]
  by_cases hb : labelF fam = true ∧ val a3 % 2 = 0 ∧ val a3 ≠ 8388608
  · have hbl : badLab fam (val a3) = true := by simp [badLab, hb.1, hb.2.1, hb.2.2]
    have : (itS fam add s).st.2 = true := by
      simp only [itS, f1, f2, f3, hbl, Bool.or_true]; exact tkC_bad
    simp only [e1, e2, e3]
    rw [if_pos hb, if_pos (.inl this)]
  have hbl : badLab fam (val a3) = false := by
    simp only [badLab]
    cases h1 : labelF fam <;> simp
    intro h2
    rcases Nat.decEq (val a3) 8388608 with h3 | h3
    · exact absurd ⟨h1, h2, h3⟩ hb
    · exact h3
  rcases part1 (apartF fam) 8 r3 with ⟨a4, r4, e4, f4⟩ | ⟨e4, f4⟩
  rotate_left
  · have : (itS fam add s).st.2 = true := by
      simp only [itS, f1, f2, f3, hbl, Bool.or_false]; exact f4
    simp only [e1, e2, e3, e4]
    rw [if_neg hb, if_pos (.inl this)]
  have hit : itS fam add s = ⟨val a1, val a2, val a3, val a4, (r4, false)⟩ := by
    simp only [itS, f1, f2, f3, hbl, Bool.or_false, f4]
  simp only [e1, e2, e3, e4, hit]
  rw [if_neg hb]
  simp
  split
  · rfl
  · cases tk (wholeN (val a2 - aheadN fam)) r4 <;> rfl
/-- The last byte's bits beyond, one after the other. -/
theorem andnot_step : ∀ b : Nat, b < 256 → ∀ k : Nat, k < 8 → IntKind.u8.wrap ((BitVec.ofInt 8 ((b / 2 ^ k * 2 ^ k : Nat) : Int) &&& ~~~ BitVec.ofInt 8 ((2 ^ k : Nat) : Int)).toNat : Int) = ((b / 2 ^ (k + 1) * 2 ^ (k + 1) : Nat) : Int) := by decide +kernel
def lastB (l : List UInt8) (m k : Nat) : List UInt8 := l.set (m - 1) (UInt8.ofNat ((l.getD (m - 1) 0).toNat / 2 ^ k * 2 ^ k))
theorem lastB_len (l : List UInt8) (m k : Nat) : (lastB l m k).length = l.length := by simp [lastB]
theorem lastB_zero {l : List UInt8} {m : Nat} : lastB l m 0 = l := by
  unfold lastB
  by_cases h : m - 1 < l.length
  · rw [List.getD_eq_getElem?_getD, List.getElem?_eq_getElem h]
    simp
  · exact List.set_eq_of_length_le (by omega)
/-- Cut to its bits: only the last byte that was told turns. -/
theorem mask_told {a : List UInt8} {bits z : Nat} (hm : a.length = wholeN bits) : maskL (a ++ List.replicate z 0) bits = lastB (a ++ List.replicate z 0) a.length (8 * a.length - bits) := by
  unfold wholeN at hm
  unfold lastB
  refine List.ext_getElem (by simp [maskL_len]) fun j h1 h2 => ?_
  rw [maskL_len] at h1
  rw [maskL_get _ _ _ h1]
  rw [List.getElem_set]
  by_cases hj : a.length - 1 = j
  · rw [if_pos hj]
    by_cases h0 : a.length = 0
    · have hb : bits = 0 := by omega
      have ha : a = [] := List.length_eq_zero_iff.1 h0
      subst ha
      subst hb
      simp
      rw [maskN_small (by omega)]
      cases z <;> rfl
    · have hlt : a.length - 1 < a.length := by omega
      have e : (a ++ List.replicate z 0)[j] = a[a.length - 1] := by
        subst hj
        rw [List.getElem_append_left hlt]
      have e2 : (a ++ List.replicate z 0).getD (a.length - 1) 0 = a[a.length - 1] := by
        rw [List.getD_eq_getElem?_getD, List.getElem?_append_left hlt, List.getElem?_eq_getElem hlt]; rfl
      rw [e, e2]
      congr 1
      unfold maskN
      rw [if_neg (by omega)]
      split
      · rw [show 8 - ((bits : Int) - 8 * (j : Int)).toNat = 8 * a.length - bits by omega]
      · rw [show 8 * a.length - bits = 0 by omega]; simp
  · rw [if_neg hj]
    by_cases h3 : j < a.length
    · rw [List.getElem_append_left h3, maskN_big (by omega)]; simp
    · rw [List.getElem_append_right (by omega)]
      simp
      have := maskN_le 0 ((bits : Int) - 8 * (j : Int))
      have h4 : maskN 0 ((bits : Int) - 8 * (j : Int)) = 0 := by omega
      rw [h4]; rfl
end Go.Am
