/-
  What is decoded may be: the plain law.
-/
import Derived.Test.YtapokdcbhpdceaaWA
namespace Go.Am
open Go.Proofs

structure GoodSt (o : Opn) : Prop where
  fam : FamOk o.fams
  asn : 0 < o.asn
  four : o.four = false → o.asn ≤ 65535
  hold : o.hold = 0 ∨ (3 ≤ o.hold ∧ o.hold ≤ 65535)
  id : 0 < o.id
  adds : FamOk (o.adds.map Add.fam)
  how : ∀ x ∈ o.adds, (x.send || x.take) = true
  gr : o.hasgr = false → o.again = false ∧ o.time = 0 ∧ o.kept = []
  tm : 0 ≤ o.time ∧ o.time ≤ 4095
  kept : FamOk (o.kept.map Rest.fam)

theorem rising_of : ∀ (l : List Int) (last : Int), l.Pairwise (· < ·) → (∀ x ∈ l, last < x ∧ x ≤ 5) → rising last l = true
  | [], _, _, _ => rfl
  | f :: l, last, hp, h => by
    cases hp with
    | cons h1 h2 =>
      have := h f (by simp)
      simp only [rising, Bool.and_eq_true, Bool.not_eq_true', Bool.or_eq_false_iff, decide_eq_false_iff_not]
      exact ⟨⟨by omega, by omega⟩, rising_of l f h2 fun x hx => ⟨h1 x hx, (h x (by simp [hx])).2⟩⟩
theorem FamOk.rise {l : List Int} (h : FamOk l) : rising 0 l = true := rising_of l 0 h.1 fun x hx => by have := h.2 x hx; omega
theorem GoodSt.check {o : Opn} (g : GoodSt o) (hne : o.fams ≠ []) : checkB o = true := by
  obtain ⟨g1, g2, g3, g4, g5, g6, g7, g8, g9, g10⟩ := g
  have r1 := g1.rise
  have r2 := g6.rise
  have r3 := g10.rise
  unfold checkB
  rw [r1, r2, r3]
  have a1 : (o.asn == 0) = false := by simp; omega
  have a2 : (!o.four && decide (65535 < o.asn)) = false := by
    cases h : o.four with
    | true => rfl
    | false => have := g3 h; simp; omega
  have a3 : decide (o.hold < 0) = false := by simp; omega
  have a4 : (o.hold == 1) = false := by simp; omega
  have a5 : (o.hold == 2) = false := by simp; omega
  have a6 : decide (65535 < o.hold) = false := by simp; omega
  have a7 : (o.id == 0) = false := by simp; omega
  have a8 : o.fams.isEmpty = false := by cases h : o.fams with
    | nil => exact absurd h hne
    | cons a l => rfl
  have a9 : (o.adds.any fun x => !x.send && !x.take) = false := by
    rw [List.any_eq_false]
    intro x hx
    have := g7 x hx
    cases h1 : x.send <;> cases h2 : x.take <;> simp_all
  have a10 : (!o.hasgr && (o.again || o.time != 0 || !o.kept.isEmpty)) = false := by
    cases h : o.hasgr with
    | true => rfl
    | false => obtain ⟨b1, b2, b3⟩ := g8 h; simp [b1, b2, b3]
  have a11 : decide (o.time < 0) = false := by simp; omega
  have a12 : decide (4095 < o.time) = false := by simp; omega
  rw [a1, a2, a3, a4, a5, a6, a7, a8, a9, a10, a11, a12]
  rfl

theorem arr0 (w : Nat → Option Nat) : ∀ (es : List (Int × Nat)) (ks : List Nat), (∀ x ∈ es, 1 ≤ x.1) → ks.getD 0 0 = 0 → (es.foldl (fun ks x => match w x.2 with | some v => ks.set x.1.toNat v | none => ks) ks).getD 0 0 = 0
  | [], ks, _, h => h
  | x :: es, ks, he, h => by
    rw [List.foldl_cons]
    refine arr0 w es _ (fun y hy => he y (by simp [hy])) ?_
    split
    · rw [List.getD_eq_getElem?_getD, List.getElem?_set_ne (by have := he x (by simp); omega), ← List.getD_eq_getElem?_getD]; exact h
    · exact h
theorem range_pair (n : Nat) : (List.range n).Pairwise (· < ·) := List.pairwise_lt_range
theorem idx_ok {α : Type} (fam : α → Int) (g : Nat → Option α) (hg : ∀ i x, g i = some x → fam x = i) (h0 : g 0 = none) : FamOk (((List.range 6).filterMap g).map fam) := by
  have hp : ((List.range 6).filterMap g).Pairwise fun a b => fam a < fam b := by
    rw [List.pairwise_filterMap]
    exact (range_pair 6).imp fun {a b} hab x hx y hy => by
      rw [hg a x hx, hg b y hy]; omega
  refine ⟨by rw [List.pairwise_map]; exact hp, fun x hx => ?_⟩
  obtain ⟨y, hy, rfl⟩ := List.mem_map.1 hx
  obtain ⟨i, hi, e⟩ := List.mem_filterMap.1 hy
  rw [hg i y e]
  have := List.mem_range.1 hi
  have : i ≠ 0 := by rintro rfl; rw [h0] at e; cases e
  omega
theorem keptOf_ok {ks : List Nat} (h : ks.getD 0 0 = 0) : FamOk ((keptOf ks 6).map Rest.fam) := by
  refine idx_ok Rest.fam _ (fun i x e => ?_) (by simp only [h]; rfl)
  split at e
  · cases e; rfl
  · cases e
theorem addsOf_ok {ks : List Nat} (h : ks.getD 0 0 = 0) : FamOk ((addsOf ks 6).map Add.fam) := by
  refine idx_ok Add.fam _ (fun i x e => ?_) (by simp only [h]; rfl)
  split at e
  · cases e; rfl
  · cases e
theorem addsOf_how {ks : List Nat} (h : ∀ i, ks.getD i 0 ≤ 3) : ∀ x ∈ addsOf ks 6, (x.send || x.take) = true := by
  intro x hx
  obtain ⟨i, _, e⟩ := List.mem_filterMap.1 hx
  split at e
  · rename_i hp
    cases e
    have := h i
    have hc : ks.getD i 0 = 1 ∨ ks.getD i 0 = 2 ∨ ks.getD i 0 = 3 := by omega
    rcases hc with h | h | h <;> simp only [h] <;> rfl
  · cases e
theorem arr69_le (s : List UInt8) : ∀ i, (arrB w69 (ents s)).getD i 0 ≤ 3 := fun i => by
  rw [List.getD_eq_getElem?_getD]
  rcases Nat.lt_or_ge i (arrB w69 (ents s)).length with h | h
  · rw [List.getElem?_eq_getElem h]
    have := arr_le w69 3 (fun b v hv _ => by unfold w69 at hv; split at hv <;> simp at hv; omega) (ents s) [0, 0, 0, 0, 0, 0] (fun x hx => (ents_lt s x hx).1) (by simp) (arrB w69 (ents s))[i] (List.getElem_mem h)
    simpa using this
  · rw [List.getElem?_eq_none h]; simp
theorem capS_good {o o' : Opn} {code : Nat} {s : List UInt8} (g : GoodSt o) (e : capS o code s = .ok o') : GoodSt o' := by
  obtain ⟨g1, g2, g3, g4, g5, g6, g7, g8, g9, g10⟩ := g
  have h0 : ∀ (w : Nat → Option Nat) (l : List UInt8), (arrB w (ents l)).getD 0 0 = 0 := fun w l => arr0 w (ents l) _ (fun x hx => (ents_lt l x hx).2.1) rfl
  unfold capS at e
  split at e
  · split at e
    · cases e
      split
      · exact ⟨withB_ok _ _, g2, g3, g4, g5, g6, g7, g8, g9, g10⟩
      · exact ⟨g1, g2, g3, g4, g5, g6, g7, g8, g9, g10⟩
    · cases e
  split at e
  · cases e; exact ⟨g1, g2, g3, g4, g5, g6, g7, g8, g9, g10⟩
  split at e
  · split at e
    · cases e
    · cases e
      exact ⟨g1, g2, g3, g4, g5, g6, g7, fun h => absurd h (by simp), by simp only; omega, keptOf_ok (h0 _ _)⟩
  split at e
  · split at e
    · split at e
      · cases e
      · cases e
        exact ⟨g1, by simp only; omega, fun h => absurd h (by simp), g4, g5, g6, g7, g8, g9, g10⟩
    · cases e
  split at e
  · split at e
    · cases e
      exact ⟨g1, g2, g3, g4, g5, addsOf_ok (h0 _ _), addsOf_how (arr69_le s), g8, g9, g10⟩
    · cases e
  · cases e; exact ⟨g1, g2, g3, g4, g5, g6, g7, g8, g9, g10⟩
theorem eachB_keeps {σ : Type} {step : σ → Nat → List UInt8 → Except Nat σ} (I : σ → Prop) (hs : ∀ st c l st', I st → step st c l = .ok st' → I st') : ∀ (n : Nat) (st : σ) (l : List UInt8) (st' : σ), l.length ≤ n → I st → eachB step st l = .ok st' → I st' := by
  intro n
  induction n with
  | zero =>
    intro st l st' hl hi e
    have : l = [] := List.length_eq_zero_iff.1 (by omega)
    subst this
    simp [eachB] at e
    rw [← e]; exact hi
  | succ n ih =>
    intro st l st' hl hi e
    match l, hl, e with
    | [], _, e => simp [eachB] at e; rw [← e]; exact hi
    | [_], _, e => simp [eachB] at e
    | c :: m :: l, hl, e =>
      rw [eachB] at e
      split at e
      · split at e
        · rename_i st2 h2
          exact ih st2 _ st' (by simp at hl ⊢; omega) (hs _ _ _ _ hi h2) e
        · cases e
      · cases e
theorem decB_check {s : List UInt8} {o : Opn} (e : decB s = .ok o) : checkB o = true := by
  unfold decB at e
  split at e
  · cases e
  split at e
  · cases e
  split at e
  · cases e
  split at e
  · cases e
  split at e
  · cases e
  split at e
  · cases e
  rename_i hlen _ has hho hid _
  split at e
  · cases e
  · rename_i o1 h1
    have l2 := val_lt2 (l := (s.drop 1).take 2) (by simp; omega)
    have l3 := val_lt2 (l := (s.drop 3).take 2) (by simp; omega)
    have g0 : GoodSt ⟨val ((s.drop 1).take 2), val ((s.drop 3).take 2), val ((s.drop 5).take 4), [], false, false, [], false, false, 0, []⟩ :=
      ⟨⟨.nil, by simp⟩, by simp only; omega, fun _ => by simp only; omega, by simp only; omega, by simp only; omega, ⟨.nil, by simp⟩, by simp, fun _ => ⟨rfl, rfl, rfl⟩, by simp, ⟨.nil, by simp⟩⟩
    have g1 : GoodSt o1 := eachB_keeps GoodSt (fun st c l st' hi e => by
      unfold step1 at e
      split at e
      · exact eachB_keeps GoodSt (fun _ _ _ _ g e => capS_good g e) _ _ _ _ (Nat.le_refl _) hi e
      · cases e) _ _ _ _ (Nat.le_refl _) g0 h1
    cases e
    split
    · obtain ⟨a1, a2, a3, a4, a5, a6, a7, a8, a9, a10⟩ := g1
      exact GoodSt.check ⟨⟨by simp, by simp⟩, a2, a3, a4, a5, a6, a7, a8, a9, a10⟩ (by simp)
    · rename_i hne
      exact g1.check (by intro e; simp [e] at hne)
end Go.Am
