/-
  Contracts: equal (of two lists that are equal); OpenTurned answers true.
-/
import Derived.Test.YtapokdcbhpdceaaO12
import Derived.Test.YtapokdcbhpdceaaO8
namespace Go.Am
open Go.Proofs

theorem equal_ct {h : H} {v u : V} {l : List Int} (hv : Ints h.get v l) (hu : Ints h.get u l) : Pure Try.prog 23 [v, u] h (.bool true) := by
  refine pure_to Try.func23 S.Hlaw10_equal_code S.Hlaw10_equal_enter rfl (Nat.le_of_ble_eq_true rfl) fun wf => ?_; simp only [S.Hlaw10_equal]
  have hb := hv.bound
  have lv := hv.lenG wf (n := l.length) (by simp)
  have lu := hu.lenG wf (n := l.length) (by simp)
  simp [lv, lu]
  refine loop_up (fun i t h' => (t 0 = v ∧ t 1 = u ∧ t 5 = .int .i64 i) ∧ h = h') l.length ⟨by simp, rfl⟩ ?_
  rintro i t _ hi ⟨⟨h0, h1, h5⟩, rfl⟩ K hK
  by_cases hlt : i < l.length
  · obtain ⟨p, q, o, cs, e1, _, e2, e3⟩ := hv.at1G wf hlt
    obtain ⟨p', q', o', cs', e1', _, e2', e3'⟩ := hu.at1G wf hlt
    have hw := wrap_succ hlt (by simpa using hb)
    simp [h0, h5, lv, hlt]
    refine dreg_of ?_
    simp [h0, h1, h5, e1, e2, e3, e1', e2', e3']
    exact hK _ _ hlt ⟨by simp [h0, h1, hw], rfl⟩
  · simp [h0, h5, lv, hlt]

/-! ### Two rising lists: what both hold -/
theorem rising_mem : ∀ (l : List Int) (last : Int), rising last l = true → ∀ x ∈ l, last < x
  | [], _, _, x, hx => by cases hx
  | f :: l, last, h, x, hx => by
    simp [rising] at h
    rcases List.mem_cons.1 hx with rfl | hx
    · exact h.1.1
    · have := rising_mem l f h.2 x hx; omega
theorem rising_pair : ∀ (l : List Int) (last : Int), rising last l = true → l.Pairwise (· < ·)
  | [], _, _ => .nil
  | f :: l, last, h => by
    simp [rising] at h
    exact .cons (fun x hx => rising_mem l f h.2 x hx) (rising_pair l f h.2)
theorem pair_ext : ∀ (a b : List Int), a.Pairwise (· < ·) → b.Pairwise (· < ·) → (∀ x, x ∈ a ↔ x ∈ b) → a = b
  | [], [], _, _, _ => rfl
  | [], y :: b, _, _, e => by have := (e y).2 (by simp); cases this
  | x :: a, [], _, _, e => by have := (e x).1 (by simp); cases this
  | x :: a, y :: b, ha, hb, e => by
    cases ha with
    | cons ha1 ha2 =>
      cases hb with
      | cons hb1 hb2 =>
        have hxy : x = y := by
          have h1 := (e x).1 (by simp)
          have h2 := (e y).2 (by simp)
          rcases List.mem_cons.1 h1 with h1 | h1
          · exact h1
          · rcases List.mem_cons.1 h2 with h2 | h2
            · exact h2.symm
            · have := hb1 x h1; have := ha1 y h2; omega
        subst hxy
        refine congrArg (x :: ·) (pair_ext a b ha2 hb2 fun z => ⟨fun hz => ?_, fun hz => ?_⟩)
        · rcases List.mem_cons.1 ((e z).1 (by simp [hz])) with rfl | h
          · exact absurd (ha1 z hz) (by omega)
          · exact h
        · rcases List.mem_cons.1 ((e z).2 (by simp [hz])) with rfl | h
          · exact absurd (hb1 z hz) (by omega)
          · exact h
theorem shFams_comm {o p : Opn} (ho : checkB o = true) (hp : checkB p = true) : shFams o p = shFams p o := by
  have r1 : rising 0 o.fams = true := by have := checkB_parts o; rw [ho] at this; simp at this; exact this.2.1
  have r2 : rising 0 p.fams = true := by have := checkB_parts p; rw [hp] at this; simp at this; exact this.2.1
  refine pair_ext _ _ ((rising_pair _ _ r1).filter _) ((rising_pair _ _ r2).filter _) fun x => ?_
  simp [shFams]
  exact And.comm
theorem shHold_comm (o p : Opn) : shHold o p = shHold p o := by unfold shHold; split <;> split <;> omega

set_option maxRecDepth 100000
theorem openTurned_ct {h : H} {o p : Opn} {f a k f' a' k' : V} (ho : OpnAt h.get o f a k) (hp : OpnAt h.get p f' a' k') : Pure Try.prog 7 [opnV o f a k, opnV p f' a' k'] h (.bool true) := by
  refine pure_to Try.func7 S.Hlaw10_OpenTurned_code S.Hlaw10_OpenTurned_enter rfl (Nat.le_of_ble_eq_true rfl) fun wf => ?_; simp only [S.Hlaw10_OpenTurned]
  have o1 := ho.fams.one
  have o2 := ho.adds.one
  have o3 := ho.kept.one
  have p1 := hp.fams.one
  have p2 := hp.adds.one
  have p3 := hp.kept.one
  simp only [opnV]
  simp [o1, o2, o3, p1, p2, p3]
  obtain ⟨hb, hhb⟩ : ∃ hb, hb = (h.push (.row (opnC o f a k))).push (.row (opnC p f' a' k')) := ⟨_, rfl⟩
  have gb : Ge h hb := by rw [hhb]; exact ((Ge.refl _).push _).push _
  have wb : hb.WF := by rw [hhb]; exact (wf.push _).push _
  have nb : hb.next = h.next + 2 := by rw [hhb]; rfl
  have c1 : ∀ x, Ge hb x → cellsAt x.get h.next 11 = some (opnC o f a k) := fun x gx => by rw [gx.cells (by omega), hhb]; simp [opnC]
  have c2 : ∀ x, Ge hb x → cellsAt x.get (h.next + 1) 11 = some (opnC p f' a' k') := fun x gx => by rw [gx.cells (by omega), hhb]; simp [opnC]
  simp only [opnC] at hhb c1 c2
  rw [← hhb]
  refine works_ct _ _ ?_
  simp [c1, c2]
  refine agree_ct (ho.ge wf gb) (hp.ge wf gb) (fun hno h2 g2 w2 => ?_) (fun co cp fv ov tv kv h2 g2 w2 sh => ?_)
  · have m1 : ¬ h.next = h2.next := by have := g2.1; omega
    have m2 : ¬ h.next + 1 = h2.next := by have := g2.1; omega
    obtain ⟨h3, hh3⟩ : ∃ h3, h3 = (h2.push (.row [.int .i64 0, .nilsl, .bool false, .bool false, .nilsl, .nilsl, .bool false, .bool false, .int .i64 0, .nilsl])).set h2.next (.row [.int .i64 0, .nilsl, .bool false, .bool false, .nilsl, .nilsl, .bool false, .bool false, .int .i64 0, .nilsl]) := ⟨_, rfl⟩
    have g3 : Ge h2 h3 := by rw [hh3]; exact ((Ge.refl _).push _).set (Nat.le_refl _) _
    have w3 : h3.WF := by rw [hh3]; exact (w2.push _).set (by simp) _
    have n3 : h3.next = h2.next + 1 := by rw [hh3]; rfl
    have gb3 := gb.trans (g2.trans g3)
    simp [c1 _ g2, c2 _ g2, m1, m2]
    rw [← hh3]
    refine agree_ct (hp.ge wf gb3) (ho.ge wf gb3) (fun hno' h4 g4 w4 => ?_) (fun cp co fv ov tv kv h2 g2 w2 sh => by rw [cp, co] at hno; cases hno)
    have x3 : h3.get h2.next = some (.row [.int .i64 0, .nilsl, .bool false, .bool false, .nilsl, .nilsl, .bool false, .bool false, .int .i64 0, .nilsl]) := by rw [hh3]; simp
    have x4 := (g4.2 _ (by omega)).trans x3
    have xc : cellsAt h4.get h2.next 10 = _ := cellsAt_of x4 (by simp)
    have m3 : ¬ h2.next = h4.next := by have := g4.1; omega
    simp [xc, m3]
    exact (((gb3.trans g4).push _).set (by have := gb3.1; have := g4.1; omega) _)
  · have f1 := sh.fams.one
    have f2 := sh.out.one
    have f3 := sh.take.one
    have f4 := sh.kept.one
    have m1 : ¬ h.next = h2.next := by have := g2.1; omega
    have m2 : ¬ h.next + 1 = h2.next := by have := g2.1; omega
    obtain ⟨h3, hh3⟩ : ∃ h3, h3 = (h2.push (.row [.int .i64 0, .nilsl, .bool false, .bool false, .nilsl, .nilsl, .bool false, .bool false, .int .i64 0, .nilsl])).set h2.next (.row (shrC o p fv ov tv kv)) := ⟨_, rfl⟩
    have g3 : Ge h2 h3 := by rw [hh3]; exact ((Ge.refl _).push _).set (Nat.le_refl _) _
    have w3 : h3.WF := by rw [hh3]; exact (w2.push _).set (by simp) _
    have n3 : h3.next = h2.next + 1 := by rw [hh3]; rfl
    have x3 : h3.get h2.next = some (.row (shrC o p fv ov tv kv)) := by rw [hh3]; simp
    have gb3 := gb.trans (g2.trans g3)
    simp only [shrC] at hh3
    simp [c1 _ g2, c2 _ g2, m1, m2, shrC, f1, f2, f3, f4]
    rw [← hh3]
    refine agree_ct (hp.ge wf gb3) (ho.ge wf gb3) (fun hno' h4 g4 w4 => by rw [cp, co] at hno'; cases hno') (fun _ _ fv' ov' tv' kv' h4 g4 w4 sh' => ?_)
    have f1' := sh'.fams.one
    have f2' := sh'.out.one
    have f3' := sh'.take.one
    have f4' := sh'.kept.one
    have x4 := (g4.2 _ (by omega)).trans x3
    obtain ⟨h5, hh5⟩ : ∃ h5, h5 = (h4.push (.row [.int .i64 0, .nilsl, .bool false, .bool false, .nilsl, .nilsl, .bool false, .bool false, .int .i64 0, .nilsl])).set h4.next (.row (shrC p o fv' ov' tv' kv')) := ⟨_, rfl⟩
    have g5 : Ge h4 h5 := by rw [hh5]; exact ((Ge.refl _).push _).set (Nat.le_refl _) _
    have y5 : h5.get h4.next = some (.row (shrC p o fv' ov' tv' kv')) := by rw [hh5]; simp
    have x5 : h5.get h2.next = some (.row (shrC o p fv ov tv kv)) := by rw [g5.2 _ (by have := g4.1; omega), x4]
    have xc : cellsAt h5.get h2.next 10 = _ := cellsAt_of x5 (by simp [shrC])
    have yc : cellsAt h5.get h4.next 10 = _ := cellsAt_of y5 (by simp [shrC])
    have gb5 : Ge hb h5 := ((g2.trans g3).trans g4).trans g5
    have gh5 := gb.trans gb5
    have k1 := c1 _ gb5
    have k2 := c2 _ gb5
    have m3 : ¬ h2.next = h4.next := by have := g4.1; omega
    have m4 : ¬ h.next = h4.next := by have := g4.1; have := g2.1; omega
    have m5 : ¬ h.next + 1 = h4.next := by have := g4.1; have := g2.1; omega
    have gb4 : Ge hb h4 := (g2.trans g3).trans g4
    have xc4 : cellsAt h4.get h2.next 10 = _ := cellsAt_of x4 (by simp [shrC])
    have k3 := c1 _ gb4
    have k4 := c2 _ gb4
    have sf : Ints h4.get fv' (shFams o p) := by rw [shFams_comm co cp]; exact sh'.fams
    have so : Ints h4.get ov' (bothB p.adds o.adds (shFams o p)) := by rw [shFams_comm co cp]; exact sh'.out
    have st : Ints h4.get tv' (bothB o.adds p.adds (shFams o p)) := by rw [shFams_comm co cp]; exact sh'.take
    have g25 := (g3.trans g4).trans g5
    have e1 : shHold p o = shHold o p := shHold_comm p o
    have e2 : (p.four && o.four) = (o.four && p.four) := Bool.and_comm _ _
    have e3 : (p.refresh && o.refresh) = (o.refresh && p.refresh) := Bool.and_comm _ _
    simp only [shrC, cells_row] at hh5 xc4 xc yc
    simp [shrC, f1', f2', f3', f4', m3, xc4, e1, e2, e3]
    try simp only [e1, e2, e3] at hh5 yc
    rw [← hh5]
    refine equal_ct (sh.fams.ge w2 g25) (sf.ge w4 g5) _ ?_
    simp [xc, yc, eqV]
    refine equal_ct (sh.out.ge w2 g25) (st.ge w4 g5) _ ?_
    simp [xc, yc]
    refine equal_ct (sh.take.ge w2 g25) (so.ge w4 g5) _ ?_
    simp [xc, yc, k1, k2, eqV]
    exact gh5
end Go.Am
