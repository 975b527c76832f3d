/-
  Contracts: Same, Own.
-/
import Derived.Test.YtapokdcbhpdceaaO5
namespace Go.Am
open Go.Proofs

theorem sameInts_ct {h : H} {v u : V} {l : List Int} (hv : Ints h.get v l) (hu : Ints h.get u l) : Pure Try.prog 26 [v, u] h (.bool true) := by
  refine pure_to Try.func26 S.Href10_SameInts_code S.Href10_SameInts_enter rfl (Nat.le_of_ble_eq_true rfl) fun wf => ?_; simp only [S.Href10_SameInts]
  have hb := hv.bound
  have lv := hv.lenG wf (n := l.length) (by simp)
  have lu := hu.lenG wf (n := l.length) (by simp)
  simp [lv, lu]
  refine loop_up (fun i t h' => (t 0 = v ∧ t 1 = u ∧ t 5 = .int .i64 i) ∧ h = h') l.length ⟨by simp, rfl⟩ ?_
  rintro i t _ hi ⟨⟨h0, h1, h5⟩, rfl⟩ K hK
  by_cases hlt : i < l.length
  · obtain ⟨p, q, o, cs, e1, _, e2, e3⟩ := hv.at1G wf hlt
    obtain ⟨p', q', o', cs', e1', _, e2', e3'⟩ := hu.at1G wf hlt
    have hw := wrap_succ hlt (by simpa using hb)
    simp [h0, h5, lv, hlt]
    refine dreg_of ?_
    simp [h0, h1, h5, e1, e2, e3, e1', e2', e3']
    exact hK _ _ hlt ⟨by simp [h0, h1, hw], rfl⟩
  · simp [h0, h5, lv, hlt]
theorem sameKept_ct {h : H} {v u : V} {l : List Rest} (hv : Rests h.get v l) (hu : Rests h.get u l) : Pure Try.prog 54 [v, u] h (.bool true) := by
  refine pure_to Try.func54 S.Href10_sameKept_code S.Href10_sameKept_enter rfl (Nat.le_of_ble_eq_true rfl) fun wf => ?_; simp only [S.Href10_sameKept]
  have hb := hv.bound
  have lv := hv.lenG wf (n := l.length) (by simp)
  have lu := hu.lenG wf (n := l.length) (by simp)
  simp [lv, lu]
  refine loop_up (fun i t h' => (t 0 = v ∧ t 1 = u ∧ t 5 = .int .i64 i) ∧ h = h') l.length ⟨by simp, rfl⟩ ?_
  rintro i t _ hi ⟨⟨h0, h1, h5⟩, rfl⟩ K hK
  by_cases hlt : i < l.length
  · obtain ⟨p, q, o, cs, e1, _, e2, e3, e4, _⟩ := hv.atG wf (k := i) (by simpa using hlt)
    obtain ⟨p', q', o', cs', e1', _, e2', e3', e4', _⟩ := hu.atG wf (k := i) (by simpa using hlt)
    have hw := wrap_succ hlt (by simpa using hb)
    simp [h0, h5, lv, hlt]
    refine dreg_of ?_
    simp [h0, h1, h5, e1, e2, e3, e4, e1', e2', e3', e4', eqV, eqFs]
    exact hK _ _ hlt ⟨by simp [h0, h1, hw], rfl⟩
  · simp [h0, h5, lv, hlt]
set_option maxRecDepth 100000 in
theorem same_ct {h : H} {o : Opn} {f a k f' a' k' : V} (ho : OpnAt h.get o f a k) (ho' : OpnAt h.get o f' a' k') : Pure Try.prog 16 [opnV o f a k, opnV o f' a' k'] h (.bool true) := by
  refine pure_to Try.func16 S.Href10_Same_code S.Href10_Same_enter rfl (Nat.le_of_ble_eq_true rfl) fun wf => ?_; simp only [S.Href10_Same]
  have o1 := ho.fams.one
  have o2 := ho.adds.one
  have o3 := ho.kept.one
  have p1 := ho'.fams.one
  have p2 := ho'.adds.one
  have p3 := ho'.kept.one
  have b2 := ho.adds.bound
  have la := ho.adds.lenG wf (n := o.adds.length) (by simp)
  have la' := ho'.adds.lenG wf (n := o.adds.length) (by simp)
  simp [o1, o2, o3, p1, p2, p3, eqV]
  obtain ⟨hb, hhb⟩ : ∃ hb, hb = (h.push (.row (opnC o f a k))).push (.row (opnC o f' a' k')) := ⟨_, rfl⟩
  have gb : Ge h hb := by rw [hhb]; simp
  have c1 : cellsAt hb.get h.next 11 = some (opnC o f a k) := by rw [hhb]; simp [opnC]
  have c2 : cellsAt hb.get (h.next + 1) 11 = some (opnC o f' a' k') := by rw [hhb]; simp [opnC]
  simp only [opnC] at c1 c2 hhb
  rw [← hhb]
  refine sameInts_ct (ho.fams.ge wf gb) (ho'.fams.ge wf gb) _ ?_
  simp [la, la', gb, c1, c2]
  refine sameKept_ct (ho.kept.ge wf gb) (ho'.kept.ge wf gb) _ ?_
  simp
  refine loop_up (fun i t h' => (t 2 = .ptr h.next 11 0 ∧ t 3 = .ptr (h.next + 1) 11 0 ∧ t 5 = .int .i64 i) ∧ hb = h') o.adds.length ⟨by simp, rfl⟩ ?_
  rintro i t _ hi ⟨⟨h2, h3, h5⟩, rfl⟩ K hK
  by_cases hlt : i < o.adds.length
  · obtain ⟨p, q, po, cs, e1, _, e2, e3, e4, _⟩ := ho.adds.atG wf (k := i) (by simpa using hlt)
    obtain ⟨p', q', po', cs', e1', _, e2', e3', e4', _⟩ := ho'.adds.atG wf (k := i) (by simpa using hlt)
    have hw := wrap_succ hlt (by simpa using b2)
    simp [h2, h5, c1, la, gb, hlt]
    refine dreg_of ?_
    simp [h2, h3, h5, c1, c2, gb, e1, e2, e3, e4, e1', e2', e3', e4', eqV, eqFs]
    exact hK _ _ hlt ⟨by simp [h2, h3, hw], rfl⟩
  · simp [h2, h5, c1, la, gb, hlt]

theorem Sls.chg {g g' : Nat → Option O} {sz : Nat} {v : V} {es : List (List V)} (s : Sls g sz v es) (h : ∀ i ∈ v.ids, g' i = g i) : Sls g' sz v es :=
  ⟨s.kind, s.size, by rw [← s.read]; exact elemsV_congr fun i hi => h i (by cases v <;> simp_all [refOf, V.ids]), s.bound⟩
/-- A copy by append to nothing. -/
theorem copy_app {h : H} (wf : h.WF) {sz bytes : Nat} {v : V} {es : List (List V)} (s : Sls h.get sz v es) (h1 : ∀ e ∈ es, ∀ c ∈ e, c.one = true) (hsz : sz ≠ 0) (hb : es.length * bytes ≤ 140737488355328) :
    ∃ v' d, appendV h.get h.next sz bytes .nilsl v = some (v', d) ∧ Ge h (h.app d) ∧ Sls (h.app d).get sz v' es ∧ v'.one = true ∧ (h.app d).WF ∧ ∀ i ∈ v'.ids, h.next ≤ i ∧ i < (h.app d).next := by
  cases es with
  | nil =>
    refine ⟨.nilsl, .keep, ?_, Ge.refl _, ⟨.inl ⟨rfl, .inl rfl⟩, by simp, rfl, by simp⟩, rfl, wf, by simp [V.ids]⟩
    unfold appendV; rw [s.read]; rfl
  | cons e es =>
    have hm : (e :: es).length ≠ 0 := by simp
    have hbd := s.bound
    have hfl := flat_len s.size
    refine ⟨.sl h.next ((e :: es).length * sz) 0 (e :: es).length none, .push (.grow sz (e :: es).flatten), appendV_nil s.read hm ?_ hsz hb (by omega), (Ge.refl h).push _, ⟨.inr ⟨_, _, _, _, rfl⟩, s.size, ?_, hbd⟩, rfl, wf.push _, by simp [V.ids]⟩
    · rw [List.all_eq_true]
      intro c hc
      obtain ⟨x, hx, hcx⟩ := List.mem_flatten.1 hc
      exact h1 x hx c hcx
    · rw [elemsV_sl, if_neg hm]
      simp only [app_push, cellsAt_push, if_pos, len_grow, cells_grow, hfl, Nat.zero_add, Nat.le_refl, List.drop_zero]
      rw [← hfl, List.take_length]

theorem own_ct {h : H} {o : Opn} {f a k : V} (ho : OpnAt h.get o f a k) (n1 : o.fams.length ≤ 1048576) (n2 : o.adds.length ≤ 1048576) (n3 : o.kept.length ≤ 1048576) {Q : V → H → Prop}
    (q : ∀ f' a' k' h2, Ge h h2 → h2.WF → OpnAt h2.get o f' a' k' → Q (opnV o f' a' k') h2) : Acalls Try.prog 11 [opnV o f a k] h Q := by
  refine acalls_to Try.func11 S.Href10_Own_code S.Href10_Own_enter (Nat.le_of_ble_eq_true rfl) fun wf => ?_; simp only [S.Href10_Own]
  have o1 := ho.fams.one
  have o2 := ho.adds.one
  have o3 := ho.kept.one
  simp [o1, o2, o3]
  obtain ⟨H2, hH2⟩ : ∃ H2, H2 = (h.push (.row (opnC o f a k))).push (.row [.int .u32 0, .int .i64 0, .int .u32 0, .nilsl, .bool false, .bool false, .nilsl, .bool false, .bool false, .int .i64 0, .nilsl]) := ⟨_, rfl⟩
  have g2 : Ge h H2 := by rw [hH2]; simp
  have w2 : H2.WF := by rw [hH2]; exact (wf.push _).push _
  have nx2 : H2.next = h.next + 1 + 1 := by rw [hH2]; rfl
  have x1 : H2.get h.next = some (.row (opnC o f a k)) := by rw [hH2]; simp
  have x2 : H2.get (h.next + 1) = some (.row [.int .u32 0, .int .i64 0, .int .u32 0, .nilsl, .bool false, .bool false, .nilsl, .bool false, .bool false, .int .i64 0, .nilsl]) := by rw [hH2]; simp
  simp only [opnC] at hH2
  rw [← hH2, ← nx2]
  obtain ⟨v1, d1, e1, g3, s1, q1, w3, r1⟩ := copy_app (bytes := 8) w2 (ho.fams.ge wf g2) (by simp) (by simp) (by simp; omega)
  obtain ⟨H3, hH3⟩ : ∃ H3, H3 = H2.app d1 := ⟨_, rfl⟩
  rw [← hH3] at g3 s1 w3 r1
  have y1 : H3.get h.next = some (.row (opnC o f a k)) := by rw [g3.2 _ (by omega), x1]
  rw [e1]
  have n3' := g3.1
  simp [← hH3, y1, opnC, solid_of_one q1, cells_of_one q1]
  obtain ⟨H4, hH4⟩ : ∃ H4, H4 = H3.set h.next (.row (opnC o v1 a k)) := ⟨_, rfl⟩
  have g4 : Ge h H4 := by rw [hH4]; exact (g2.trans g3).set (Nat.le_refl _) _
  have w4 : H4.WF := by rw [hH4]; exact w3.set (by omega) _
  have nx4 : H4.next = H3.next := by rw [hH4]; rfl
  simp only [opnC] at hH4
  rw [← hH4, ← nx4]
  have z1 : H4.get h.next = some (.row (opnC o v1 a k)) := by rw [hH4]; simp [opnC]
  have c4 : cellsAt H4.get h.next 11 = some (opnC o v1 a k) := by rw [cellsAt_of z1 (by simp [opnC])]; rfl
  simp only [opnC] at c4
  try simp [c4]
  obtain ⟨v2, d2, e2, g5, s2, q2, w5, r2⟩ := copy_app (bytes := 16) w4 (ho.adds.ge wf g4) (by simp) (by simp) (by simp; omega)
  obtain ⟨H5, hH5⟩ : ∃ H5, H5 = H4.app d2 := ⟨_, rfl⟩
  rw [← hH5] at g5 s2 w5 r2
  have y5 : H5.get h.next = some (.row (opnC o v1 a k)) := by rw [g5.2 _ (by omega), z1]
  rw [e2]
  have n5' := g5.1
  simp [← hH5, y5, opnC, solid_of_one q2, cells_of_one q2]
  obtain ⟨H6, hH6⟩ : ∃ H6, H6 = H5.set h.next (.row (opnC o v1 v2 k)) := ⟨_, rfl⟩
  have g6 : Ge h H6 := by rw [hH6]; exact (g4.trans g5).set (Nat.le_refl _) _
  have w6 : H6.WF := by rw [hH6]; exact w5.set (by omega) _
  have nx6 : H6.next = H5.next := by rw [hH6]; rfl
  simp only [opnC] at hH6
  rw [← hH6, ← nx6]
  have z6 : H6.get h.next = some (.row (opnC o v1 v2 k)) := by rw [hH6]; simp [opnC]
  have c6 : cellsAt H6.get h.next 11 = some (opnC o v1 v2 k) := by rw [cellsAt_of z6 (by simp [opnC])]; rfl
  simp only [opnC] at c6
  try simp [c6]
  obtain ⟨v3, d3, e3, g7, s3, q3, w7, r3⟩ := copy_app (bytes := 16) w6 (ho.kept.ge wf g6) (by simp) (by simp) (by simp; omega)
  obtain ⟨H7, hH7⟩ : ∃ H7, H7 = H6.app d3 := ⟨_, rfl⟩
  rw [← hH7] at g7 s3 w7 r3
  have y7 : H7.get h.next = some (.row (opnC o v1 v2 k)) := by rw [g7.2 _ (by omega), z6]
  rw [e3]
  have n7' := g7.1
  have u7 : H7.get (h.next + 1) = some (.row [.int .u32 0, .int .i64 0, .int .u32 0, .nilsl, .bool false, .bool false, .nilsl, .bool false, .bool false, .int .i64 0, .nilsl]) := by
    rw [g7.2 _ (by omega), hH6]; simp
    rw [g5.2 _ (by omega), hH4]; simp
    rw [g3.2 _ (by omega), x2]
  simp [← hH7, y7, opnC, solid_of_one q3, cells_of_one q3, q1, q2, q3, u7]
  refine q v1 v2 v3 _ ?_ ((w7.set (by omega) _).set (by simp; omega) _) ⟨?_, ?_, ?_⟩
  · exact ((g6.trans g7).set (Nat.le_refl _) _).set (by omega) _
  · refine s1.chg fun i hi => ?_
    obtain ⟨a1, a2⟩ := r1 i hi
    rw [H.get_set, if_neg (by omega), H.get_set, if_neg (by omega), g7.2 _ (by omega), hH6, H.get_set, if_neg (by omega), g5.2 _ (by omega), hH4, H.get_set, if_neg (by omega)]
  · refine s2.chg fun i hi => ?_
    obtain ⟨a1, a2⟩ := r2 i hi
    rw [H.get_set, if_neg (by omega), H.get_set, if_neg (by omega), g7.2 _ (by omega), hH6, H.get_set, if_neg (by omega)]
  · refine s3.chg fun i hi => ?_
    obtain ⟨a1, a2⟩ := r3 i hi
    rw [H.get_set, if_neg (by omega), H.get_set, if_neg (by omega)]
end Go.Am
