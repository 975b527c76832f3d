/-
  Contracts: SameSession; Own in a drawn region.
-/
import Derived.Test.YtapokdcbhpdceaaO23
import Derived.Test.YtapokdcbhpdceaaO7
namespace Go.Am
open Go.Proofs

set_option maxRecDepth 100000
def sesC (hold : Int) (fv : V) (four refr : Bool) (ov tv : V) (gr ag : Bool) (tm : Int) (kv : V) : List V := [.int .i64 hold, fv, .bool four, .bool refr, ov, tv, .bool gr, .bool ag, .int .i64 tm, kv]
theorem sess_ct {h : H} {hold tm : Int} {four refr gr ag : Bool} {fv ov tv kv fv' ov' tv' kv' : V} {F1 F2 F3 : List Int} {K : List Rest} (f1 : Ints h.get fv F1) (f2 : Ints h.get fv' F1) (s1 : Ints h.get ov F2) (s2 : Ints h.get ov' F2) (t1 : Ints h.get tv F3) (t2 : Ints h.get tv' F3) (k1 : Rests h.get kv K) (k2 : Rests h.get kv' K) :
    Pure Try.prog 28 [.agg (sesC hold fv four refr ov tv gr ag tm kv), .agg (sesC hold fv' four refr ov' tv' gr ag tm kv')] h (.bool true) := by
  refine pure_to Try.func28 S.Href10_SameSession_code S.Href10_SameSession_enter rfl (Nat.le_of_ble_eq_true rfl) fun wf => ?_; simp only [S.Href10_SameSession]
  have a1 := f1.one
  have a2 := f2.one
  have a3 := s1.one
  have a4 := s2.one
  have a5 := t1.one
  have a6 := t2.one
  have a7 := k1.one
  have a8 := k2.one
  simp only [sesC]
  simp [a1, a2, a3, a4, a5, a6, a7, a8]
  obtain ⟨hb, hhb⟩ : ∃ hb, hb = (h.push (.row (sesC hold fv four refr ov tv gr ag tm kv))).push (.row (sesC hold fv' four refr ov' tv' gr ag tm kv')) := ⟨_, rfl⟩
  have gb : Ge h hb := by rw [hhb]; exact ((Ge.refl _).push _).push _
  have c1 : cellsAt hb.get h.next 10 = some (sesC hold fv four refr ov tv gr ag tm kv) := by rw [hhb]; simp [sesC]
  have c2 : cellsAt hb.get (h.next + 1) 10 = some (sesC hold fv' four refr ov' tv' gr ag tm kv') := by rw [hhb]; simp [sesC]
  simp only [sesC] at hhb c1 c2
  rw [← hhb]
  refine sameInts_ct (f1.ge wf gb) (f2.ge wf gb) _ ?_
  simp [c1, c2, eqV]
  refine sameInts_ct (s1.ge wf gb) (s2.ge wf gb) _ ?_
  simp [c1, c2]
  refine sameInts_ct (t1.ge wf gb) (t2.ge wf gb) _ ?_
  simp [c1, c2, eqV]
  refine sameKept_ct (k1.ge wf gb) (k2.ge wf gb) _ ?_
  simp
  exact gb

theorem copy_gl {h : H} (wf : h.WF) {sz bytes : Nat} {v : V} {es : List (List V)} (s : Sls h.get sz v es) (h1 : ∀ e ∈ es, ∀ c ∈ e, c.one = true) (hsz : sz ≠ 0) (hb : es.length * bytes ≤ 140737488355328) :
    ∃ v' d, appendV h.get h.next sz bytes .nilsl v = some (v', d) ∧ Ge h (h.app d) ∧ Gl (h.app d) h.next sz v' es ∧ v'.one = true ∧ (h.app d).WF ∧ ∀ i ∈ v'.ids, h.next ≤ i ∧ i < (h.app d).next := by
  cases es with
  | nil =>
    refine ⟨.nilsl, .keep, ?_, Ge.refl _, Gl.nil _ _ _, rfl, wf, by simp [V.ids]⟩
    unfold appendV; rw [s.read]; rfl
  | cons e es =>
    have hm : (e :: es).length ≠ 0 := by simp
    have hbd := s.bound
    have hfl := flat_len s.size
    refine ⟨.sl h.next ((e :: es).length * sz) 0 (e :: es).length none, .push (.grow sz (e :: es).flatten), appendV_nil s.read hm ?_ hsz hb (by omega), (Ge.refl h).push _, .inr ⟨by simp, h.next, Nat.le_refl _, by simp, by rw [hfl], by simp⟩, rfl, wf.push _, by simp [V.ids]⟩
    rw [List.all_eq_true]
    intro c hc
    obtain ⟨x, hx, hcx⟩ := List.mem_flatten.1 hc
    exact h1 x hx c hcx

theorem own_ct2 {h : H} {o : Opn} {f a k : V} (ho : OpnAt h.get o f a k) (n1 : o.fams.length ≤ 1048576) (n2 : o.adds.length ≤ 1048576) (n3 : o.kept.length ≤ 1048576) {Q : V → H → Prop}
    (q : ∀ f' a' k' h2, Ge h h2 → h2.WF → Gl h2 h.next 1 f' (o.fams.map fun x => [.int .i64 x]) → Gl h2 h.next 3 a' (o.adds.map addC) → Gl h2 h.next 2 k' (o.kept.map restC) → (∀ i ∈ f'.ids, ∀ j ∈ a'.ids, i < j) → (∀ i ∈ f'.ids, ∀ j ∈ k'.ids, i < j) → (∀ i ∈ a'.ids, ∀ j ∈ k'.ids, i < j) → Q (opnV o f' a' k') h2) : Acalls Try.prog 11 [opnV o f a k] h Q := by
  refine acalls_to Try.func11 S.Href10_Own_code S.Href10_Own_enter (Nat.le_of_ble_eq_true rfl) fun wf => ?_; simp only [S.Href10_Own]
  have o1 := ho.fams.one
  have o2 := ho.adds.one
  have o3 := ho.kept.one
  simp [o1, o2, o3]
  obtain ⟨H2, hH2⟩ : ∃ H2, H2 = (h.push (.row (opnC o f a k))).push (.row [.int .u32 0, .int .i64 0, .int .u32 0, .nilsl, .bool false, .bool false, .nilsl, .bool false, .bool false, .int .i64 0, .nilsl]) := ⟨_, rfl⟩
  have g2 : Ge h H2 := by rw [hH2]; simp
  have w2 : H2.WF := by rw [hH2]; exact (wf.push _).push _
  have nx2 : H2.next = h.next + 1 + 1 := by rw [hH2]; rfl
  have x1 : H2.get h.next = some (.row (opnC o f a k)) := by rw [hH2]; simp
  have x2 : H2.get (h.next + 1) = some (.row [.int .u32 0, .int .i64 0, .int .u32 0, .nilsl, .bool false, .bool false, .nilsl, .bool false, .bool false, .int .i64 0, .nilsl]) := by rw [hH2]; simp
  simp only [opnC] at hH2
  rw [← hH2, ← nx2]
  obtain ⟨v1, d1, e1, g3, s1, q1, w3, r1⟩ := copy_gl (bytes := 8) w2 (ho.fams.ge wf g2) (by simp) (by simp) (by simp; omega)
  obtain ⟨H3, hH3⟩ : ∃ H3, H3 = H2.app d1 := ⟨_, rfl⟩
  rw [← hH3] at g3 s1 w3 r1
  have y1 : H3.get h.next = some (.row (opnC o f a k)) := by rw [g3.2 _ (by omega), x1]
  rw [e1]
  have n3' := g3.1
  simp [← hH3, y1, opnC, solid_of_one q1, cells_of_one q1]
  obtain ⟨H4, hH4⟩ : ∃ H4, H4 = H3.set h.next (.row (opnC o v1 a k)) := ⟨_, rfl⟩
  have g4 : Ge h H4 := by rw [hH4]; exact (g2.trans g3).set (Nat.le_refl _) _
  have w4 : H4.WF := by rw [hH4]; exact w3.set (by omega) _
  have nx4 : H4.next = H3.next := by rw [hH4]; rfl
  simp only [opnC] at hH4
  rw [← hH4, ← nx4]
  have z1 : H4.get h.next = some (.row (opnC o v1 a k)) := by rw [hH4]; simp [opnC]
  have c4 : cellsAt H4.get h.next 11 = some (opnC o v1 a k) := by rw [cellsAt_of z1 (by simp [opnC])]; rfl
  simp only [opnC] at c4
  try simp [c4]
  obtain ⟨v2, d2, e2, g5, s2, q2, w5, r2⟩ := copy_gl (bytes := 16) w4 (ho.adds.ge wf g4) (by simp) (by simp) (by simp; omega)
  obtain ⟨H5, hH5⟩ : ∃ H5, H5 = H4.app d2 := ⟨_, rfl⟩
  rw [← hH5] at g5 s2 w5 r2
  have y5 : H5.get h.next = some (.row (opnC o v1 a k)) := by rw [g5.2 _ (by omega), z1]
  rw [e2]
  have n5' := g5.1
  simp [← hH5, y5, opnC, solid_of_one q2, cells_of_one q2]
  obtain ⟨H6, hH6⟩ : ∃ H6, H6 = H5.set h.next (.row (opnC o v1 v2 k)) := ⟨_, rfl⟩
  have g6 : Ge h H6 := by rw [hH6]; exact (g4.trans g5).set (Nat.le_refl _) _
  have w6 : H6.WF := by rw [hH6]; exact w5.set (by omega) _
  have nx6 : H6.next = H5.next := by rw [hH6]; rfl
  simp only [opnC] at hH6
  rw [← hH6, ← nx6]
  have z6 : H6.get h.next = some (.row (opnC o v1 v2 k)) := by rw [hH6]; simp [opnC]
  have c6 : cellsAt H6.get h.next 11 = some (opnC o v1 v2 k) := by rw [cellsAt_of z6 (by simp [opnC])]; rfl
  simp only [opnC] at c6
  try simp [c6]
  obtain ⟨v3, d3, e3, g7, s3, q3, w7, r3⟩ := copy_gl (bytes := 16) w6 (ho.kept.ge wf g6) (by simp) (by simp) (by simp; omega)
  obtain ⟨H7, hH7⟩ : ∃ H7, H7 = H6.app d3 := ⟨_, rfl⟩
  rw [← hH7] at g7 s3 w7 r3
  have y7 : H7.get h.next = some (.row (opnC o v1 v2 k)) := by rw [g7.2 _ (by omega), z6]
  rw [e3]
  have n7' := g7.1
  have u7 : H7.get (h.next + 1) = some (.row [.int .u32 0, .int .i64 0, .int .u32 0, .nilsl, .bool false, .bool false, .nilsl, .bool false, .bool false, .int .i64 0, .nilsl]) := by
    rw [g7.2 _ (by omega), hH6]; simp
    rw [g5.2 _ (by omega), hH4]; simp
    rw [g3.2 _ (by omega), x2]
  simp [← hH7, y7, opnC, solid_of_one q3, cells_of_one q3, q1, q2, q3, u7]
  refine q v1 v2 v3 _ ?_ ((w7.set (by omega) _).set (by simp; omega) _) (Gl.lower (lo := H2.next) ?_ (by omega)) (Gl.lower (lo := H4.next) ?_ (by omega)) (Gl.lower (lo := H6.next) ?_ (by omega)) (fun i hi j hj => ?_) (fun i hi j hj => ?_) (fun i hi j hj => ?_)
  · exact ((g6.trans g7).set (Nat.le_refl _) _).set (by omega) _
  · refine s1.keep (by simp; omega) fun i hi => ?_
    obtain ⟨a1, a2⟩ := r1 i hi
    rw [H.get_set, if_neg (by omega), H.get_set, if_neg (by omega), g7.2 _ (by omega), hH6, H.get_set, if_neg (by omega), g5.2 _ (by omega), hH4, H.get_set, if_neg (by omega)]
  · refine s2.keep (by simp; omega) fun i hi => ?_
    obtain ⟨a1, a2⟩ := r2 i hi
    rw [H.get_set, if_neg (by omega), H.get_set, if_neg (by omega), g7.2 _ (by omega), hH6, H.get_set, if_neg (by omega)]
  · refine s3.keep (by simp) fun i hi => ?_
    obtain ⟨a1, a2⟩ := r3 i hi
    rw [H.get_set, if_neg (by omega), H.get_set, if_neg (by omega)]
  · have := (r1 i hi).2; have := (r2 j hj).1; omega
  · have := (r1 i hi).2; have := (r3 j hj).1; omega
  · have := (r2 i hi).2; have := (r3 j hj).1; omega

/-- A list, as a name for it and an object. -/
theorem Gl.as {h : H} {lo sz : Nat} {v : V} {es : List (List V)} (g : Gl h lo sz v es) (hsz : sz ≠ 0) (hs : ∀ e ∈ es, e.length = sz) :
    (glO sz es.flatten).length = v.ids.length ∧ (∀ (js : Nat → Nat) (k : Nat), (∀ j ∈ v.ids, js k = j) → v = (glV k es.flatten es.length).ren js) ∧ ∀ i (hi : i < (glO sz es.flatten).length), ∃ hv : i < v.ids.length, h.get v.ids[i] = some (glO sz es.flatten)[i] := by
  rcases g with ⟨rfl, rfl⟩ | ⟨hne, j, h1, h2, rfl, h3⟩
  · refine ⟨rfl, fun _ _ _ => rfl, fun i hi => by simp [glO] at hi⟩
  · have hf : es.flatten ≠ [] := by
      intro e
      cases es with
      | nil => exact hne rfl
      | cons a l =>
        have ha := hs a (by simp)
        simp only [List.flatten_cons, List.append_eq_nil_iff] at e
        rw [e.1] at ha
        exact hsz ha.symm
    have ho : glO sz es.flatten = [.grow sz es.flatten] := by simp only [glO, hf, if_false]
    rw [ho]
    refine ⟨rfl, fun js k hj => ?_, fun i hi => ?_⟩
    · have := hj j (by simp [V.ids])
      simp only [glV, hf, if_false, V.ren, this]
    · have : i = 0 := by simpa using hi
      subst this
      exact ⟨by simp [V.ids], by simpa [V.ids] using h3⟩
def ownO (o : Opn) : List O := glO 1 (o.fams.map fun x => [V.int .i64 x]).flatten ++ glO 3 (o.adds.map addC).flatten ++ glO 2 (o.kept.map restC).flatten
def ownF (k : Nat) (o : Opn) : V := glV k (o.fams.map fun x => [V.int .i64 x]).flatten (o.fams.map fun x => [V.int .i64 x]).length
def ownA (k : Nat) (o : Opn) : V := glV (k + (glO 1 (o.fams.map fun x => [V.int .i64 x]).flatten).length) (o.adds.map addC).flatten (o.adds.map addC).length
def ownK (k : Nat) (o : Opn) : V := glV (k + (glO 1 (o.fams.map fun x => [V.int .i64 x]).flatten).length + (glO 3 (o.adds.map addC).flatten).length) (o.kept.map restC).flatten (o.kept.map restC).length
theorem idss_plain : ∀ {l : List V}, (∀ v ∈ l, v.ids = []) → V.idss l = []
  | [], _ => rfl
  | v :: l, h => by
    simp only [V.idss, h v (by simp), List.nil_append]
    exact idss_plain fun w hw => h w (by simp [hw])
theorem glO_ids {sz : Nat} {l : List V} (h : ∀ v ∈ l, v.ids = []) : ∀ o ∈ glO sz l, o.ids = [] := by
  intro o ho
  unfold glO at ho
  split at ho
  · cases ho
  · simp only [List.mem_cons, List.not_mem_nil, or_false] at ho
    subst ho
    exact idss_plain h
theorem ownO_ids (o : Opn) : ∀ x ∈ ownO o, x.ids = [] := by
  intro x hx
  simp only [ownO, List.mem_append] at hx
  rcases hx with (hx | hx) | hx
  · refine glO_ids ?_ x hx
    intro v hv
    obtain ⟨l, hl, hvl⟩ := List.mem_flatten.1 hv
    obtain ⟨y, _, rfl⟩ := List.mem_map.1 hl
    simp at hvl; subst hvl; rfl
  · refine glO_ids ?_ x hx
    intro v hv
    obtain ⟨l, hl, hvl⟩ := List.mem_flatten.1 hv
    obtain ⟨y, _, rfl⟩ := List.mem_map.1 hl
    simp at hvl; rcases hvl with rfl | rfl | rfl <;> rfl
  · refine glO_ids ?_ x hx
    intro v hv
    obtain ⟨l, hl, hvl⟩ := List.mem_flatten.1 hv
    obtain ⟨y, _, rfl⟩ := List.mem_map.1 hl
    simp at hvl; rcases hvl with rfl | rfl <;> rfl
theorem glV_ids2 {k sz len : Nat} {l : List V} : ∀ i ∈ (glV k l len).ids, i = k ∧ 0 < (glO sz l).length := by
  unfold glV glO; split <;> simp [V.ids]
theorem glO_len {sz : Nat} {l : List V} : (glO sz l).length ≤ 1 := by unfold glO; split <;> simp

theorem own_news {h : H} {o : Opn} {f a k : V} (ho : OpnAt h.get o f a k) (n1 : o.fams.length ≤ 1048576) (n2 : o.adds.length ≤ 1048576) (n3 : o.kept.length ≤ 1048576) {Q : V → H → Prop}
    (q : Q (opnV o (ownF h.next o) (ownA h.next o) (ownK h.next o)) (pushes h (ownO o))) : Acalls Try.prog 11 [opnV o f a k] h Q := by
  refine Acalls.news (os := ownO o) (v0 := opnV o (ownF h.next o) (ownA h.next o) (ownK h.next o)) (own_ct2 ho n1 n2 n3 fun f' a' k' h2 g2 w2 gf ga gk d1 d2 d3 => ⟨g2, ?_⟩) (ownO_ids o) (fun i hi => .inr ?_) q
  · obtain ⟨l1, r1, x1⟩ := gf.as (by simp) (by simp)
    obtain ⟨l2, r2, x2⟩ := ga.as (by simp) (by simp)
    obtain ⟨l3, r3, x3⟩ := gk.as (by simp) (by simp)
    have m1 : f'.ids.length ≤ 1 := by rw [← l1]; exact glO_len
    have m2 : a'.ids.length ≤ 1 := by rw [← l2]; exact glO_len
    have m3 : k'.ids.length ≤ 1 := by rw [← l3]; exact glO_len
    have hlen : (ownO o).length = (f'.ids ++ a'.ids ++ k'.ids).length := by simp only [ownO, List.length_append, l1, l2, l3]
    have sg : ∀ (l : List Nat) (j : Nat), l.length ≤ 1 → j ∈ l → l = [j] := fun l j hl hj => by
      match l, hl, hj with
      | [x], _, hj => simp at hj; rw [hj]
    have lows : ∀ i ∈ f'.ids ++ a'.ids ++ k'.ids, h.next ≤ i := fun i hi => by
      simp only [List.mem_append] at hi
      rcases hi with (hi | hi) | hi
      · exact (gf.lo i hi).1
      · exact (ga.lo i hi).1
      · exact (gk.lo i hi).1
    have srt : (f'.ids ++ a'.ids ++ k'.ids).Pairwise (· < ·) := by
      have one : ∀ l : List Nat, l.length ≤ 1 → l.Pairwise (· < ·) := fun l hl => by
        match l, hl with
        | [], _ => exact .nil
        | [x], _ => exact List.pairwise_singleton _ _
      rw [List.pairwise_append, List.pairwise_append]
      refine ⟨⟨one _ m1, one _ m2, d1⟩, one _ m3, fun x hx y hy => ?_⟩
      rcases List.mem_append.1 hx with hx | hx
      · exact d2 x hx y hy
      · exact d3 x hx y hy
    obtain ⟨js, hjs⟩ : ∃ js : Nat → Nat, js = fun i => if i < h.next then i else (f'.ids ++ a'.ids ++ k'.ids).getD (i - h.next) i := ⟨_, rfl⟩
    have at' : ∀ i (hi : i < (f'.ids ++ a'.ids ++ k'.ids).length), js (h.next + i) = (f'.ids ++ a'.ids ++ k'.ids)[i] := fun i hi => by
      rw [hjs]; simp only
      rw [if_neg (by omega), show h.next + i - h.next = i by omega, List.getD_eq_getElem?_getD, List.getElem?_eq_getElem hi]; rfl
    refine ⟨js, ?_, fun i hi => by rw [hjs]; simp [hi], fun i h1 h2 => ?_, fun i j h1 h2 h3 h4 e => ?_, fun i hi => ?_⟩
    · have e1 : f' = (ownF h.next o).ren js := r1 js _ fun j hj => by
        have hl := sg _ _ m1 hj
        have := at' 0 (by simp [hl])
        simpa [hl] using this
      have e2 : a' = (ownA h.next o).ren js := r2 js _ fun j hj => by
        have hl := sg _ _ m2 hj
        have := at' (glO 1 (o.fams.map fun x => [V.int .i64 x]).flatten).length (by rw [l1]; simp [hl])
        rw [this, List.getElem_append_left (by rw [l1]; simp [hl]), List.getElem_append_right (by rw [l1]; exact Nat.le_refl _)]
        simp [hl, l1]
      have e3 : k' = (ownK h.next o).ren js := r3 js _ fun j hj => by
        have hl := sg _ _ m3 hj
        have := at' ((glO 1 (o.fams.map fun x => [V.int .i64 x]).flatten).length + (glO 3 (o.adds.map addC).flatten).length) (by rw [l1, l2]; simp [hl])
        rw [show h.next + (glO 1 (o.fams.map fun x => [V.int .i64 x]).flatten).length + (glO 3 (o.adds.map addC).flatten).length = h.next + ((glO 1 (o.fams.map fun x => [V.int .i64 x]).flatten).length + (glO 3 (o.adds.map addC).flatten).length) by omega, this, List.getElem_append_right (by rw [l1, l2]; simp)]
        simp [hl, l1, l2]
      simp only [opnV, V.ren, V.rens, ← e1, ← e2, ← e3]
    · have := at' (i - h.next) (by omega)
      rw [show h.next + (i - h.next) = i by omega] at this
      rw [this]
      exact lows _ (List.getElem_mem _)
    · have ea := at' (i - h.next) (by omega)
      have eb := at' (j - h.next) (by omega)
      rw [show h.next + (i - h.next) = i by omega] at ea
      rw [show h.next + (j - h.next) = j by omega] at eb
      rw [ea, eb] at e
      rw [List.pairwise_iff_getElem] at srt
      rcases Nat.lt_trichotomy (i - h.next) (j - h.next) with h | h | h
      · have := srt _ _ (by omega) (by omega) h; omega
      · omega
      · have := srt _ _ (by omega) (by omega) h; omega
    · rw [at' i (by omega)]
      have hi' : i < (f'.ids ++ a'.ids ++ k'.ids).length := by omega
      simp only [ownO]
      by_cases h1 : i < f'.ids.length
      · rw [List.getElem_append_left (by simp; omega), List.getElem_append_left h1, List.getElem_append_left (by simp only [List.length_append]; omega), List.getElem_append_left (by omega)]
        exact (x1 i (by omega)).2
      · by_cases h2' : i < f'.ids.length + a'.ids.length
        · rw [List.getElem_append_left (by simp; omega), List.getElem_append_right (by omega), List.getElem_append_left (by simp only [List.length_append]; omega), List.getElem_append_right (by omega)]
          have := (x2 (i - f'.ids.length) (by omega)).2
          simp only [l1]
          exact this
        · simp only [List.length_append] at hi'
          rw [List.getElem_append_right (by simp; omega), List.getElem_append_right (by simp only [List.length_append]; omega)]
          have := (x3 (i - (f'.ids.length + a'.ids.length)) (by omega)).2
          simp only [List.length_append, l1, l2]
          exact this
  · simp only [opnV, V.ids, V.idss, List.append_nil, List.nil_append, List.mem_append] at hi
    simp only [ownO, List.length_append]
    rcases hi with hi | hi | hi
    · have := glV_ids2 (sz := 1) i hi; omega
    · have := glV_ids2 (sz := 3) i hi; omega
    · have := glV_ids2 (sz := 2) i hi; omega

/-- Own in a drawn region. -/
theorem own_ev {h : H} (wf : h.WF) {get : Nat → Option O} {k e : Nat} {o : Opn} {f a kv : V} (ho : OpnAt h.get o f a kv) (n1 : o.fams.length ≤ 1048576) (n2 : o.adds.length ≤ 1048576) (n3 : o.kept.length ≤ 1048576) (hk : k + room ≤ e) (hn : h.next ≤ e) (hg : ∀ i, i < h.next → get i = h.get i) :
    callEv Try.prog (.func (.func 11) [] []) [opnV o f a kv] get k e (opnV o (ownF k o) (ownA k o) (ownK k o)) (List.range h.next) (ownO o) := by
  have hr : room = 16 := rfl
  have l1 : (glO 1 (o.fams.map fun x => [V.int .i64 x]).flatten).length ≤ 1 := glO_len
  have l2 : (glO 3 (o.adds.map addC).flatten).length ≤ 1 := glO_len
  have l3 : (glO 2 (o.kept.map restC).flatten).length ≤ 1 := glO_len
  refine ⟨by simp only [ownO, List.length_append, hr]; omega, ?_, fun x hx i hi => (by rw [ownO_ids o x hx] at hi; cases hi), fun h2 hn2 hrd => ?_⟩
  · intro i hi
    simp only [opnV, V.ids, V.idss, List.append_nil, List.nil_append, List.mem_append] at hi
    rcases hi with hi | hi | hi
    · have := glV_ids2 (sz := 1) i hi; omega
    · have := glV_ids2 (sz := 3) i hi; omega
    · have := glV_ids2 (sz := 2) i hi; omega
  · have g : Ge h h2 := ⟨by omega, fun i hi => by rw [hrd i (by simpa using hi), hg i hi]⟩
    refine own_news (ho.ge wf g) n1 n2 n3 ⟨?_, ?_⟩
    · have sh : ∀ d, d < 3 → shift k e (k + d) = h2.next + d := fun d hd => by unfold shift; rw [if_pos (by omega)]; omega
      have gv : ∀ (l : List V) (len d : Nat), d < 3 → glV (h2.next + d) l len = (glV (k + d) l len).ren (shift k e) := fun l len d hd => by
        unfold glV; split
        · rfl
        · simp only [V.ren, sh d hd]
      have e1 : ownF h2.next o = (ownF k o).ren (shift k e) := gv _ _ 0 (by omega)
      have e2 : ownA h2.next o = (ownA k o).ren (shift k e) := gv _ _ _ (by omega)
      have e3 : ownK h2.next o = (ownK k o).ren (shift k e) := by
        have := gv (o.kept.map restC).flatten (o.kept.map restC).length ((glO 1 (o.fams.map fun x => [V.int .i64 x]).flatten).length + (glO 3 (o.adds.map addC).flatten).length) (by omega)
        rw [← Nat.add_assoc, ← Nat.add_assoc] at this
        exact this
      simp only [opnV, V.ren, V.rens, ← e1, ← e2, ← e3]
    · congr 1
      symm
      have : ∀ l : List O, (∀ x ∈ l, x.ids = []) → l.map (O.ren (shift k e)) = l := fun l hl => by
        induction l with
        | nil => rfl
        | cons x l ih => rw [List.map_cons, ih (fun y hy => hl y (by simp [hy])), O.ren_id x (fun i hi => by rw [hl x (by simp)] at hi; cases hi)]
      exact this _ (ownO_ids o)
theorem names_at {get : Nat → Option O} : ∀ {os : List O} {k i : Nat}, upds get (names k os) i = if k ≤ i ∧ i < k + os.length then os[i - k]? else get i
  | [], k, i => by rw [if_neg (by simp only [List.length_nil]; omega)]; rfl
  | o :: os, k, i => by
    have ih := @names_at get os (k + 1) i
    have : upds get (names k (o :: os)) i = if i = k then some o else upds get (names (k + 1) os) i := rfl
    rw [this, ih, List.length_cons]
    by_cases e : i = k
    · subst e; simp
    · rw [if_neg e]
      by_cases h1 : k + 1 ≤ i ∧ i < k + 1 + os.length
      · rw [if_pos h1, if_pos (by omega), show i - k = (i - (k + 1)) + 1 by omega, List.getElem?_cons_succ]
      · rw [if_neg h1, if_neg (by omega)]
/-- What a list named so is. -/
theorem glV_gl {h : H} {lo sz k : Nat} {es : List (List V)} (hsz : sz ≠ 0) (hs : ∀ e ∈ es, e.length = sz) (h1 : lo ≤ k) (h2 : k < h.next) (hg : ∀ i (hi : i < (glO sz es.flatten).length), h.get (k + i) = some (glO sz es.flatten)[i]) : Gl h lo sz (glV k es.flatten es.length) es := by
  have := gl_of (get := h.get) (nx := h.next) h1 h2 hsz hs (fun hne => by
    have hf : es.flatten ≠ [] := by
      intro e
      cases es with
      | nil => exact hne rfl
      | cons a l =>
        have ha := hs a (by simp)
        simp only [List.flatten_cons, List.append_eq_nil_iff] at e
        rw [e.1] at ha
        exact hsz ha.symm
    have ho : glO sz es.flatten = [.grow sz es.flatten] := by simp only [glO, hf, if_false]
    have := hg 0 (by simp [ho])
    simpa [ho] using this)
  exact this
theorem own_gl {h : H} {lo k : Nat} {o : Opn} (h1 : lo ≤ k) (h2 : k + 2 < h.next) (hg : ∀ i (hi : i < (ownO o).length), h.get (k + i) = some (ownO o)[i]) :
    Gl h lo 1 (ownF k o) (o.fams.map fun x => [.int .i64 x]) ∧ Gl h lo 3 (ownA k o) (o.adds.map addC) ∧ Gl h lo 2 (ownK k o) (o.kept.map restC) := by
  have l1 : (glO 1 (o.fams.map fun x => [V.int .i64 x]).flatten).length ≤ 1 := glO_len
  have l2 : (glO 3 (o.adds.map addC).flatten).length ≤ 1 := glO_len
  have l3 : (glO 2 (o.kept.map restC).flatten).length ≤ 1 := glO_len
  have hl : (ownO o).length = (glO 1 (o.fams.map fun x => [V.int .i64 x]).flatten).length + (glO 3 (o.adds.map addC).flatten).length + (glO 2 (o.kept.map restC).flatten).length := by simp only [ownO, List.length_append]
  refine ⟨glV_gl (by simp) (by simp) h1 (by omega) (fun i hi => ?_), glV_gl (by simp) (by simp) (by omega) (by omega) (fun i hi => ?_), glV_gl (by simp) (by simp) (by omega) (by omega) (fun i hi => ?_)⟩
  · rw [hg i (by omega)]
    simp only [ownO]
    rw [List.getElem_append_left (by simp only [List.length_append]; omega), List.getElem_append_left hi]
  · have := hg ((glO 1 (o.fams.map fun x => [V.int .i64 x]).flatten).length + i) (by omega)
    rw [Nat.add_assoc, this]
    simp only [ownO]
    rw [List.getElem_append_left (by simp only [List.length_append]; omega), List.getElem_append_right (by omega)]
    simp
  · have := hg ((glO 1 (o.fams.map fun x => [V.int .i64 x]).flatten).length + (glO 3 (o.adds.map addC).flatten).length + i) (by omega)
    rw [show k + (glO 1 (o.fams.map fun x => [V.int .i64 x]).flatten).length + (glO 3 (o.adds.map addC).flatten).length + i = k + ((glO 1 (o.fams.map fun x => [V.int .i64 x]).flatten).length + (glO 3 (o.adds.map addC).flatten).length + i) by omega, this]
    simp only [ownO]
    rw [List.getElem_append_right (by simp only [List.length_append]; omega)]
    simp [Nat.add_sub_cancel_left]
end Go.Am
