/-
  Contracts: the first that.., contains; Check of both.
-/
import Derived.Test.YtapokdcbhpdceaaO1
namespace Go.Am
open Go.Proofs

def idxI {α : Type} (p : α → Bool) : Nat → List α → Int
  | _, [] => -1
  | i, x :: l => if p x then i else idxI p (i + 1) l
theorem idxI_any {α : Type} (p : α → Bool) : ∀ (l : List α) (i : Nat), decide (0 ≤ idxI p i l) = l.any p
  | [], i => by simp [idxI]
  | x :: l, i => by
    rw [idxI, List.any_cons]
    cases p x with
    | true => simp
    | false => simp [← idxI_any p l (i + 1)]

/-- A function's value answers whether. -/
def Asks (h : H) (fv : V) {α : Type} (enc : α → V) (p : α → Bool) : Prop := ∀ x h', Ge h h' → ∀ Q : V → H → Prop, Q (.bool (p x)) h' → callK Try.prog fv [enc x] h' Q

theorem indexAdd_ct {h : H} {v fv : V} {l : List Add} {p : Add → Bool} {r : Int} (hs : Adds h.get v l) (hf : Asks h fv (fun x => .agg (addC x)) p) (hr : r = idxI p 0 l) : Pure Try.prog 77 [v, fv] h (.int .i64 r) := by
  refine pure_to Try.func77 S.slices_IndexFunc_api_Add_api_Add_code S.slices_IndexFunc_api_Add_api_Add_enter rfl (Nat.le_of_ble_eq_true rfl) fun wf => ?_; simp only [S.slices_IndexFunc_api_Add_api_Add]
  have hb := hs.bound
  simp [hs.len]
  refine loop_up (fun i t h' => (t 0 = v ∧ t 1 = fv ∧ t 7 = .int .i64 l.length ∧ t 8 = .int .i64 i) ∧ Ge h h' ∧ r = idxI p i (l.drop i)) l.length (by simp [hr]) ?_
  rintro i t h' hi ⟨⟨h0, h1, h7, h8⟩, hg, ha⟩ K hK
  have hs' := hs.ge wf hg
  have hn := hg.1
  by_cases hlt : i < l.length
  · obtain ⟨q, q2, o, cs, e1, e2, e3, e4, _⟩ := hs'.at (k := i) (by simpa using hlt)
    rw [List.drop_eq_getElem_cons hlt, idxI] at ha
    simp [h0, h1, h7, h8, hlt, e1, e2, e3, e4]
    refine hf l[i] _ hg _ ?_
    simp
    have hw := wrap_succ hlt (by simpa using hb)
    (first | refine guard_split ?_ ?_ | refine cond_split ?_ ?_ | refine sguard_split ?_ ?_) <;> intro e <;> (try simp only [Bool.not_true, Bool.not_false] at e) <;> simp [e, h8]
    · simp [e] at ha
      simp [ha, hg]
    · simp [e] at ha
      refine hK _ _ hlt ⟨?_, hg, ha⟩
      simp [h0, h1, h7, hw]
  · simp [h7, h8, hlt, hg]
    rw [ha, List.drop_of_length_le (by omega)]; rfl
theorem anyAdd_ct {h : H} {v fv : V} {l : List Add} {p : Add → Bool} {r : Bool} (hs : Adds h.get v l) (hf : Asks h fv (fun x => .agg (addC x)) p) (hr : r = l.any p) : Pure Try.prog 49 [v, fv] h (.bool r) := by
  refine pure_to Try.func49 S.slices_ContainsFunc_api_Add_api_Add_code S.slices_ContainsFunc_api_Add_api_Add_enter rfl (Nat.le_of_ble_eq_true rfl) fun wf => ?_; simp only [S.slices_ContainsFunc_api_Add_api_Add]
  simp
  refine indexAdd_ct hs hf rfl _ ?_
  simp [hr, ← idxI_any p l 0]

theorem asks_check3 {h : H} : Asks h (.func (.func 50) [] []) (fun x => .agg (addC x)) (fun x : Add => !x.send && !x.take) := fun x h' _ Q q => by
  simp
  exact check3_ct rfl _ q

def checkB (o : Opn) : Bool :=
  !(o.asn == 0 || (!o.four && decide (65535 < o.asn)) || decide (o.hold < 0) || o.hold == 1 || o.hold == 2 || decide (65535 < o.hold) || o.id == 0 || o.fams.isEmpty || !rising 0 o.fams || !rising 0 (o.adds.map Add.fam) || o.adds.any (fun x => !x.send && !x.take)
    || (!o.hasgr && (o.again || o.time != 0 || !o.kept.isEmpty)) || decide (o.time < 0) || decide (4095 < o.time) || !rising 0 (o.kept.map Rest.fam))

theorem OpnAt.ge {h h' : H} {o : Opn} {f a k : V} (x : OpnAt h.get o f a k) (w : h.WF) (g : Ge h h') : OpnAt h'.get o f a k := ⟨x.fams.ge w g, x.adds.ge w g, x.kept.ge w g⟩
set_option maxRecDepth 100000 in
theorem check_ct {h : H} {o : Opn} {f a k : V} {r : Int} (ho : OpnAt h.get o f a k) (hr : r = if checkB o then 0 else 2) : Pure Try.prog 14 [opnV o f a k] h (.int .i64 r) := by
  refine pure_to Try.func14 S.open_Check_code S.open_Check_enter rfl (Nat.le_of_ble_eq_true rfl) fun wf => ?_; simp only [S.open_Check]
  have o1 := ho.fams.one
  have o2 := ho.adds.one
  have o3 := ho.kept.one
  have l1 : ∀ h', Ge h h' → lenV 1 h'.get f = some (.int .i64 o.fams.length) := fun h' g => by simpa using (ho.fams.ge wf g).len
  have l3 : ∀ h', Ge h h' → lenV 1 h'.get k = some (.int .i64 o.kept.length) := fun h' g => by simpa using (ho.kept.ge wf g).len
  simp [o1, o2, o3]
  iterate 30 (all_goals (try (first | ((first | refine guard_split ?_ ?_ | refine cond_split ?_ ?_ | refine sguard_split ?_ ?_) <;> intro e <;> (try simp only [Bool.not_true, Bool.not_false] at e) <;> (try simp [e, l1, l3])) | (refine rising1_ct (ho.fams.ge wf (by simp)) rfl _ ?_ <;> (try simp)) | (refine rising3_ct (ho.adds.ge wf (by simp)) rfl _ ?_ <;> (try simp)) | (refine rising2_ct (ho.kept.ge wf (by simp)) rfl _ ?_ <;> (try simp)) | (refine anyAdd_ct (ho.adds.ge wf (by simp)) asks_check3 rfl _ ?_ <;> (try simp)))))

  all_goals simp_all [checkB, rising]
  all_goals (intro h0; simp_all)

def risingA : Int → List Add → Bool
  | _, [] => true
  | last, x :: l => !(decide (x.fam ≤ last) || decide (5 < x.fam) || (!x.send && !x.take)) && risingA x.fam l
theorem risingA_eq : ∀ (l : List Add) (last : Int), risingA last l = (rising last (l.map Add.fam) && !l.any fun x => !x.send && !x.take)
  | [], _ => rfl
  | x :: l, last => by
    simp only [risingA, risingA_eq l, List.map_cons, rising, List.any_cons]
    cases decide (x.fam ≤ last) <;> cases decide (5 < x.fam) <;> cases (!x.send && !x.take) <;> simp

theorem checkB_parts (o : Opn) : checkB o = (!(o.asn == 0 || (!o.four && decide (65535 < o.asn)) || decide (o.hold < 0) || o.hold == 1 || o.hold == 2 || decide (65535 < o.hold) || o.id == 0 || o.fams.isEmpty) && (rising 0 o.fams && (risingA 0 o.adds &&
    (!((!o.hasgr && (o.again || o.time != 0 || !o.kept.isEmpty)) || decide (o.time < 0) || decide (4095 < o.time)) && rising 0 (o.kept.map Rest.fam))))) := by
  simp only [checkB, risingA_eq, Bool.not_or, Bool.not_not, Bool.and_assoc]
set_option maxRecDepth 100000 in
set_option maxHeartbeats 4000000 in
theorem rcheck_ct {h : H} {o : Opn} {f a k : V} {r : Int} (ho : OpnAt h.get o f a k) (hr : r = if checkB o then 0 else 2) : Pure Try.prog 15 [opnV o f a k] h (.int .i64 r) := by
  refine pure_to Try.func15 S.Href10_Check_code S.Href10_Check_enter rfl (Nat.le_of_ble_eq_true rfl) fun wf => ?_; simp only [S.Href10_Check]
  have o1 := ho.fams.one
  have o2 := ho.adds.one
  have o3 := ho.kept.one
  have b1 := ho.fams.bound
  have b2 := ho.adds.bound
  have b3 := ho.kept.bound
  have l1 : ∀ h', Ge h h' → lenV 1 h'.get f = some (.int .i64 o.fams.length) := fun h' g => by simpa using (ho.fams.ge wf g).len
  have l2 : ∀ h', Ge h h' → lenV 1 h'.get a = some (.int .i64 o.adds.length) := fun h' g => by simpa using (ho.adds.ge wf g).len
  have l3 : ∀ h', Ge h h' → lenV 1 h'.get k = some (.int .i64 o.kept.length) := fun h' g => by simpa using (ho.kept.ge wf g).len
  simp [o1, o2, o3]
  obtain ⟨A, hA⟩ : ∃ A, A = (o.asn == 0 || (!o.four && decide (65535 < o.asn)) || decide (o.hold < 0) || o.hold == 1 || o.hold == 2 || decide (65535 < o.hold) || o.id == 0 || o.fams.isEmpty) := ⟨_, rfl⟩
  obtain ⟨B3, hB3⟩ : ∃ B, B = rising 0 (o.kept.map Rest.fam) := ⟨_, rfl⟩
  obtain ⟨B2, hB2⟩ : ∃ B, B = (!((!o.hasgr && (o.again || o.time != 0 || !o.kept.isEmpty)) || decide (o.time < 0) || decide (4095 < o.time)) && B3) := ⟨_, rfl⟩
  obtain ⟨B1, hB1⟩ : ∃ B, B = (risingA 0 o.adds && B2) := ⟨_, rfl⟩
  have hr' : r = if !A && (rising 0 o.fams && B1) then 0 else 2 := by
    rw [hr, checkB_parts, ← hA, hB1, hB2, hB3]
  clear hr
  iterate 20 (all_goals (try (first | ((first | refine guard_split ?_ ?_ | refine cond_split ?_ ?_ | refine sguard_split ?_ ?_) <;> intro e <;> (try simp only [Bool.not_true, Bool.not_false] at e) <;> (try simp [e, l1])))))
  all_goals (try (simp_all; done))
  all_goals
    have hA0 : A = false := by simp_all
    rw [hA0] at hr'
    refine loop_up (fun i t h' => (t 1 = .ptr h.next 11 0 ∧ t 3 = .int .i64 i) ∧ Ge (h.push (.row (opnC o f a k))) h' ∧ ∃ last : Int, 0 ≤ last ∧ (0 :: o.fams)[i]? = some last ∧ r = if rising last (o.fams.drop i) && B1 then 0 else 2) o.fams.length ?_ ?_
    · exact ⟨by simp, by simp [opnC], 0, by simp, rfl, hr'⟩
    rintro i t h' hi ⟨⟨h1, h3⟩, hg, last, hl0, hla, hr⟩ K hK
    have hn := hg.1
    have hG : Ge h h' := ((Ge.refl h).push _).trans hg
    have hc : cellsAt h'.get h.next 11 = some (opnC o f a k) := by rw [hg.cells (by simp)]; simp [opnC]
    simp only [opnC] at hc
    by_cases hlt : i < o.fams.length
    · obtain ⟨p, q, po, cs, e1, e2, e3⟩ := (ho.fams.ge wf hG).at1 hlt
      rw [List.drop_eq_getElem_cons hlt, rising] at hr
      have nx : ∀ t', t' 1 = .ptr h.next 11 0 → t' 3 = .int .i64 ((i : Int) + 1) → 0 ≤ o.fams[i] → r = (if rising o.fams[i] (o.fams.drop (i + 1)) && B1 then 0 else 2) → K t' h' := fun t' a1 a2 a3 a4 => hK t' h' hlt ⟨⟨a1, by simpa using a2⟩, hg, o.fams[i], a3, by simp [hlt], a4⟩
      have hw := wrap_succ hlt (by simpa using b1)
      cases i with
      | zero =>
        simp at hla; subst hla
        simp at h3 e1 hw nx
        simp [h1, h3, hc, l1, hG, hlt]
        refine dreg_of ?_
        simp [h1, h3, hc, e1, e2, e3]
        refine scall_of (fun Q q => family_ct rfl Q q) ?_
        simp
        (first | refine guard_split ?_ ?_ | refine cond_split ?_ ?_ | refine sguard_split ?_ ?_) <;> intro ee <;> (try simp only [Bool.not_false] at ee) <;> simp [ee, h3, hG]
        · have hx : (decide (o.fams[0] ≤ 0) || decide ((5 : Int) < o.fams[0])) = false := by revert ee; simp; omega
          refine nx _ ?_ ?_ ?_ ?_
          · simp [h1]
          · simp [hw]
          · revert hx; simp; omega
          · rw [hr, hx]; simp
        · have hx : (decide (o.fams[0] ≤ 0) || decide ((5 : Int) < o.fams[0])) = true := by revert ee; simp; omega
          rw [hr, hx]; simp
      | succ j =>
        obtain ⟨p', q', po', cs', e1', e2', e3'⟩ := (ho.fams.ge wf hG).at1 (show j < o.fams.length by omega)
        have hl2 : last = o.fams[j] := by simpa [show j < o.fams.length by omega] using hla.symm
        subst hl2
        have hw2 := wrap_nat (n := j) (by have : j < o.fams.length := by omega
                                          simp at b1; omega)
        have hpos : (0 : Int) < (j : Int) + 1 := by omega
        have hlz : (j : Int) + 1 < (o.fams.length : Int) := by omega
        simp at h3 e1 hw nx
        simp [h1, h3, hc, l1, hG, hlz]
        refine dreg_of ?_
        simp [h1, h3, hc, e1, e2, e3]
        refine scall_of (fun Q q => family_ct rfl Q q) ?_
        simp
        (first | refine guard_split ?_ ?_ | refine cond_split ?_ ?_ | refine sguard_split ?_ ?_) <;> intro ee <;> (try simp only [Bool.not_false] at ee) <;> simp [ee, h1, h3, hc, hG, e1, e2, e3, e1', e2', e3', hw2, hpos]
        · (first | refine guard_split ?_ ?_ | refine cond_split ?_ ?_ | refine sguard_split ?_ ?_) <;> intro ef <;> (try simp only [Bool.not_true, Bool.not_false] at ef) <;> simp [ef, h3, hG]
          · have hx : (decide (o.fams[j + 1] ≤ o.fams[j]) || decide ((5 : Int) < o.fams[j + 1])) = true := by revert ef; simp; omega
            rw [hr, hx]; simp
          · have hx : (decide (o.fams[j + 1] ≤ o.fams[j]) || decide ((5 : Int) < o.fams[j + 1])) = false := by revert ef ee; simp; omega
            refine nx _ ?_ ?_ ?_ ?_
            · simp [h1]
            · simp [hw]
            · revert ee; simp; omega
            · rw [hr, hx]; simp
        · have hx : (decide (o.fams[j + 1] ≤ o.fams[j]) || decide ((5 : Int) < o.fams[j + 1])) = true := by revert ee; simp; omega
          rw [hr, hx]; simp
    · simp [h1, h3, hc, l1, hG, hlt]
      have hr1 : r = if B1 then 0 else 2 := by rw [hr, List.drop_of_length_le (by omega)]; simp [rising]
      clear hK hr hla
      rw [hB1] at hr1
      refine loop_up (fun i t h2 => (t 1 = .ptr h.next 11 0 ∧ t 4 = .int .i64 i) ∧ Ge (h.push (.row (opnC o f a k))) h2 ∧ ∃ last : Int, 0 ≤ last ∧ (0 :: o.adds.map Add.fam)[i]? = some last ∧ r = if risingA last (o.adds.drop i) && B2 then 0 else 2) o.adds.length ⟨by simp [h1], hg, 0, by simp, rfl, hr1⟩ ?_
      clear h1 h3 hg hG hc hn hi hlt h' i t K
      rintro i t h' hi ⟨⟨h1, h3⟩, hg, last, hl0, hla, hr⟩ K hK
      have hn := hg.1
      have hG : Ge h h' := ((Ge.refl h).push _).trans hg
      have hc : cellsAt h'.get h.next 11 = some (opnC o f a k) := by rw [hg.cells (by simp)]; simp [opnC]
      simp only [opnC] at hc
      have hne : ¬ h.next = h'.next := by simp at hn; omega
      by_cases hlt : i < o.adds.length
      · obtain ⟨p, q, po, cs, e1, e2, e3, e4, _⟩ := (ho.adds.ge wf hG).at (k := i) (by simpa using hlt)
        rw [List.drop_eq_getElem_cons hlt, risingA] at hr
        have nx : ∀ t' h2, t' 1 = .ptr h.next 11 0 → t' 4 = .int .i64 ((i : Int) + 1) → Ge (h.push (.row (opnC o f a k))) h2 → 0 ≤ o.adds[i].fam → r = (if risingA o.adds[i].fam (o.adds.drop (i + 1)) && B2 then 0 else 2) → K t' h2 := fun t' h2 a1 a2 a0 a3 a4 => hK t' h2 hlt ⟨⟨a1, by simpa using a2⟩, a0, o.adds[i].fam, a3, by simp [hlt], a4⟩
        have hw := wrap_succ hlt (by simpa using b2)
        cases i with
        | zero =>
          simp at hla; subst hla
          simp at h3 e1 hw nx
          have yes : (decide (o.adds[0].fam ≤ (0 : Int)) || decide ((5 : Int) < o.adds[0].fam) || (!o.adds[0].send && !o.adds[0].take)) = true → 2 = r := fun e => by rw [hr, e]; simp
          have no : (decide (o.adds[0].fam ≤ (0 : Int)) || decide ((5 : Int) < o.adds[0].fam) || (!o.adds[0].send && !o.adds[0].take)) = false → 0 ≤ o.adds[0].fam ∧ r = if risingA o.adds[0].fam o.adds.tail = true ∧ B2 = true then 0 else 2 := fun e => ⟨by revert e; simp; omega, by rw [hr, e]; simp⟩
          clear hr
          simp [h1, h3, hc, l2, hG, hlt, e1, e2, e3, e4]
          refine dreg_of ?_
          simp
          refine scall_of (fun Q q => family_ct rfl Q q) ?_
          simp
          have hgs : ∀ o1 o2, Ge h ((h'.push o1).set h'.next o2) := fun o1 o2 => by simp at hn; exact (hG.push _).set (by omega) _
          have hgs2 : ∀ o1 o2, Ge (h.push (.row (opnC o f a k))) ((h'.push o1).set h'.next o2) := fun o1 o2 => (hg.push _).set hn _
          (first | refine guard_split ?_ ?_ | refine cond_split ?_ ?_ | refine sguard_split ?_ ?_) <;> intro ee <;> (try simp only [Bool.not_false] at ee) <;> simp [ee, h3, hG]
          · (first | refine guard_split ?_ ?_ | refine cond_split ?_ ?_ | refine sguard_split ?_ ?_) <;> intro ef <;> (try simp only [Bool.not_true] at ef) <;> simp [ef, h3]
            · (first | refine guard_split ?_ ?_ | refine cond_split ?_ ?_ | refine sguard_split ?_ ?_) <;> intro eg <;> (try simp only [Bool.not_true, Bool.not_false] at eg) <;> simp [eg, h3, hG]
              · exact ⟨by grind, hgs _ _⟩
              · refine nx _ _ (by simp [h1]) (by simp [hw]) (hgs2 _ _) (by grind) (by grind)
            · refine nx _ _ (by simp [h1]) (by simp [hw]) (hgs2 _ _) (by grind) (by grind)
          · exact ⟨by grind, hgs _ _⟩
        | succ j =>
          obtain ⟨p', q', po', cs', e1', hp0, e2', e3', _, e5'⟩ := ho.adds.atG wf (k := j) (by simp; omega)
          have hp' : ¬ p' = h'.next := by simp at hn; omega
          have e2' := e2' _ hG
          have hl2 : last = o.adds[j].fam := by simpa [show j < o.adds.length by omega] using hla.symm
          subst hl2
          have hw2 := wrap_nat (n := j) (by simp at b2; omega)
          have hpos : (0 : Int) < (j : Int) + 1 := by omega
          have hlz : (j : Int) + 1 < (o.adds.length : Int) := by omega
          have e6' := e5' 0 (by omega)
          simp at h3 e1 hw nx e6'
          have yes : (decide (o.adds[j + 1].fam ≤ o.adds[j].fam) || decide ((5 : Int) < o.adds[j + 1].fam) || (!o.adds[j + 1].send && !o.adds[j + 1].take)) = true → 2 = r := fun e => by rw [hr, e]; simp
          have no : (decide (o.adds[j + 1].fam ≤ o.adds[j].fam) || decide ((5 : Int) < o.adds[j + 1].fam) || (!o.adds[j + 1].send && !o.adds[j + 1].take)) = false → 0 ≤ o.adds[j + 1].fam ∧ r = if risingA o.adds[j + 1].fam (o.adds.drop (j + 1 + 1)) = true ∧ B2 = true then 0 else 2 := fun e => ⟨by revert e; simp; omega, by rw [hr, e]; simp⟩
          clear hr
          simp [h1, h3, hc, l2, hG, hlz, e1, e2, e3, e4]
          refine dreg_of ?_
          simp
          refine scall_of (fun Q q => family_ct rfl Q q) ?_
          simp
          have hgs : ∀ o1 o2, Ge h ((h'.push o1).set h'.next o2) := fun o1 o2 => by simp at hn; exact (hG.push _).set (by omega) _
          have hgs2 : ∀ o1 o2, Ge (h.push (.row (opnC o f a k))) ((h'.push o1).set h'.next o2) := fun o1 o2 => (hg.push _).set hn _
          iterate 6 (all_goals (try (first | ((first | refine guard_split ?_ ?_ | refine cond_split ?_ ?_ | refine sguard_split ?_ ?_) <;> intro e <;> (try simp only [Bool.not_true, Bool.not_false] at e) <;> (try simp [e, h1, h3, hc, hG, hne, e1', e2', e6', hw2, hpos, hp'])))))
          all_goals first | exact ⟨by grind, hgs _ _⟩ | exact nx _ _ (by simp [h1]) (by simp [hw]) (hgs2 _ _) (by grind) (by grind)
      · simp [h1, h3, hc, l2, hG, hlt]
        have hr1 : r = if B2 then 0 else 2 := by rw [hr, List.drop_of_length_le (by omega)]; simp [risingA]
        clear hK hr hla
        rw [hB2] at hr1
        obtain ⟨Y, hY⟩ : ∃ Y, Y = ((!o.hasgr && (o.again || o.time != 0 || !o.kept.isEmpty)) || decide (o.time < 0) || decide (4095 < o.time)) := ⟨_, rfl⟩
        rw [← hY] at hr1
        have yes : Y = true → 2 = r := fun e => by rw [hr1, e]; simp
        have no : Y = false → r = if B3 = true then 0 else 2 := fun e => by rw [hr1, e]; simp
        iterate 7 (all_goals (try (first | ((first | refine guard_split ?_ ?_ | refine cond_split ?_ ?_ | refine sguard_split ?_ ?_) <;> intro e <;> (try simp only [Bool.not_true, Bool.not_false] at e) <;> (try simp [e, h1, hc, l3, hG])))))
        all_goals (try (exact yes (by rw [hY]; cases hk : o.kept <;> grind)))
        all_goals
          have hr2 := no (by rw [hY]; cases hk : o.kept <;> grind)
          clear yes no hr1
          rw [hB3] at hr2
          refine loop_up (fun i t h2 => (t 1 = .ptr h.next 11 0 ∧ t 6 = .int .i64 i) ∧ Ge (h.push (.row (opnC o f a k))) h2 ∧ ∃ last : Int, 0 ≤ last ∧ (0 :: o.kept.map Rest.fam)[i]? = some last ∧ r = if rising last ((o.kept.map Rest.fam).drop i) then 0 else 2) o.kept.length ⟨by simp [h1], hg, 0, by simp, rfl, hr2⟩ ?_
          clear h1 h3 hg hG hc hn hi hlt hne h' i t K
          rintro i t h' hi ⟨⟨h1, h3⟩, hg, last, hl0, hla, hr⟩ K hK
          have hn := hg.1
          have hG : Ge h h' := ((Ge.refl h).push _).trans hg
          have hc : cellsAt h'.get h.next 11 = some (opnC o f a k) := by rw [hg.cells (by simp)]; simp [opnC]
          simp only [opnC] at hc
          by_cases hlt : i < o.kept.length
          · obtain ⟨p, q, po, cs, e1, _, e2, e3, e4, e5⟩ := ho.kept.atG wf (k := i) (by simpa using hlt)
            have e2 := e2 _ hG
            have e6 := e5 0 (by omega)
            rw [List.drop_eq_getElem_cons (by simpa using hlt), rising, List.getElem_map] at hr
            have hw := wrap_succ hlt (by simpa using b3)
            cases i with
            | zero =>
              simp at hla; subst hla
              have nx : ∀ t', t' 1 = .ptr h.next 11 0 → t' 6 = .int .i64 1 → (decide (o.kept[0].fam ≤ (0 : Int)) || decide ((5 : Int) < o.kept[0].fam)) = false → K t' h' := fun t' a1 a2 a3 => hK t' h' hlt ⟨⟨a1, by simpa using a2⟩, hg, o.kept[0].fam, by revert a3; simp; omega, by simp [hlt], by rw [hr, a3]; simp⟩
              have yes : (decide (o.kept[0].fam ≤ (0 : Int)) || decide ((5 : Int) < o.kept[0].fam)) = true → 2 = r := fun e => by rw [hr, e]; simp
              clear hr
              simp at h3 e1 hw e6
              simp [h1, h3, hc, l3, hG, hlt]
              refine dreg_of ?_
              simp [h1, h3, hc, e1, e2, e6]
              refine scall_of (fun Q q => family_ct rfl Q q) ?_
              simp
              iterate 6 (all_goals (try (first | ((first | refine guard_split ?_ ?_ | refine cond_split ?_ ?_ | refine sguard_split ?_ ?_) <;> intro e <;> (try simp only [Bool.not_false] at e) <;> (try simp [e, h3, hG])))))
              all_goals first | exact yes (by grind) | exact nx _ (by simp [h1]) (by simp [hw]) (by grind)
            | succ j =>
              obtain ⟨p', q', po', cs', e1', hp0, e2', e3', _, e5'⟩ := ho.kept.atG wf (k := j) (by simp; omega)
              have e2' := e2' _ hG
              have hl2 : last = o.kept[j].fam := by simpa [show j < o.kept.length by omega] using hla.symm
              subst hl2
              have nx : ∀ t', t' 1 = .ptr h.next 11 0 → t' 6 = .int .i64 ((j : Int) + 1 + 1) → (decide (o.kept[j + 1].fam ≤ o.kept[j].fam) || decide ((5 : Int) < o.kept[j + 1].fam)) = false → K t' h' := fun t' a1 a2 a3 => hK t' h' hlt ⟨⟨a1, by simpa using a2⟩, hg, o.kept[j + 1].fam, by revert a3; simp; omega, by simp [hlt], by rw [hr, a3]; simp⟩
              have yes : (decide (o.kept[j + 1].fam ≤ o.kept[j].fam) || decide ((5 : Int) < o.kept[j + 1].fam)) = true → 2 = r := fun e => by rw [hr, e]; simp
              clear hr
              have hw2 := wrap_nat (n := j) (by simp at b3; omega)
              have hpos : (0 : Int) < (j : Int) + 1 := by omega
              have hlz : (j : Int) + 1 < (o.kept.length : Int) := by omega
              have e6' := e5' 0 (by omega)
              simp at h3 e1 hw e6 e6'
              simp [h1, h3, hc, l3, hG, hlz]
              refine dreg_of ?_
              simp [h1, h3, hc, e1, e2, e6]
              refine scall_of (fun Q q => family_ct rfl Q q) ?_
              simp
              iterate 6 (all_goals (try (first | ((first | refine guard_split ?_ ?_ | refine cond_split ?_ ?_ | refine sguard_split ?_ ?_) <;> intro e <;> (try simp only [Bool.not_false] at e) <;> (try simp [e, h1, h3, hc, hG, e1, e2, e6, e1', e2', e6', hw2, hpos])))))
              all_goals first | exact yes (by grind) | exact nx _ (by simp [h1]) (by simp [hw]) (by grind)
          · simp [h1, h3, hc, l3, hG, hlt]
            rw [hr, List.drop_of_length_le (by simp; omega)]; simp [rising]
end Go.Am
