/-
  L1, L2, L3, L4, L5, in one text.
-/
import Derived.Test.YtcokdbloajhapaaGreatDoorMD
import Derived.Test.YtcokdbloajhapaaGreatDoorAm37
import Derived.Test.YtcokdbloajhapaaGreatDoorSkR
/-
  NlriLays: cut's contract, Same's, the reference's Encode's.
-/
namespace Go.Am
open Go.Proofs

set_option maxRecDepth 100000
theorem nlC_one (n : Nl) : (nlC n).all V.one = true := rfl
theorem nlC_len (n : Nl) : (nlC n).length = 6 := rfl
theorem map_len6 (l : List Nl) : ∀ e ∈ l.map nlC, e.length = 6 := fun e he => by obtain ⟨n, _, rfl⟩ := List.mem_map.1 he; rfl
theorem map_one6 (l : List Nl) : ∀ e ∈ l.map nlC, e.all V.one = true := fun e he => by obtain ⟨n, _, rfl⟩ := List.mem_map.1 he; rfl
theorem cut_ct {h : H} {v : V} {l : List Nl} (hs : Sls h.get 6 v (l.map nlC)) (hc : CapOk v) {Q : V → H → Prop} (q : ∀ v' h', Ge h h' → h'.WF → Gl h' h.next 6 v' ((l.take 60).map nlC) → Q v' h') : Acalls Tryz.prog 13 [v] h Q := by
  refine acalls_to Tryz.func13 S.Hlaw07_cut_code S.Hlaw07_cut_enter (Nat.le_of_ble_eq_true rfl) fun wf => ?_; simp only [S.Hlaw07_cut]
  have hl := hs.lenG wf (n := l.length) (by simp)
  obtain ⟨k, hk⟩ : ∃ k, k = min l.length 60 := ⟨_, rfl⟩
  have hk2 : (if (60 : Int) < (l.length : Int) then (60 : Int) else (l.length : Int)) = (k : Int) := by rw [hk]; split <;> omega
  obtain ⟨v', e1, s1, _⟩ := hs.take hc (k := k) (by simp; omega) .i64
  have hlt : (l.map nlC).take k = (l.take 60).map nlC := by
    rw [← List.map_take]; congr 1
    rw [hk]
    by_cases h60 : l.length ≤ 60
    · rw [Nat.min_eq_left h60, List.take_of_length_le (Nat.le_refl _), List.take_of_length_le h60]
    · rw [Nat.min_eq_right (by omega)]
  rw [hlt] at s1
  obtain ⟨v2, d, e2, gl, nn, kk, wk, _⟩ := (Gl.nil h h.next 6).appends (bytes := 48) (Nat.le_refl _) (by simp) s1 (map_one6 _) (by decide) (by simp; omega) (by simp; omega)
  simp [hl, hk2, e1, e2]
  exact q _ _ ⟨nn, fun i hi => kk i (by simp [V.ids]) hi⟩ (wk wf) (by simpa using gl)
theorem same_ct {h : H} {v1 v2 : V} {l m : List Nl} (s1 : Sls h.get 6 v1 (l.map nlC)) (s2 : Sls h.get 6 v2 (m.map nlC)) : Pure Tryz.prog 16 [v1, v2] h (.bool (decide (l = m))) := by
  refine pure_to Tryz.func16 S.Href07_Same_code S.Href07_Same_enter rfl (Nat.le_of_ble_eq_true rfl) fun wf => ?_; simp only [S.Href07_Same]
  have l1 := s1.lenG wf (n := l.length) (by simp)
  have l2 := s2.lenG wf (n := m.length) (by simp)
  have hb := s1.bound
  simp only [List.length_map] at hb
  by_cases hl : l.length = m.length
  · have bl : ((l.length : Int) != (m.length : Int)) = false := by rw [hl]; simp
    simp [l1, l2, bl]
    refine loop_up (fun i t h' => (t 0 = v1 ∧ t 1 = v2 ∧ t 5 = .int .i64 (i : Nat)) ∧ h' = h ∧ l.take i = m.take i) l.length ⟨by simp, rfl, by simp⟩ ?_
    rintro i t h' hi ⟨⟨t0, t1, t5⟩, rfl, htk⟩ K hK
    by_cases hlt : i < l.length
    · have hlt2 : i < m.length := by omega
      obtain ⟨p, q, o, cs, a1, a2, a3, a4, a5, a6⟩ := s1.atG wf (k := i) (by simpa using hlt)
      obtain ⟨p', q', o', cs', b1, b2, b3, b4, b5, b6⟩ := s2.atG wf (k := i) (by simpa using hlt2)
      have a5' : (cs.drop o).take 6 = nlC l[i] := by rw [a5]; simp
      have b5' : (cs'.drop o').take 6 = nlC m[i] := by rw [b5]; simp
      have hw := wrap_succ hlt hb
      have a3' := a3 h' (Ge.refl _)
      have b3' := b3 h' (Ge.refl _)
      have eqt : l[i] = m[i] → eqV (TS.st [(0, 4, true, (TS.st [(0, 1, false, TS.int), (1, 1, false, TS.int), (2, 1, false, TS.str), (3, 1, false, TS.int)])), (4, 1, false, TS.int), (5, 1, false, TS.int)]) (.agg (nlC l[i])) (.agg (nlC m[i])) = some true := fun e => by rw [eq_nl]; simp [e]
      have eqf : ¬ l[i] = m[i] → eqV (TS.st [(0, 4, true, (TS.st [(0, 1, false, TS.int), (1, 1, false, TS.int), (2, 1, false, TS.str), (3, 1, false, TS.int)])), (4, 1, false, TS.int), (5, 1, false, TS.int)]) (.agg (nlC l[i])) (.agg (nlC m[i])) = some false := fun e => by rw [eq_nl]; simp [e]
      simp [t0, t1, t5, l1, hlt]
      refine dreg_of ?_
      by_cases hx : l[i] = m[i]
      · simp [t0, t1, t5, a1, a3', a4, a5', b1, b3', b4, b5', eqt hx, hw]
        refine hK _ _ hlt ⟨by simp [t0, t1], rfl, ?_⟩
        rw [List.take_add_one, List.take_add_one, htk, List.getElem?_eq_getElem hlt, List.getElem?_eq_getElem hlt2, hx]
      · have hne : l ≠ m := fun e => hx (by subst e; rfl)
        simp [t0, t1, t5, a1, a3', a4, a5', b1, b3', b4, b5', eqf hx, hne]
    · have hi2 : i = l.length := by omega
      have e : l = m := by
        have h1 : l.take i = l := List.take_of_length_le (by omega)
        have h2 : m.take i = m := List.take_of_length_le (by omega)
        rw [h1, h2] at htk; exact htk
      have r : decide (l = m) = true := decide_eq_true e
      simp [t0, t1, t5, l1, hlt, r]
  · have bl : ((l.length : Int) != (m.length : Int)) = true := by
      have : ¬ (l.length : Int) = (m.length : Int) := by omega
      simpa using this
    have hne : l ≠ m := fun e => hl (by rw [e])
    simp [l1, l2, bl, hne]
theorem enc_snoc {add : Bool} (l : List Nl) (n : Nl) : encL add (l ++ [n]) = encL add l ++ enc1 add n := by simp [encL]
theorem rencode_ct {h : H} {sl : V} {l : List Nl} {fam : Int} {add : Bool} (hs : Sls h.get 6 sl (l.map nlC)) (hl : l.length ≤ 10000000) (hf : ∀ n ∈ l, NlFit n) :
    Pure Tryz.prog 15 [sl, .int .i64 fam, .bool add] h (match encS l fam add with | some s => .tup [.str s, .int .i64 0] | none => .tup [.str [], .int .i64 2]) := by
  refine pure_to Tryz.func15 S.Href07_Encode_code S.Href07_Encode_enter (by split <;> rfl) (Nat.le_of_ble_eq_true rfl) fun wf => ?_; simp only [S.Href07_Encode]
  simp
  refine rsize_ct _ ?_
  by_cases z : sizeN fam = 0
  · simp [z, encS]
  have bz : (((sizeN fam : Nat) : Int) == 0) = false := beq_no (by omega)
  have hlen := hs.lenG wf (n := l.length) (by simp)
  simp [bz]
  refine loop_up (fun i t h' => ∃ v, (t 0 = sl ∧ t 1 = .int .i64 fam ∧ t 2 = .bool add ∧ t 8 = v ∧ t 9 = .int .i64 (i : Nat)) ∧ Ge h h' ∧ h'.WF ∧ Gb h' h.next v (encL add (l.take i)) ∧ ∀ n ∈ l.take i, encOk fam add n = true) l.length ⟨.nilsl, by simp, Ge.refl _, wf, .inl ⟨by simp [encL], rfl⟩, by simp⟩ ?_
  rintro i t h' hi ⟨v, ⟨t0, t1, t2, t8, t9⟩, g1, w1, gb, hok⟩ K hK
  by_cases hlt : i < l.length
  · obtain ⟨p, q, o, cs, e1, e2, e3, e4, e5, e6⟩ := hs.atG wf (k := i) (by simpa using hlt)
    obtain ⟨n, hn⟩ : ∃ n, n = l[i] := ⟨_, rfl⟩
    have e5' : (cs.drop o).take 6 = nlC n := by rw [e5, hn]; simp
    have e3' := e3 h' g1
    have x0 : cs[o]? = some (.int .i64 n.p.fam) := by have := e6 0 (by omega); simpa [nlC, hn] using this
    have x4 : cs[o + 4]? = some (.int .u32 (n.id : Nat)) := by have := e6 4 (by omega); simpa [nlC, hn] using this
    have fit := hf n (by rw [hn]; exact List.getElem_mem _)
    have hw := wrap_succ hlt (by omega)
    have bad : encOk fam add n = false → encS l fam add = none := fun hb => by
      have : ¬ l.all (encOk fam add) = true := fun ha => by
        have := List.all_eq_true.1 ha n (by rw [hn]; exact List.getElem_mem _)
        rw [hb] at this; cases this
      simp [encS, z, this]
    simp [t0, t1, t2, t8, t9, hlen _ g1, hlt, e1, e3', e4, e5']
    refine rmayn_ct (n := n) _ ?_
    cases hm : mayN n with
    | false =>
      rw [bad (by simp [encOk, hm])]
      simp [g1]
    | true =>
      by_cases hfam : n.p.fam = fam
      · have bf : (n.p.fam != fam) = false := by rw [hfam]; simp
        have ix : (decide (n.id = 0) || add) = true ∨ (decide (n.id = 0) || add) = false := by cases decide (n.id = 0) <;> cases add <;> simp
        have snoc : encL add (l.take (i + 1)) = encL add (l.take i) ++ enc1 add n := by
          rw [List.take_add_one, List.getElem?_eq_getElem hlt, ← hn]; exact enc_snoc _ _
        have good : (decide (n.id = 0) || add) = true → ∀ x ∈ l.take (i + 1), encOk fam add x = true := fun hg x hx => by
          rw [List.take_add_one, List.getElem?_eq_getElem hlt, ← hn] at hx
          simp only [List.mem_append, Option.toList_some, List.mem_singleton] at hx
          rcases hx with hx | rfl
          · exact hok x hx
          · simp only [encOk, hm, hfam, hg, beq_self_eq_true, Bool.true_and]
        have hel := encL_le (add := add) (l := l.take i) (fun x hx => by have := hok x hx; simp only [encOk, Bool.and_eq_true] at this; exact this.1.1)
        have hti : (l.take i).length = i := by rw [List.length_take]; omega
        have he1 := enc1_le (add := add) hm
        obtain ⟨v', d, b1, b2, b3, b4, b5, b6⟩ := gb.append (by have := g1.1; omega) (enc1 add n) (by omega)
        have wrap : (decide (n.id = 0) || add) = true → ∀ t', (t' 0 = sl ∧ t' 1 = .int .i64 fam ∧ t' 2 = .bool add ∧ t' 8 = v' ∧ t' 9 = .int .i64 ((i + 1 : Nat) : Int)) → K t' (h'.app d) := fun hg t' ht =>
          hK _ _ hlt ⟨v', ht, ⟨by have := g1.1; omega, fun k hk => (b5 k hk).trans (g1.2 k hk)⟩, b6 w1, by rw [snoc]; exact b2, good hg⟩
        by_cases hid : n.id = 0
        · simp [t0, t1, t2, t8, t9, e1, e3', e4, e5', x0, x4, bf, hid]
          refine one_ct (n := n) hm fit.id fit.rd _ ?_
          simp [t8, t9, b1, hw]
          exact wrap (by simp [hid]) _ (by simp [t0, t1, t2])
        · have bi : (0 : Int) < (n.id : Nat) := by omega
          have bi' : 0 < n.id := by omega
          cases add with
          | true =>
            simp [t0, t1, t2, t8, t9, e1, e3', e4, e5', x0, x4, bf, bi, bi']
            refine one_ct (n := n) hm fit.id fit.rd _ ?_
            simp [t8, t9, b1, hw]
            exact wrap (by simp) _ (by simp [t0, t1, t2])
          | false =>
            rw [bad (by simp [encOk, hid])]
            simp [t0, t1, t2, t9, e1, e3', e4, x0, x4, bf, bi, bi', g1]
      · have bf : (n.p.fam != fam) = true := by simpa using hfam
        rw [bad (by simp [encOk, hfam])]
        simp [t0, t1, t9, e1, e3', e4, x0, bf, g1]
  · have hi2 : i = l.length := by omega
    have hle : l.take i = l := List.take_of_length_le (by omega)
    rw [hle] at gb hok
    have ha : l.all (encOk fam add) = true := List.all_eq_true.2 hok
    have r : encS l fam add = some (encL add l) := by simp only [encS]; rw [if_neg z, if_pos ha]
    rw [r]
    simp [t0, t8, t9, hlen _ g1, hlt]
    have sn : ∀ g, strOfV g .nilsl = some (.str []) := fun _ => rfl
    have ge := gb.elems
    rcases gb with ⟨ea, rfl⟩ | ⟨ne, j, _, _, rfl, gj⟩
    · simp [ea, g1, sn]
    · simp [ge, mapM_u8, g1]
end Go.Am

/-
  NlriLays: the reference's Put and Withdrawn.
-/
namespace Go.Am
open Go.Proofs

set_option maxRecDepth 100000
theorem loop_cut {body : (Exit → Tm → H → Prop) → Tm → H → Prop} {Q : Exit → Tm → H → Prop} {t : Tm} {h : H} {id : Nat} (J : Tm → H → Prop) (ha : ∀ R : Exit → Tm → H → Prop, (∀ t' h', J t' h' → R .normal t' h') → loopA body (blockA id R) t h) (k : ∀ t' h', J t' h' → Q .normal t' h') : loopA body (blockA id Q) t h := ha Q k
theorem swp_cut {P : Program} {K : Tm → H → Prop} {ops : List SI} {t : Tm} {h : H} (J : Tm → H → Prop) (ha : ∀ K' : Tm → H → Prop, (∀ t' h', J t' h' → K' t' h') → Swp P K' ops t h) (k : ∀ t' h', J t' h' → K t' h') : Swp P K ops t h := ha K k
theorem rput_ct {h : H} {v : V} {l : List Nl} {n : Nl} (hs : Sls h.get 6 v (l.map nlC)) (hc : CapOk v) (hn : n.p.addr.length < 9223372036854775808) (hl : l.length ≤ 1000000) {Q : V → H → Prop}
    (q : ∀ v' h', Ge h h' → h'.WF → Sls h'.get 6 v' ((putL cmpNl l n).map nlC) → CapOk v' → Q v' h') : Acalls Tryz.prog 40 [v, .agg (nlC n)] h Q := by
  refine acalls_to Tryz.func40 S.Href07_Put_code S.Href07_Put_enter (Nat.le_of_ble_eq_true rfl) fun wf => ?_; simp only [S.Href07_Put]
  obtain ⟨h1, hh1⟩ : ∃ h1, h1 = h.push (.row (nlC n)) := ⟨_, rfl⟩
  have g1 : Ge h h1 := by rw [hh1]; exact (Ge.refl _).push _
  have w1 : h1.WF := by rw [hh1]; exact wf.push _
  have c1 : cellsAt h1.get h.next 6 = some (nlC n) := by rw [hh1, cellsAt_of (by simp; rfl) (by simp [nlC])]; rfl
  have n1 : h1.next = h.next + 1 := by rw [hh1]; simp
  have s1 := hs.ge wf g1
  have hlen := s1.lenG w1 (n := l.length) (by simp)
  have hnt : (nlC n).take 6 = nlC n := rfl
  have hcs : (V.agg (nlC n)).cells = nlC n := rfl
  have hso : (V.agg (nlC n)).solid = true := rfl
  have hnl : (nlC n).length = 6 := rfl
  have hno : ∀ x, x ∈ nlC n → x.one = true := by simp [nlC]
  simp [hcs, hso, hnl, if_pos hno]
  rw [← hh1]
  simp [hlen]
  refine loop_cut (id := 0) (fun t h' => (t 0 = v ∧ t 3 = .ptr h.next 6 0 ∧ t 5 = .int .i64 ((spot cmpNl n l l.length : Nat) : Int)) ∧ h' = h1) (fun R hR => ?_) ?_
  · refine loop_up (fun i t h' => (t 0 = v ∧ t 3 = .ptr h.next 6 0 ∧ t 5 = .int .i64 ((l.length - i : Nat) : Int)) ∧ h' = h1 ∧ i ≤ l.length ∧ spot cmpNl n l l.length = spot cmpNl n l (l.length - i)) l.length ⟨by simp, rfl, by omega, rfl⟩ ?_
    rintro i t h' hi ⟨⟨t0, t3, t5⟩, rfl, hil, hsp⟩ K hK
    obtain ⟨k, hk⟩ : ∃ k, k = l.length - i := ⟨_, rfl⟩
    rw [← hk] at t5 hsp
    simp
    refine dreg_of ?_
    by_cases h0 : 0 < k
    · have h0' : (0 : Int) < (k : Int) := by omega
      have hkl : k - 1 < l.length := by omega
      have w1' : IntKind.i64.wrap ((k : Int) - 1) = ((k - 1 : Nat) : Int) := by rw [wrap_i64_id (by omega) (by omega)]; omega
      obtain ⟨p, qq, o, cs, e1, e2, e3, e4, e5, e6⟩ := s1.atG w1 (k := k - 1) (by simpa using hkl)
      have e5' : (cs.drop o).take 6 = nlC l[k - 1] := by rw [e5]; simp
      have e3' := e3 h' (Ge.refl _)
      simp [t0, t3, t5, h0, w1', e1, e3', e4, e5', c1, hnt, hnl]
      refine scall_of (rcmpn_ct (a := n) (b := l[k - 1]) hn) ?_
      have sp : spot cmpNl n l k = if cmpNl n l[k - 1] < 0 then spot cmpNl n l (k - 1) else k := by
        obtain ⟨m, rfl⟩ : ∃ m, k = m + 1 := ⟨k - 1, by omega⟩
        rw [spot, show l[m]? = some l[m] from List.getElem?_eq_getElem (by omega)]
        simp
      by_cases hlt : cmpNl n l[k - 1] < 0
      · simp [hlt, t5, w1']
        refine hK _ _ (by omega) ⟨by simp [t0, t3]; omega, rfl, by omega, ?_⟩
        rw [hsp, sp, if_pos hlt]; congr 1; omega
      · simp [hlt]
        refine hR _ _ ⟨by simp [t0, t3, t5, hsp, sp, hlt], rfl⟩
    · have k0 : k = 0 := by omega
      subst k0
      simp [t5]
      refine hR _ _ ⟨by simp [t0, t3, t5, hsp, spot], rfl⟩
  rintro t h' ⟨⟨t0, t3, t5⟩, rfl⟩
  obtain ⟨k, hk⟩ : ∃ k, k = spot cmpNl n l l.length := ⟨_, rfl⟩
  have hkl := spot_le (c := cmpNl) n l l.length
  rw [← hk] at t5 hkl
  have hput : putL cmpNl l n = if 0 < k ∧ l[k - 1]? = some n then l else l.take k ++ n :: l.drop k := by unfold putL; rw [← hk]
  simp
  refine dreg_of ?_
  refine swp_cut (fun t' g => (t' 0 = v ∧ t' 3 = .ptr h.next 6 0 ∧ t' 5 = .int .i64 (k : Nat) ∧ t' 33 = .bool (decide (0 < k ∧ l[k - 1]? = some n))) ∧ g = h') (fun K' hK' => ?_) ?_
  · by_cases h0 : 0 < k
    · have hkl1 : k - 1 < l.length := by omega
      have w1' : IntKind.i64.wrap ((k : Int) - 1) = ((k - 1 : Nat) : Int) := by rw [wrap_i64_id (by omega) (by omega)]; omega
      obtain ⟨p, qq, o, cs, e1, e2, e3, e4, e5, e6⟩ := s1.atG w1 (k := k - 1) (by simpa using hkl1)
      have e5' : (cs.drop o).take 6 = nlC l[k - 1] := by rw [e5]; simp
      have e3' := e3 h' (Ge.refl _)
      have eq := eq_nl l[k - 1] n
      have hg : l[k - 1]? = some l[k - 1] := List.getElem?_eq_getElem hkl1
      have hd : decide (0 < k ∧ l[k - 1]? = some n) = decide (l[k - 1] = n) := by rw [hg]; simp [h0]
      simp [t0, t3, t5, h0, w1', e1, e3', e4, e5', c1, hnt, hnl, eq]
      exact hK' _ _ ⟨by simp [t0, t3, t5, hd], rfl⟩
    · have k0 : k = 0 := by omega
      have hd : decide (0 < k ∧ l[k - 1]? = some n) = false := by simp [k0]
      rw [k0] at t5
      simp [t5]
      exact hK' _ _ ⟨by simp [t0, t3, t5, k0], rfl⟩
  rintro t2 g ⟨⟨u0, u3, u5, u33⟩, rfl⟩
  simp [u33]
  by_cases hp : 0 < k ∧ l[k - 1]? = some n
  · have hd : decide (0 < k ∧ l[k - 1]? = some n) = true := decide_eq_true hp
    rw [if_pos hp] at hput
    simp [hp, u0]
    exact q _ _ g1 w1 (by rw [hput]; exact s1) hc
  · have hd : decide (0 < k ∧ l[k - 1]? = some n) = false := decide_eq_false hp
    rw [if_neg hp] at hput
    have hd2 : (decide (0 < k) && decide (l[k - 1]? = some n)) = false := by simpa using hp
    simp only [hd, hd2]
    obtain ⟨va, ea, sa, _⟩ := s1.take hc (k := k) (by simpa using hkl) .i64
    rw [← List.map_take] at sa
    obtain ⟨v1, d1, x1, gl1, m1, k1, y1, _⟩ := (Gl.nil g g.next 6).appends (bytes := 48) (Nat.le_refl _) (by simp) sa (map_one6 _) (by decide) (by simp; omega) (by simp; omega)
    rw [List.nil_append] at gl1
    simp [u0, u5, ea, x1]
    obtain ⟨h2, hh2⟩ : ∃ h2, h2 = g.app d1 := ⟨_, rfl⟩
    rw [← hh2] at gl1 m1 k1 y1 ⊢
    have ge2 : Ge g h2 := ⟨m1, fun i hi => k1 i (by simp [V.ids]) hi⟩
    have w2 := y1 w1
    have c2 : cellsAt h2.get h.next 6 = some (nlC n) := by rw [ge2.cells (by omega), c1]
    simp [u3, c2, hnt, hnl, if_pos hno]
    obtain ⟨h3, hh3⟩ : ∃ h3, h3 = h2.push (.row (nlC n)) := ⟨_, rfl⟩
    have ge3 : Ge h2 h3 := by rw [hh3]; exact (Ge.refl _).push _
    have w3 : h3.WF := by rw [hh3]; exact w2.push _
    have n3 : h3.next = h2.next + 1 := by rw [hh3]; simp
    have gl2 : Gl h3 g.next 6 v1 ((l.take k).map nlC) := gl1.keep ge3.1 (fun i hi => ge3.2 i (gl1.lo i hi).2)
    have hx : elemsV h3.get 6 (.sl h2.next 6 0 1 (some 1)) = some (1, nlC n) := by
      rw [elemsV_sl, if_neg (by omega), hh3, cellsAt_push, if_pos rfl]
      simp [hnl, hnt]
    obtain ⟨v2, d2, x2, gl3, m2, k2, y2, i2⟩ := gl2.append2 (bytes := 48) (by omega) (map_len6 _) (nlC_len n) hx (nlC_one n) (by decide) (by simp; omega) (by simp; omega)
    rw [n3] at x2
    rw [← hh3]
    simp [x2]
    obtain ⟨h4, hh4⟩ : ∃ h4, h4 = h3.app d2 := ⟨_, rfl⟩
    rw [← hh4] at gl3 m2 k2 y2 ⊢
    have ge4 : Ge g h4 := ⟨by have := ge2.1; have := ge3.1; omega, fun i hi => by
      rw [k2 i (fun hm => by have := (gl2.lo i hm).1; omega) (by have := ge2.1; have := ge3.1; omega), ge3.2 i (by have := ge2.1; omega), ge2.2 i hi]⟩
    have w4 := y2 w3
    have s4 := s1.ge w1 ge4
    obtain ⟨vb, eb, sb, _⟩ := s4.drop hc (k := k) (by simpa using hkl) .i64
    rw [← List.map_drop] at sb
    obtain ⟨v3, d3, x3, gl4, m3, k3, y3, _⟩ := gl3.appends (bytes := 48) (by have := ge4.1; omega) (fun e he => by
      rcases List.mem_append.1 he with he | he
      · exact map_len6 _ e he
      · rw [List.mem_singleton] at he; subst he; exact nlC_len n) sb (map_one6 _) (by decide) (by simp; omega) (by simp; omega)
    simp [u0, u5, eb, x3]
    obtain ⟨h5, hh5⟩ : ∃ h5, h5 = h4.app d3 := ⟨_, rfl⟩
    rw [← hh5] at gl4 m3 k3 y3 ⊢
    have hes : List.map nlC (l.take k) ++ [nlC n] ++ List.map nlC (l.drop k) = (putL cmpNl l n).map nlC := by rw [hput]; simp
    rw [hes] at gl4
    refine q _ _ ?_ (y3 w4) (gl4.sls (map_len6 _) ?_) gl4.cap
    · refine g1.trans ⟨by have := ge4.1; omega, fun i hi => ?_⟩
      rw [k3 i (fun hm => by have := (gl3.lo i hm).1; omega) (by have := ge4.1; omega), ge4.2 i hi]
    · have := putL_len (c := cmpNl) l n
      simp only [List.length_map]; omega
end Go.Am

/-
  NlriLays: the reference's Withdrawn.
-/
namespace Go.Am
open Go.Proofs

set_option maxRecDepth 100000
def bare (n : Nl) : Nl := { n with label := 0 }
theorem puts_snoc {α : Type} [DecidableEq α] {c : α → α → Int} (l : List α) (n : α) : putsL c (l ++ [n]) = putL c (putsL c l) n := by simp [putsL]
theorem puts_len {α : Type} [DecidableEq α] {c : α → α → Int} : ∀ l : List α, (putsL c l).length ≤ l.length := by
  have key : ∀ (l acc : List α), (l.foldl (putL c) acc).length ≤ acc.length + l.length := by
    intro l
    induction l with
    | nil => intro acc; simp
    | cons a l ih =>
      intro acc
      have h1 := ih (putL c acc a)
      have h2 := putL_len (c := c) acc a
      simp only [List.foldl_cons, List.length_cons]
      omega
  intro l
  have := key l []
  simpa [putsL] using this
theorem rwith_ct {h : H} {v : V} {l : List Nl} (hs : Sls h.get 6 v (l.map nlC)) (hf : ∀ n ∈ l, n.p.addr.length < 9223372036854775808) (hl : l.length ≤ 100000) {Q : V → H → Prop}
    (q : ∀ v' h', Ge h h' → h'.WF → Sls h'.get 6 v' ((putsL cmpNl (l.map bare)).map nlC) → CapOk v' → Q v' h') : Acalls Tryz.prog 18 [v] h Q := by
  refine acalls_to Tryz.func18 S.Href07_Withdrawn_code S.Href07_Withdrawn_enter (Nat.le_of_ble_eq_true rfl) fun wf => ?_; simp only [S.Href07_Withdrawn]
  have hlen := hs.lenG wf (n := l.length) (by simp)
  simp
  refine loop_up (fun i t h' => ∃ w, (t 0 = v ∧ t 3 = w ∧ t 4 = .int .i64 (i : Nat)) ∧ Ge h h' ∧ h'.WF ∧ Sls h'.get 6 w ((putsL cmpNl ((l.take i).map bare)).map nlC) ∧ CapOk w) l.length ⟨.nilsl, by simp, Ge.refl _, wf, ⟨.inl ⟨by simp [putsL], .inl rfl⟩, by simp [putsL], by simp [putsL, elemsV], by simp [putsL]⟩, trivial⟩ ?_
  rintro i t h' hi ⟨w, ⟨t0, t3, t4⟩, g1, w1, sw, cw⟩ K hK
  by_cases hlt : i < l.length
  · obtain ⟨p, q', o, cs, e1, e2, e3, e4, e5, e6⟩ := hs.atG wf (k := i) (by simpa using hlt)
    obtain ⟨n, hn⟩ : ∃ n, n = l[i] := ⟨_, rfl⟩
    have e5' : (cs.drop o).take 6 = nlC n := by rw [e5, hn]; simp
    have e3' := e3 h' g1
    have hw := wrap_succ hlt (by omega)
    have hcs : (V.agg (nlC n)).cells = nlC n := rfl
    have hso : (V.agg (nlC n)).solid = true := rfl
    have hnl : (nlC n).length = 6 := rfl
    have hset : List.take 5 (nlC n) ++ V.int .u32 0 :: List.drop 6 (nlC n) = nlC (bare n) := rfl
    have hnt : (nlC (bare n)).take 6 = nlC (bare n) := rfl
    have hnb : (nlC (bare n)).length = 6 := rfl
    have hlt' : ¬ p = h'.next := by have := g1.1; omega
    simp [t0, t3, t4, hlen _ g1, hlt, e1, e3', e4, e5', hcs, hso, hnl, hset, hnt, hnb, hlt', H.push_set]
    obtain ⟨h2, hh2⟩ : ∃ h2, h2 = h'.push (.row (nlC (bare n))) := ⟨_, rfl⟩
    have ge2 : Ge h' h2 := by rw [hh2]; exact (Ge.refl _).push _
    have w2 : h2.WF := by rw [hh2]; exact w1.push _
    have hnm : n ∈ l := by rw [hn]; exact List.getElem_mem _
    rw [← hh2]
    refine rput_ct (n := bare n) (sw.ge w1 ge2) cw (hf n hnm) (by have := puts_len (c := cmpNl) ((l.take i).map bare); simp only [List.length_map, List.length_take] at this; omega) (fun v2 h3 g3 w3 s3 c3 => ?_)
    simp [t4, hw]
    refine hK _ _ hlt ⟨v2, by simp [t0], (g1.trans ge2).trans g3, w3, ?_, c3⟩
    rw [List.take_add_one, List.getElem?_eq_getElem hlt, ← hn]
    simp only [Option.toList_some, List.map_append, List.map_cons, List.map_nil, puts_snoc]
    exact s3
  · have hi2 : i = l.length := by omega
    have hle : l.take i = l := List.take_of_length_le (by omega)
    rw [hle] at sw
    simp [t0, t3, t4, hlen _ g1, hlt]
    exact q _ _ g1 w1 sw cw
end Go.Am

/-
  NlriLays: copies of told prefixes; taken back in place.
-/
namespace Go.Am
open Go.Proofs

set_option maxRecDepth 100000
/-- An append to a row without room. -/
theorem append_room0 {g : Nat → Option O} {next sz bytes k m : Nat} {xs : List V} {x : V} (hx : elemsV g sz x = some (m, xs)) (hm : m ≠ 0) (h1 : xs.all V.one = true) (hsz : sz ≠ 0) (hb : m * bytes ≤ 140737488355328) (hb2 : m ≤ 9223372036854775807) :
    appendV g next sz bytes (.sl k 0 0 0 (some 0)) x = some (.sl next (m * sz) 0 m none, .push (.grow sz xs)) := by
  have e0 : elemsV g sz (.sl k 0 0 0 (some 0)) = some (0, []) := by rw [elemsV_sl, if_pos rfl]
  unfold appendV
  rw [hx]
  simp only
  rw [if_neg hm, if_neg (by simp [h1, hsz])]
  simp only [Nat.zero_add]
  rw [if_neg (by omega), e0]
  simp only [Nat.zero_add, List.nil_append]
  rw [if_pos ⟨hb, hb2⟩]
theorem append_none {g : Nat → Option O} {next sz bytes k : Nat} {x : V} (hx : elemsV g sz x = some (0, [])) : appendV g next sz bytes (.sl k 0 0 0 (some 0)) x = some (.sl k 0 0 0 (some 0), .keep) := by
  unfold appendV
  rw [hx]
  simp
theorem clone_ct {h : H} {v : V} {l : List Nl} (hs : Sls h.get 6 v (l.map nlC)) (hl : l.length ≤ 1000000) {Q : V → H → Prop}
    (q : ∀ v' h', Ge h h' → h'.WF → ((l = [] ∧ (v' = .nilsl ∨ ∃ k, h.next ≤ k ∧ v' = .sl k 0 0 0 (some 0))) ∨ (l ≠ [] ∧ Gl h' h.next 6 v' (l.map nlC))) → Q v' h') : Acalls Tryz.prog 37 [v] h Q := by
  refine acalls_to Tryz.func37 S.slices_Clone_api_Nlri_api_Nlri_code S.slices_Clone_api_Nlri_api_Nlri_enter (Nat.le_of_ble_eq_true rfl) fun wf => ?_; simp only [S.slices_Clone_api_Nlri_api_Nlri]
  obtain ⟨h1, hh1⟩ : ∃ h1, h1 = h.push (.row []) := ⟨_, rfl⟩
  have g1 : Ge h h1 := by rw [hh1]; exact (Ge.refl _).push _
  have w1 : h1.WF := by rw [hh1]; exact wf.push _
  have n1 : h1.next = h.next + 1 := by rw [hh1]; simp
  have s1 := (hs.ge wf g1).read
  have hlm : (l.map nlC).length = l.length := by simp
  rw [hlm] at s1
  by_cases hv : v = .nilsl
  · subst hv
    have hl0 : l = [] := by
      rcases hs.kind with ⟨e, _⟩ | ⟨_, _, _, _, e⟩
      · simpa using e
      · cases e
    have en : eqV .sl .nilsl .nilsl = some true := rfl
    simp [en]
    exact q _ _ (Ge.refl _) wf (.inl ⟨hl0, .inl rfl⟩)
  · have en : eqV .sl v .nilsl = some false := by
      rcases hs.kind with ⟨_, rfl | rfl⟩ | ⟨_, _, _, _, rfl⟩
      · exact absurd rfl hv
      · rfl
      · rfl
    simp [en]
    rw [← hh1]
    by_cases h0 : l.length = 0
    · have hl0 : l = [] := List.eq_nil_of_length_eq_zero h0
      subst hl0
      have a0 := append_none (next := h1.next) (bytes := 48) (k := h.next) s1
      rw [n1] at a0
      simp [n1, a0]
      exact q _ _ g1 w1 (.inl ⟨rfl, .inr ⟨_, Nat.le_refl _, rfl⟩⟩)
    · have hne : l ≠ [] := fun e => h0 (by rw [e]; rfl)
      have ones : (l.map nlC).flatten.all V.one = true := by rw [List.all_flatten]; exact List.all_eq_true.2 (map_one6 l)
      have a0 := append_room0 (next := h1.next) (bytes := 48) (k := h.next) s1 h0 ones (by decide) (by omega) (by omega)
      rw [n1] at a0
      simp [n1, a0]
      have hfl := flat_len (map_len6 l)
      rw [hlm] at hfl
      refine q _ _ (g1.push _) (w1.push _) (.inr ⟨hne, .inr ⟨by simpa using hne, h1.next, by omega, by simp, ?_, by simp⟩⟩)
      rw [hfl, hlm, n1]
end Go.Am

/-
  NlriLays: slices.Compact at told prefixes.
-/
namespace Go.Am
open Go.Proofs

set_option maxRecDepth 100000
theorem compact_snoc {α : Type} [DecidableEq α] : ∀ (l : List α) (y x : α), compactL (l ++ [y, x]) = if y = x then compactL (l ++ [y]) else compactL (l ++ [y]) ++ [x]
  | [], y, x => by
    simp only [List.nil_append, compactL]
    split
    · rename_i e; subst e; rfl
    · rfl
  | [a], y, x => by
    simp only [List.cons_append, List.nil_append, compactL]
    by_cases h1 : a = y <;> by_cases h2 : y = x <;> simp [h1, h2]
  | a :: b :: l, y, x => by
    have ih := compact_snoc (b :: l) y x
    simp only [List.cons_append] at ih ⊢
    rw [compactL, compactL]
    split
    · exact ih
    · rw [ih]
      split <;> simp
theorem compact_at {α : Type} [DecidableEq α] (l : List α) {m : Nat} (h1 : 0 < m) (h2 : m < l.length) : compactL (l.take (m + 1)) = if l[m - 1] = l[m] then compactL (l.take m) else compactL (l.take m) ++ [l[m]] := by
  obtain ⟨k, rfl⟩ : ∃ k, m = k + 1 := ⟨m - 1, by omega⟩
  have e1 : l.take (k + 1) = l.take k ++ [l[k]] := by rw [List.take_add_one, List.getElem?_eq_getElem (by omega)]; rfl
  have e3 : l.take (k + 1 + 1) = l.take (k + 1) ++ l[k + 1]?.toList := List.take_add_one
  have e2 : l.take (k + 1 + 1) = l.take k ++ [l[k], l[k + 1]] := by
    rw [e3, e1, List.getElem?_eq_getElem h2, List.append_assoc]
    rfl
  rw [e2, compact_snoc, e1]
  rfl
theorem compact_len {α : Type} [DecidableEq α] : ∀ l : List α, (compactL l).length ≤ l.length
  | [] => Nat.le_refl _
  | [_] => Nat.le_refl _
  | a :: b :: l => by
    have ih := compact_len (b :: l)
    unfold compactL
    split
    · simp only [List.length_cons] at ih ⊢; omega
    · simp only [List.length_cons] at ih ⊢; omega
/-- The cells of a list in which an element was written. -/
theorem flat_set (l : List Nl) (t : Nat) (x : Nl) (ht : t < l.length) : putCells (l.map nlC).flatten (t * 6) (nlC x) = ((l.set t x).map nlC).flatten := by
  have hs := map_len6 l
  have e1 := flat_take hs t
  have e2 := flat_drop hs (t + 1)
  rw [List.set_eq_take_append_cons_drop, if_pos ht, List.map_append, List.map_cons, List.flatten_append, List.flatten_cons, List.map_take, List.map_drop, e1, e2]
  unfold putCells
  rw [show t * 6 + (nlC x).length = (t + 1) * 6 by rw [nlC_len]; omega, List.append_assoc]
/-- A grown row of told prefixes, from a place on. -/
theorem sls_part {g : Nat → Option O} {j : Nat} {l : List Nl} (hg : g j = some (.grow 6 (l.map nlC).flatten)) (hb : l.length < 9223372036854775808) (k : Nat) (hk : k ≤ l.length) : Sls g 6 (.sl j (l.length * 6) (k * 6) (l.length - k) none) ((l.drop k).map nlC) := by
  have hfl := flat_len (map_len6 l)
  simp only [List.length_map] at hfl
  refine ⟨.inr ⟨j, l.length * 6, k * 6, none, by simp⟩, map_len6 _, ?_, by simp; omega⟩
  rw [elemsV_sl]
  split
  · rename_i h0; rw [List.drop_of_length_le (by omega)]; rfl
  · rename_i h0
    have hm : k * 6 + (l.length - k) * 6 = l.length * 6 := by rw [← Nat.add_mul]; congr 1; omega
    rw [cellsAt_of hg (by simp [hfl])]
    simp only [cells_grow]
    rw [if_pos (by omega), List.length_map, List.length_drop, List.map_drop, flat_drop (map_len6 l), List.take_of_length_le (by rw [List.length_drop]; omega)]
theorem sls_all {g : Nat → Option O} {j : Nat} {l : List Nl} (hg : g j = some (.grow 6 (l.map nlC).flatten)) (hb : l.length < 9223372036854775808) : Sls g 6 (.sl j (l.length * 6) 0 l.length none) (l.map nlC) := by
  have := sls_part hg hb 0 (Nat.zero_le _)
  simpa using this
theorem compactn_ct {h : H} {j : Nat} {l : List Nl} (hg : h.get j = some (.grow 6 (l.map nlC).flatten)) (hl : l.length ≤ 1000000) (hne : l ≠ []) {Q : V → H → Prop}
    (q : ∀ v' h', (∀ i, i ≠ j → h'.get i = h.get i) → h'.next = h.next → h'.WF → Sls h'.get 6 v' ((compactL l).map nlC) → CapOk v' → Q v' h') : Acalls Tryz.prog 39 [.sl j (l.length * 6) 0 l.length none] h Q := by
  refine acalls_to Tryz.func39 S.slices_Compact_api_Nlri_api_Nlri_code S.slices_Compact_api_Nlri_api_Nlri_enter (Nat.le_of_ble_eq_true rfl) fun wf => ?_; simp only [S.slices_Compact_api_Nlri_api_Nlri]
  have hlt := wf.lt hg
  have s0 := sls_all hg (by omega)
  have hpos : 0 < l.length := List.length_pos_iff.2 hne
  by_cases h2 : l.length < 2
  · have e1 : compactL l = l := by
      match l, hpos, h2 with
      | [a], _, _ => rfl
    have h2' : (l.length : Int) < 2 := by omega
    simp [h2']
    exact q _ _ (fun _ _ => rfl) rfl wf (by rw [e1]; exact s0) trivial
  have h2' : ¬ (l.length : Int) < 2 := by omega
  simp [h2']
  refine loop_up (fun i t h' => (t 0 = .sl j (l.length * 6) 0 l.length none ∧ t 3 = .int .i64 ((i + 1 : Nat) : Int)) ∧ h' = h ∧ i + 1 ≤ l.length ∧ compactL (l.take (i + 1)) = l.take (i + 1)) (l.length - 1) ⟨by simp, rfl, by omega, by
    match l, hpos with
    | a :: r, _ => rfl⟩ ?_
  rintro i t h' hi ⟨⟨t0, t3⟩, rfl, hil, hci⟩ K hK
  obtain ⟨m, hm⟩ : ∃ m, m = i + 1 := ⟨_, rfl⟩
  rw [← hm] at t3 hci hil
  by_cases hlt2 : m < l.length
  · have hltI : (m : Int) < (l.length : Int) := by omega
    obtain ⟨p, qq, o, cs, e1, e2, e3, e4, e5⟩ := s0.at (k := m) (by simpa using hlt2)
    obtain ⟨p', qq', o', cs', b1, b2, b3, b4, b5⟩ := s0.at (k := m - 1) (by simp; omega)
    have e4' : (cs.drop o).take 6 = nlC l[m] := by rw [e4]; simp
    have b4' : (cs'.drop o').take 6 = nlC l[m - 1] := by rw [b4]; simp
    have wm : IntKind.i64.wrap ((m : Int) - 1) = ((m - 1 : Nat) : Int) := by rw [wrap_i64_id (by omega) (by omega)]; omega
    have eq := eq_nl l[m] l[m - 1]
    simp [t0, t3, hlt2]
    refine dreg_of ?_
    simp [t0, t3, e1, e2, e3, e4', wm, b1, b2, b3, b4', eq]
    by_cases hx : l[m] = l[m - 1]
    · have esl : sliceSlV 6 (some (.int .i64 (m : Int))) none none (.sl j (l.length * 6) 0 l.length none) = some (.sl j (l.length * 6) (m * 6) (l.length - m) none) := by
        simp only [sliceSlV, boundV_none, boundV_nat hil]
        rw [if_pos hlt2, Nat.zero_add]
      simp [hx, t0, t3, esl]
      refine loop_cut (id := 2) (fun t h2 => ∃ cur, cur = compactL l ++ l.drop (compactL l).length ∧ (t 0 = .sl j (l.length * 6) 0 l.length none ∧ t 3 = .int .i64 ((compactL l).length : Nat)) ∧ (compactL l).length < l.length ∧ h2 = h'.set j (.grow 6 (cur.map nlC).flatten)) (fun R hR => ?_) ?_
      · refine loop_up (fun k2 t h2 => ∃ cur tt, tt = (compactL (l.take (m + 1 + k2))).length ∧ cur = compactL (l.take (m + 1 + k2)) ++ l.drop tt ∧ tt < m + 1 + k2 ∧ m + 1 + k2 ≤ l.length ∧ (t 0 = .sl j (l.length * 6) 0 l.length none ∧ t 3 = .int .i64 (tt : Nat) ∧ t 4 = .sl j (l.length * 6) (m * 6) (l.length - m) none ∧ t 5 = .int .i64 ((k2 + 1 : Nat) : Int)) ∧ h2 = h'.set j (.grow 6 (cur.map nlC).flatten)) (l.length - m - 1) ?_ ?_
        · have ec : compactL (l.take (m + 1)) = l.take m := by rw [compact_at l (by omega) hlt2, if_pos hx.symm, hci]
          refine ⟨l, m, by rw [Nat.add_zero, ec, List.length_take]; omega, by rw [Nat.add_zero, ec, List.take_append_drop], by omega, by omega, by simp [t0, t3], ?_⟩
          exact (H.ext' rfl fun i => by rw [H.get_set]; split <;> simp_all)
        · rintro k2 t h2 hk2 ⟨cur, tt, htt, hcur, htm, hml, ⟨u0, u3, u4, u5⟩, rfl⟩ K hK
          obtain ⟨m2, hm2⟩ : ∃ m2, m2 = m + 1 + k2 := ⟨_, rfl⟩
          rw [← hm2] at htt hcur htm hml
          have hcl : cur.length = l.length := by rw [hcur, List.length_append, List.length_drop, ← htt]; omega
          obtain ⟨h2, hh2⟩ : ∃ h2, h2 = h'.set j (.grow 6 (cur.map nlC).flatten) := ⟨_, rfl⟩
          have hgj : h2.get j = some (.grow 6 (cur.map nlC).flatten) := by rw [hh2]; simp
          rw [← hh2]
          by_cases hlt3 : m2 < l.length
          · have cA : ∀ x (hx1 : x < cur.length), tt ≤ x → cur[x]'hx1 = l[x]'(by omega) := fun x hx1 hx2 => by
              subst hcur
              rw [List.getElem_append_right (by omega), List.getElem_drop]
              congr 1; omega
            have sp := sls_part hgj (by omega) m (by omega)
            rw [hcl] at sp
            obtain ⟨p, qq, o, cs, e1, e2, e3, e4, e5⟩ := sp.at (k := k2 + 1) (by simp; omega)
            obtain ⟨p', qq', o', cs', b1, b2, b3, b4, b5⟩ := sp.at (k := k2) (by simp; omega)
            have e4' : (cs.drop o).take 6 = nlC l[m2] := by
              rw [e4]; simp only [List.getElem_map, List.getElem_drop]
              rw [cA _ (by omega) (by omega)]; congr 2; omega
            have b4' : (cs'.drop o').take 6 = nlC l[m2 - 1] := by
              rw [b4]; simp only [List.getElem_map, List.getElem_drop]
              rw [cA _ (by omega) (by omega)]; congr 2; omega
            have e1' := e1 .i64
            have b1' := b1 .i64
            have hc1 : ((k2 + 1 : Nat) : Int) < ((l.length - m : Nat) : Int) := by omega
            have w1 : IntKind.i64.wrap (((k2 + 1 : Nat) : Int) - 1) = (k2 : Int) := by rw [wrap_i64_id (by omega) (by omega)]; omega
            have w2 : IntKind.i64.wrap (((k2 + 1 : Nat) : Int) + 1) = ((k2 + 1 + 1 : Nat) : Int) := by rw [wrap_i64_id (by omega) (by omega)]; omega
            obtain ⟨k3, hk3⟩ : ∃ k3, k3 = k2 + 1 := ⟨_, rfl⟩
            rw [← hk3] at u5 hc1 w1 w2 e1'
            obtain ⟨ln, hln⟩ : ∃ ln, ln = l.length - m := ⟨_, rfl⟩
            rw [← hln] at u4 hc1 e1' b1'
            have hc2 : k3 < ln := by omega
            have eq := eq_nl l[m2] l[m2 - 1]
            simp [u4, u5, hc2]
            refine dreg_of ?_
            simp [u4, u5, e1', e2, e3, e4', w1, b1', b2, b3, b4', eq]
            by_cases hy : l[m2] = l[m2 - 1]
            · simp [hy, u5, w2]
              refine hK _ _ (by omega) ⟨cur, tt, ?_, ?_, by omega, by omega, ?_, by rw [hh2]⟩
              · rw [show m + 1 + (k2 + 1) = m2 + 1 by omega, compact_at l (by omega) hlt3, if_pos hy.symm, htt]
              · rw [show m + 1 + (k2 + 1) = m2 + 1 by omega, compact_at l (by omega) hlt3, if_pos hy.symm, hcur]
              · simp [u0, u3, u4, hk3, hln]
            · have htl : tt < l.length := by omega
              have hcs : (V.agg (nlC l[m2])).cells = nlC l[m2] := rfl
              have hso : (V.agg (nlC l[m2])).solid = true := rfl
              have hnl : (nlC l[m2]).length = 6 := rfl
              have hfl : (cur.map nlC).flatten.length = l.length * 6 := by rw [flat_len (map_len6 cur)]; simp [hcl]
              have hput : O.put (.grow 6 (cur.map nlC).flatten) (tt * 6) (nlC l[m2]) = some (.grow 6 ((cur.set tt l[m2]).map nlC).flatten) := by
                simp only [O.put, hfl, hnl]
                rw [if_pos (by omega), flat_set cur tt _ (by omega)]
              have w3 : IntKind.i64.wrap ((tt : Int) + 1) = ((tt + 1 : Nat) : Int) := by rw [wrap_i64_id (by omega) (by omega)]; omega
              have hst : storeV h2.get 6 (.ptr j (l.length * 6) (tt * 6)) (.agg (nlC l[m2])) = some (.set j (.grow 6 ((cur.set tt l[m2]).map nlC).flatten)) := by
                rw [storeV_ptr, hcs, hso, hnl, hgj]
                simp only [Bool.true_and, beq_self_eq_true, if_true, Option.bind_some]
                rw [if_pos (by simp only [O.len, O.cells]; exact hfl), hput]; rfl
              simp [-storeV_ptr, hy, u0, u3, u4, u5, hc2, e1', e2, e3, e4', htl, hst, w3, w2]
              have hset : compactL (l.take (m + 1 + (k2 + 1))) = compactL (l.take m2) ++ [l[m2]] := by
                rw [show m + 1 + (k2 + 1) = m2 + 1 by omega, compact_at l (by omega) hlt3, if_neg (fun e => hy e.symm)]
              refine hK _ _ (by omega) ⟨cur.set tt l[m2], tt + 1, ?_, ?_, by omega, by omega, ?_, by rw [hh2, H.set_set, List.map_set]⟩
              · rw [hset, List.length_append, ← htt]; rfl
              · rw [hset, hcur, List.set_append_right _ _ (by omega), ← htt, Nat.sub_self, List.drop_eq_getElem_cons htl, List.set_cons_zero, List.append_assoc]; rfl
              · simp [u0, u4, hk3, hln]
          · have hml2 : m2 = l.length := by omega
            have hle : l.take m2 = l := List.take_of_length_le (by omega)
            rw [hle] at htt hcur
            have hc1 : ¬ ((k2 + 1 : Nat) : Int) < ((l.length - m : Nat) : Int) := by omega
            obtain ⟨k3, hk3⟩ : ∃ k3, k3 = k2 + 1 := ⟨_, rfl⟩
            obtain ⟨ln, hln⟩ : ∃ ln, ln = l.length - m := ⟨_, rfl⟩
            rw [← hk3] at u5 hc1
            rw [← hln] at u4 hc1
            have hc2 : ¬ k3 < ln := by omega
            simp [u4, u5, hc2]
            refine hR _ _ ⟨cur, by rw [hcur, htt], by simp [u0, u3, htt], by rw [htt] at htm; omega, hh2⟩
      · rintro t h2 ⟨cur, hcur, ⟨u0, u3⟩, htl, rfl⟩
        obtain ⟨tt, htt⟩ : ∃ tt, tt = (compactL l).length := ⟨_, rfl⟩
        rw [← htt] at hcur u3 htl
        have hcl : cur.length = l.length := by rw [hcur, List.length_append, List.length_drop, ← htt]; omega
        have hfl : (cur.map nlC).flatten.length = l.length * 6 := by rw [flat_len (map_len6 cur)]; simp [hcl]
        have s1 : sliceSlV 6 (some (.int .i64 (tt : Int))) none none (.sl j (l.length * 6) 0 l.length none) = some (.sl j (l.length * 6) (tt * 6) (l.length - tt) none) := by
          simp only [sliceSlV, boundV_none, boundV_nat (show tt ≤ l.length by omega)]
          rw [if_pos htl, Nat.zero_add]
        have s2 : sliceSlV 6 none (some (.int .i64 (tt : Int))) none (.sl j (l.length * 6) 0 l.length none) = some (.sl j (l.length * 6) 0 tt none) := by
          simp only [sliceSlV, boundV_none, boundV_nat (show tt ≤ l.length by omega)]
          rw [if_pos hpos]; simp
        obtain ⟨h2, hh2⟩ : ∃ h2, h2 = h'.set j (.grow 6 (cur.map nlC).flatten) := ⟨_, rfl⟩
        have hgj : h2.get j = some (.grow 6 (cur.map nlC).flatten) := by rw [hh2]; simp
        rw [← hh2]
        obtain ⟨zs, hzs⟩ : ∃ zs, zs = repCells (l.length - tt) [V.int .i64 0, .int .u64 0, .str [], .int .i64 0, .int .u32 0, .int .u32 0] := ⟨_, rfl⟩
        have hzl : zs.length = (l.length - tt) * 6 := by rw [hzs]; unfold repCells; simp
        obtain ⟨pc, hpc⟩ : ∃ pc, pc = putCells (cur.map nlC).flatten (tt * 6) zs := ⟨_, rfl⟩
        have hclr : clearSlV h2.get [V.int .i64 0, .int .u64 0, .str [], .int .i64 0, .int .u32 0, .int .u32 0] (.sl j (l.length * 6) (tt * 6) (l.length - tt) none) = some (.set j (.grow 6 pc)) := by
          rw [hpc]
          unfold clearSlV
          simp only
          rw [if_neg (by omega), hgj]
          simp only [len_grow]
          rw [if_pos hfl, put_grow, ← hzs, if_pos (by rw [hzl, hfl]; omega)]; rfl
        simp [u0, u3, s1, s2, hclr]
        have w2 : h2.WF := by rw [hh2]; exact wf.set hlt _
        have hpl : pc.length = l.length * 6 := by rw [hpc, put_len _ _ _ (by rw [hzl, hfl]; omega), hfl]
        have hct : cur.take tt = compactL l := by rw [hcur, List.take_append_of_le_length (by omega), List.take_of_length_le (by omega)]
        have hpt : pc.take (tt * 6) = ((compactL l).map nlC).flatten := by
          rw [hpc]
          unfold putCells
          rw [List.append_assoc, List.take_append_of_le_length (by rw [List.length_take, hfl]; omega), List.take_take, Nat.min_self, ← flat_take (map_len6 cur), ← List.map_take, hct]
        refine q _ _ (fun i hi => by rw [H.get_set, if_neg hi, hh2, H.get_set, if_neg hi]) (by rw [hh2]; simp) (w2.set (by rw [hh2]; simpa using hlt) _) ⟨.inr ⟨j, l.length * 6, 0, none, by simp [htt]⟩, map_len6 _, ?_, by simp; omega⟩ trivial
        rw [elemsV_sl]
        split
        · rename_i h0
          have : compactL l = [] := List.eq_nil_of_length_eq_zero (by omega)
          rw [this]; rfl
        · rw [cellsAt_of (by rw [H.get_set, if_pos rfl]) (by rw [len_grow]; exact hpl)]
          simp only [cells_grow, Nat.zero_add, List.drop_zero]
          rw [if_pos (by rw [hpl]; omega), hpt]
          simp [htt]
    · have w1 : IntKind.i64.wrap ((m : Int) + 1) = ((m + 1 : Nat) : Int) := by rw [wrap_i64_id (by omega) (by omega)]; omega
      simp [hx, t0, t3, w1]
      refine hK _ _ (by omega) ⟨?_, rfl, by omega, ?_⟩
      · first | (simp [t0, hm]; done) | (simp [t0]; omega)
      rw [← hm, compact_at l (by omega) hlt2, if_neg (fun e => hx e.symm), hci, List.take_add_one, List.getElem?_eq_getElem hlt2]; rfl
  · have hmm : m = l.length := by omega
    have hle : l.take m = l := List.take_of_length_le (by omega)
    rw [hle] at hci
    simp [t0, t3, hlt2]
    exact q _ _ (fun _ _ => rfl) rfl wf (by rw [hci]; exact s0) trivial
end Go.Am
