/-
  Contracts: Decode.
-/
import Derived.Test.YtapokdcbhpdceaaW5
namespace Go.Am
open Go.Proofs

set_option maxRecDepth 100000
def numV (n : Nat) (l : List UInt8) : Nat := if n ≤ l.length then val (l.take n) else 0
def numR (n : Nat) (l : List UInt8) : List UInt8 := if n ≤ l.length then l.drop n else l
theorem number_any {h : H} {i : Nat} {l : List UInt8} (r : h.get i = some (rdr l)) {z : Int} (n : Nat) (ez : z = n) (h1 : 1 ≤ n ∧ n ≤ 8) {Q : V → H → Prop} (q : Q (.tup [.int .u64 (numV n l), .bool (decide (n ≤ l.length))]) (h.set i (rdr (numR n l)))) : Acalls Try.prog 56 [.ptr i 2 0, .int .i64 z] h Q := by
  unfold numV numR at q
  by_cases hn : n ≤ l.length
  · rw [if_pos hn, if_pos hn, decide_eq_true hn] at q
    exact number_yes r n ez h1 hn q
  · rw [if_neg hn, if_neg hn, decide_eq_false hn] at q
    have hs : h.set i (rdr l) = h := H.ext' rfl fun j => by
      rw [H.get_set]; split
      · rename_i e; rw [e, r]
      · rfl
    rw [hs] at q
    exact number_no r n ez h1 (by omega) Q q
def step1 (o : Opn) (kind : Nat) (s : List UInt8) : Except Nat Opn := if kind = 2 then eachB capS o s else .error 4
theorem tell60 {base : H} {q : Nat} : TellE (.func (.func 60) [] [.ptr q 11 0]) (IO base q) step1 := by
  rintro o h own code bytes wf0 hI hc hb Q qe qo
  simp
  refine (?_ : Acalls Try.prog 60 [.int .u64 (code : Nat), .str bytes, .ptr q 11 0] h Q)
  refine acalls_to Try.func60 S.open_Decode_1_code S.open_Decode_1_enter (Nat.le_of_ble_eq_true rfl) fun wf => ?_; simp only [S.open_Decode_1]
  have hlt := fun j => tale.lt _ _ _ j hI
  have hlow := tale.low _ _ _ hI
  have no : ¬ own h.next := fun hh => by have := hlt _ hh; omega
  simp
  cases hL : ((code : Int) != 2) with
  | true =>
    have hk : ¬ code = 2 := by intro e; simp [e] at hL
    simp
    refine reset_ct _ ?_
    simp
    refine qe 4 (by simp [step1, hk]) _ ⟨(wf.push _).set (by simp) _, by simp, fun j hj hno => ?_, fun _ h => h.elim⟩
    rw [H.get_set, if_neg (by omega), H.get_push, if_neg (by omega)]
  | false =>
    have hk : code = 2 := by simp at hL; omega
    have hst : step1 o code bytes = eachB capS o bytes := by simp [step1, hk]
    simp
    have g1 : Ge h (h.push (.row [.int .i64 0, .int .u8 0, .int .u8 0])) := (Ge.refl _).push _
    refine each_ct tale tell61 (tale.mono _ _ _ _ hI g1.1 (wf.push _) (fun j hj _ => g1.2 j hj)) (by omega) (fun e he h2 kp => ?_) (fun o' he h2 own2 hI2 kp => ?_)
    · have n2 := kp.next
      simp at n2
      have r2 : h2.get h.next = some (.row [.int .i64 0, .int .u8 0, .int .u8 0]) := by rw [kp.old _ (by simp) no]; simp
      simp [badV, r2]
      refine qe e (by rw [hst, he]) _ ⟨kp.wf.set (by omega) _, by simp; omega, fun j hj hno => ?_, fun _ h => h.elim⟩
      rw [H.get_set, if_neg (by omega), kp.old _ (by simp; omega) hno, H.get_push, if_neg (by omega)]
    · have n2 := kp.next
      simp at n2
      have r2 : h2.get h.next = some (.row [.int .i64 0, .int .u8 0, .int .u8 0]) := by rw [kp.old _ (by simp) no]; simp
      have no2 : ¬ own2 h.next := fun hh => (kp.own _ hh).elim no (fun h => by simp at h; omega)
      simp [fineV, r2]
      refine qo o' (by rw [hst, he]) _ own2 (tale.mono _ _ _ _ hI2 (by simp) (kp.wf.set (by omega) _) (fun j hj hno => ?_)) ⟨kp.wf.set (by omega) _, by simp; omega, fun j hj hno => ?_, fun j hj => (kp.own j hj).imp id (fun h => by simp at h; omega)⟩
      · rw [H.get_set, if_neg]
        rintro rfl
        rcases hno with h | h
        · omega
        · exact no2 h
      · rw [H.get_set, if_neg (by omega), kp.old _ (by simp; omega) hno, H.get_push, if_neg (by omega)]

def decB (s : List UInt8) : Except Nat Opn :=
  if s.length < 10 then .error 0
  else if val (s.take 1) ≠ 4 then .error 1
  else if val ((s.drop 1).take 2) = 0 then .error 2
  else if val ((s.drop 3).take 2) = 1 ∨ val ((s.drop 3).take 2) = 2 then .error 6
  else if val ((s.drop 5).take 4) = 0 then .error 3
  else if (s.drop 10).length ≠ val ((s.drop 9).take 1) then .error 0
  else match eachB step1 ⟨val ((s.drop 1).take 2), val ((s.drop 3).take 2), val ((s.drop 5).take 4), [], false, false, [], false, false, 0, []⟩ (s.drop 10) with
    | .error e => .error e
    | .ok o => .ok (if o.fams.isEmpty then { o with fams := [1] } else o)
def zeroV : V := .agg [.int .u32 0, .int .i64 0, .int .u32 0, .nilsl, .bool false, .bool false, .nilsl, .bool false, .bool false, .int .i64 0, .nilsl]
structure DecAt (h h2 : H) (o : Opn) (f a k : V) : Prop where
  fams : Gl h2 h.next 1 f (o.fams.map fun x => [.int .i64 x]) ∨ (o.fams = [1] ∧ ∃ j, h.next ≤ j ∧ j < h2.next ∧ f = .sl j 1 0 1 (some 1) ∧ h2.get j = some (.row [.int .i64 1]))
  adds : Gl h2 h.next 3 a (o.adds.map addC)
  kept : Gl h2 h.next 2 k (o.kept.map restC)
theorem decode_ct {h : H} {s : List UInt8} {Q : V → H → Prop}
    (qe : ∀ e, decB s = .error e → ∀ h2, Ge h h2 → h2.WF → Q (.tup [zeroV, badV e]) h2)
    (qo : ∀ o, decB s = .ok o → ∀ f a k h2, Ge h h2 → h2.WF → DecAt h h2 o f a k → Q (.tup [opnV o f a k, fineV]) h2) : Acalls Try.prog 18 [.str s] h Q := by
  refine acalls_to Try.func18 S.open_Decode_code S.open_Decode_enter (Nat.le_of_ble_eq_true rfl) fun wf => ?_; simp only [S.open_Decode]
  simp
  refine new_ct ?_
  obtain ⟨h1, hh1⟩ : ∃ h1, h1 = (h.push (.row [.int .u32 0, .int .i64 0, .int .u32 0, .nilsl, .bool false, .bool false, .nilsl, .bool false, .bool false, .int .i64 0, .nilsl])).push (.row [.int .i64 0, .int .u8 0, .int .u8 0]) := ⟨_, rfl⟩
  have n1 : h1.next = h.next + 2 := by rw [hh1]; rfl
  have g1 : Ge h h1 := by rw [hh1]; exact ((Ge.refl _).push _).push _
  have w1 : h1.WF := by rw [hh1]; exact (wf.push _).push _
  rw [← hh1]
  simp
  have rd : ∀ l, (h1.push (rdr l)).get h1.next = some (rdr l) := fun l => by simp
  obtain ⟨v0, hv0⟩ : ∃ v, v = numV 1 s := ⟨_, rfl⟩
  obtain ⟨l1, hl1⟩ : ∃ l, l = numR 1 s := ⟨_, rfl⟩
  obtain ⟨v1, hv1⟩ : ∃ v, v = numV 2 l1 := ⟨_, rfl⟩
  obtain ⟨l2, hl2⟩ : ∃ l, l = numR 2 l1 := ⟨_, rfl⟩
  obtain ⟨v2, hv2⟩ : ∃ v, v = numV 2 l2 := ⟨_, rfl⟩
  obtain ⟨l3, hl3⟩ : ∃ l, l = numR 2 l2 := ⟨_, rfl⟩
  obtain ⟨v3, hv3⟩ : ∃ v, v = numV 4 l3 := ⟨_, rfl⟩
  obtain ⟨l4, hl4⟩ : ∃ l, l = numR 4 l3 := ⟨_, rfl⟩
  obtain ⟨v4, hv4⟩ : ∃ v, v = numV 1 l4 := ⟨_, rfl⟩
  obtain ⟨l5, hl5⟩ : ∃ l, l = numR 1 l4 := ⟨_, rfl⟩
  refine number_any (rd s) 1 rfl (by omega) ?_
  rw [H.push_set, ← hv0, ← hl1]
  simp
  refine number_any (rd l1) 2 rfl (by omega) ?_
  rw [H.push_set, ← hv1, ← hl2]
  simp
  refine number_any (rd l2) 2 rfl (by omega) ?_
  rw [H.push_set, ← hv2, ← hl3]
  simp
  refine number_any (rd l3) 4 rfl (by omega) ?_
  rw [H.push_set, ← hv3, ← hl4]
  simp
  refine number_any (rd l4) 1 rfl (by omega) ?_
  rw [H.push_set, ← hv4, ← hl5]
  obtain ⟨ib, hib⟩ : ∃ b, b = decide (1 ≤ l4.length) := ⟨_, rfl⟩
  rw [← hib]
  simp
  refine rest_ct (rd l5) ?_
  rw [H.push_set]
  have lt1 : v1 < 65536 := by rw [hv1]; unfold numV; split; exact val_lt2 (by simp; omega); omega
  have lt2 : v2 < 65536 := by rw [hv2]; unfold numV; split; exact val_lt2 (by simp; omega); omega
  have lt3 : v3 < 4294967296 := by rw [hv3]; unfold numV; split; exact val_lt4 (by simp; omega); omega
  have lt4 : v4 < 256 := by rw [hv4]; unfold numV; split; exact val_lt1 (by simp; omega); omega
  have c1 := u32_id (n := v1) (by omega)
  have c2 : IntKind.i64.wrap (v2 : Int) = v2 := wrap_nat (by omega)
  have c3 := u32_id (n := v3) lt3
  have c4 : IntKind.i64.wrap (v4 : Int) = v4 := wrap_nat (by omega)
  simp [c1, c2, c3]
  obtain ⟨o0, ho0⟩ : ∃ o : Opn, o = ⟨v1, v2, v3, [], false, false, [], false, false, 0, []⟩ := ⟨_, rfl⟩
  obtain ⟨b, hb⟩ : ∃ b, b = ((h1.push (rdr [])).push (.row [.int .u32 0, .int .i64 0, .int .u32 0, .nilsl, .bool false, .bool false, .nilsl, .bool false, .bool false, .int .i64 0, .nilsl])).set (h1.next + 1) (.row [.int .u32 v1, .int .i64 v2, .int .u32 v3, .nilsl, .bool false, .bool false, .nilsl, .bool false, .bool false, .int .i64 0, .nilsl]) := ⟨_, rfl⟩
  have gb : Ge h b := by rw [hb]; exact ((g1.push _).push _).set (by omega) _
  have wb : b.WF := by rw [hb]; exact ((w1.push _).push _).set (by simp) _
  have nb : b.next = h.next + 4 := by rw [hb]; simp [n1]
  have xo : b.get (h1.next + 1) = some (.row (opnC o0 .nilsl .nilsl .nilsl)) := by rw [hb, ho0]; simp [opnC]
  have x0 : b.get h.next = some (.row [.int .u32 0, .int .i64 0, .int .u32 0, .nilsl, .bool false, .bool false, .nilsl, .bool false, .bool false, .int .i64 0, .nilsl]) := by
    rw [hb, H.get_set, if_neg (by omega), H.get_push, if_neg (by simp; omega), H.get_push, if_neg (by omega), hh1]; simp
  have x1 : b.get (h.next + 1) = some (.row [.int .i64 0, .int .u8 0, .int .u8 0]) := by
    rw [hb, H.get_set, if_neg (by omega), H.get_push, if_neg (by simp; omega), H.get_push, if_neg (by omega), hh1]; simp
  rw [← hb]
  have bad : ∀ e, decB s = .error e → Q (.tup [zeroV, badV e]) ((b.set h.next (.row [.int .u32 0, .int .i64 0, .int .u32 0, .nilsl, .bool false, .bool false, .nilsl, .bool false, .bool false, .int .i64 0, .nilsl])).set (h.next + 1) (.row [.int .i64 3, .int .u8 2, .int .u8 (e : Nat)])) := fun e he =>
    qe e he _ ((gb.set (Nat.le_refl _) _).set (by omega) _) ((wb.set (by omega) _).set (by simp; omega) _)
  by_cases hlen : s.length < 10
  · have hd : decB s = .error 0 := by simp [decB, hlen]
    have := bad 0 hd
    have hlen' : (s.length : Int) < 10 := by omega
    cases ib <;> simp [hlen'] <;> refine reset_ct _ ?_ <;> simp [x0, x1] <;> exact this
  have e1 : l1 = s.drop 1 := by rw [hl1]; unfold numR; rw [if_pos (by omega)]
  have e2 : l2 = s.drop 3 := by rw [hl2, e1]; unfold numR; rw [if_pos (by simp; omega)]; simp
  have e3 : l3 = s.drop 5 := by rw [hl3, e2]; unfold numR; rw [if_pos (by simp; omega)]; simp
  have e4 : l4 = s.drop 9 := by rw [hl4, e3]; unfold numR; rw [if_pos (by simp; omega)]; simp
  have e5 : l5 = s.drop 10 := by rw [hl5, e4]; unfold numR; rw [if_pos (by simp; omega)]; simp
  have w0 : v0 = val (s.take 1) := by rw [hv0]; unfold numV; rw [if_pos (by omega)]
  have w1' : v1 = val ((s.drop 1).take 2) := by rw [hv1, e1]; unfold numV; rw [if_pos (by simp; omega)]
  have w2 : v2 = val ((s.drop 3).take 2) := by rw [hv2, e2]; unfold numV; rw [if_pos (by simp; omega)]
  have w3 : v3 = val ((s.drop 5).take 4) := by rw [hv3, e3]; unfold numV; rw [if_pos (by simp; omega)]
  have w4 : v4 = val ((s.drop 9).take 1) := by rw [hv4, e4]; unfold numV; rw [if_pos (by simp; omega)]
  have hibt : ib = true := by rw [hib, e4]; simp; omega
  have hd : decB s = (if v0 ≠ 4 then .error 1 else if v1 = 0 then .error 2 else if v2 = 1 ∨ v2 = 2 then .error 6 else if v3 = 0 then .error 3 else if l5.length ≠ v4 then .error 0
      else match eachB step1 o0 l5 with | .error e => .error e | .ok o => .ok (if o.fams.isEmpty then { o with fams := [1] } else o)) := by
    unfold decB
    rw [if_neg hlen, ← w0, ← w1', ← w2, ← w3, ← w4, ← e5, ← ho0]
  have hlen' : ¬ (s.length : Int) < 10 := by omega
  simp [hibt, hlen']
  cases q0 : ((v0 : Int) != 4) with
  | true =>
    have z : v0 ≠ 4 := by intro e; simp [e] at q0
    have := bad 1 (by rw [hd, if_pos z])
    simp
    refine reset_ct _ ?_
    simp [x0, x1]
    exact this
  | false =>
    have z : ¬ v0 ≠ 4 := by simp at q0; omega
    rw [if_neg z] at hd
    simp
    cases q1 : ((v1 : Int) == 0) with
    | true =>
      have z : v1 = 0 := by simp at q1; omega
      have := bad 2 (by rw [hd, if_pos z])
      simp
      refine reset_ct _ ?_
      simp [x0, x1]
      exact this
    | false =>
      have z : ¬ v1 = 0 := by intro e; simp [e] at q1
      rw [if_neg z] at hd
      simp
      cases q2 : ((v2 : Int) == 1) with
      | true =>
        have z : v2 = 1 := by simp at q2; omega
        have := bad 6 (by rw [hd, if_pos (.inl z)])
        simp
        refine reset_ct _ ?_
        simp [x0, x1]
        exact this
      | false =>
        have za : ¬ v2 = 1 := by intro e; simp [e] at q2
        simp
        cases q3 : ((v2 : Int) == 2) with
        | true =>
          have z : v2 = 2 := by simp at q3; omega
          have := bad 6 (by rw [hd, if_pos (.inr z)])
          simp
          refine reset_ct _ ?_
          simp [x0, x1]
          exact this
        | false =>
          have zb : ¬ v2 = 2 := by intro e; simp [e] at q3
          rw [if_neg (by omega)] at hd
          simp
          cases q4 : ((v3 : Int) == 0) with
          | true =>
            have z : v3 = 0 := by simp at q4; omega
            have := bad 3 (by rw [hd, if_pos z])
            simp
            refine reset_ct _ ?_
            simp [x0, x1]
            exact this
          | false =>
            have z : ¬ v3 = 0 := by intro e; simp [e] at q4
            rw [if_neg z] at hd
            simp [c4]
            cases q5 : ((l5.length : Int) != (v4 : Int)) with
            | true =>
              have z : l5.length ≠ v4 := by intro e; simp [e] at q5
              have := bad 0 (by rw [hd, if_pos z])
              simp
              refine reset_ct _ ?_
              simp [x0, x1]
              exact this
            | false =>
              have z : ¬ l5.length ≠ v4 := by simp at q5; omega
              rw [if_neg z] at hd
              simp
              have hself : b.set (h1.next + 1) (.row (opnC o0 .nilsl .nilsl .nilsl)) = b := H.ext' rfl fun j => by
                rw [H.get_set]; split
                · rename_i e; rw [e, xo]
                · rfl
              have hfo : o0.fams = [] := by rw [ho0]
              have hao : o0.adds = [] := by rw [ho0]
              have hko : o0.kept = [] := by rw [ho0]
              have X0 : Rws b b (h1.next + 1) b.next (oR o0) (oL o0 .nilsl .nilsl .nilsl) := Rws.mk3 (by rw [hself]; exact Ge.refl _) wb (by rw [hfo]; exact Gl.nil _ _ _) (by rw [hao]; exact Gl.nil _ _ _) (by rw [hko]; exact Gl.nil _ _ _) (by simp [V.ids]) (by simp [V.ids]) (by simp [V.ids])
              have I0 : IO b (h1.next + 1) o0 b (owns (h1.next + 1) .nilsl .nilsl .nilsl) := ⟨by rw [hfo]; exact ⟨.nil, by simp⟩, by omega, .nilsl, .nilsl, .nilsl, X0, rfl⟩
              have ow0 : ∀ j, owns (h1.next + 1) .nilsl .nilsl .nilsl j → j = h1.next + 1 := fun j hj => by
                rcases hj with h | h | h | h
                · exact h
                all_goals simp [V.ids] at h
              refine each_ct tale tell60 I0 (by omega) (fun e he h2 kp => ?_) (fun o' he h2 own2 hI2 kp => ?_)
              · rw [he] at hd
                have n2 := kp.next
                have y0 : h2.get h.next = _ := (kp.old h.next (by omega) (fun hh => by have := ow0 _ hh; omega)).trans x0
                have y1 : h2.get (h.next + 1) = _ := (kp.old (h.next + 1) (by omega) (fun hh => by have := ow0 _ hh; omega)).trans x1
                have r1 : ¬ h.next = h2.next := by omega
                have r2 : ¬ h.next + 1 = h2.next := by omega
                simp [badV]
                obtain ⟨h3, hh3⟩ : ∃ h3, h3 = (h2.push (.row [.int .i64 0, .int .u8 0, .int .u8 0])).set h2.next (.row [.int .i64 3, .int .u8 2, .int .u8 (e : Nat)]) := ⟨_, rfl⟩
                have g3 : Ge h2 h3 := by rw [hh3]; exact ((Ge.refl _).push _).set (Nat.le_refl _) _
                have w3 : h3.WF := by rw [hh3]; exact (kp.wf.push _).set (by simp) _
                have n3 : h3.next = h2.next + 1 := by rw [hh3]; rfl
                have x17 : cellsAt h3.get h2.next 3 = some [.int .i64 3, .int .u8 2, .int .u8 (e : Nat)] := by rw [hh3]; simp
                have z0 := (g3.2 h.next (by omega)).trans y0
                have z1 := (g3.2 (h.next + 1) (by omega)).trans y1
                rw [← hh3]
                refine dreg_dwp ?_
                simp [x17, z0, z1, upds_one]
                refine dwp_end ?_ ?_
                · intro q hq
                  simp only [List.mem_cons, List.not_mem_nil, or_false] at hq
                  subst hq
                  simp [evAt, apart, I.foot, refOf]
                  omega
                · have hr : room = 16 := rfl
                  simp
                  refine qe e hd _ ⟨by simp; omega, fun j hj => ?_⟩ (fun j hj => ?_)
                  · simp only
                    rw [upds_one, if_neg (by omega), upds_one, if_neg (by omega), g3.2 j (by omega), kp.old j (by omega) (fun hh => by have := ow0 _ hh; omega), gb.2 j hj]
                  · simp only at hj ⊢
                    rw [upds_one, if_neg (by omega), upds_one, if_neg (by omega), w3 j (by omega)]
              · rw [he] at hd
                simp only at hd
                obtain ⟨hF2, _, f, a, k, X2, rfl⟩ := hI2
                have n2 := kp.next
                have y0 : h2.get h.next = _ := (kp.old h.next (by omega) (fun hh => by have := ow0 _ hh; omega)).trans x0
                have y1 : h2.get (h.next + 1) = _ := (kp.old (h.next + 1) (by omega) (fun hh => by have := ow0 _ hh; omega)).trans x1
                obtain ⟨h3, hh3⟩ : ∃ h3, h3 = (h2.push (.row [.int .i64 0, .int .u8 0, .int .u8 0])).set h2.next (.row [.int .i64 0, .int .u8 0, .int .u8 0]) := ⟨_, rfl⟩
                have g3 : Ge h2 h3 := by rw [hh3]; exact ((Ge.refl _).push _).set (Nat.le_refl _) _
                have w3 : h3.WF := by rw [hh3]; exact (kp.wf.push _).set (by simp) _
                have n3 : h3.next = h2.next + 1 := by rw [hh3]; rfl
                have x17 : cellsAt h3.get h2.next 3 = some [.int .i64 0, .int .u8 0, .int .u8 0] := by rw [hh3]; simp
                have z0 := (g3.2 h.next (by omega)).trans y0
                have z1 := (g3.2 (h.next + 1) (by omega)).trans y1
                have x216 := X2.at3 (by omega)
                have c216 : cellsAt h2.get (h1.next + 1) 11 = some (opnC o' f a k) := by rw [cellsAt_of x216 (by simp [opnC])]; rfl
                have qq : ¬ h1.next + 1 = h2.next := by omega
                have X3 := X2.step g3 w3
                have x16 := X3.at3 (by omega)
                obtain ⟨gf, ga, gk, d1, d2, d3⟩ := X3.gl3
                have fo := gf.one
                have ao := ga.one
                have ko := gk.one
                have c16 : cellsAt h3.get (h1.next + 1) 11 = some (opnC o' f a k) := by rw [cellsAt_of x16 (by simp [opnC])]; rfl
                have hr : room = 16 := rfl
                have q1 : ¬ h2.next = h1.next + 1 := by omega
                have gh3 : ∀ j, j < h.next → h3.get j = h.get j := fun j hj => by rw [g3.2 j (by omega), kp.old j (by omega) (fun hh => by have := ow0 _ hh; omega), gb.2 j hj]
                simp only [opnC] at c16 x16 c216
                cases hfe : o'.fams with
                | nil =>
                  have hfn : f = .nilsl := by
                    rcases gf with ⟨_, e⟩ | ⟨e, _⟩
                    · exact e
                    · rw [hfe] at e; exact absurd rfl e
                  have hd' : decB s = .ok { o' with fams := [1] } := by rw [hd, hfe]; rfl
                  subst hfn
                  have q2 : ¬ h1.next + 1 = h3.next := by omega
                  have q3 : ¬ h2.next = h3.next := by omega
                  have q4 : ¬ h.next = h3.next := by omega
                  have q5 : ¬ h.next + 1 = h3.next := by omega
                  simp only [opnC] at x216
                  simp [fineV, c216, x216, qq, show ¬ h1.next = h2.next by omega, show (V.sl (h2.next + 1) 1 0 1 (some 1)).solid = true from rfl]
                  rw [← hh3]
                  refine dreg_dwp ?_
                  have q6 : ¬ h.next = h1.next + 1 := by omega
                  have q7 : ¬ h.next = h1.next := by omega
                  simp [x17, z0, z1, q1, q3, q4, q5, q6, q7, upds_one, ao, ko]
                  refine dwp_end ?_ ?_
                  · intro q hq
                    simp only [List.mem_cons, List.not_mem_nil, or_false] at hq
                    subst hq
                    simp [evAt, apart, I.foot, refOf]
                    omega
                  · simp
                    obtain ⟨vf, hvf⟩ : ∃ v, v = V.sl (h2.next + 1) 1 0 1 (some 1) := ⟨_, rfl⟩
                    rw [← hvf]
                    obtain ⟨H4, hH4⟩ : ∃ H4 : H, H4 = ⟨h3.next + 1 + 4 * room, upds (upds ((h3.push (.row [.int .i64 1])).set (h1.next + 1) (.row [.int .u32 o'.asn, .int .i64 o'.hold, .int .u32 o'.id, vf, .bool o'.four, .bool o'.refresh, a, .bool o'.hasgr, .bool o'.again, .int .i64 o'.time, k])).get [(h.next, .row [.int .u32 o'.asn, .int .i64 o'.hold, .int .u32 o'.id, vf, .bool o'.four, .bool o'.refresh, a, .bool o'.hasgr, .bool o'.again, .int .i64 o'.time, k])]) [(h.next + 1, .row [.int .i64 0, .int .u8 0, .int .u8 0])]⟩ := ⟨_, rfl⟩
                    rw [← hH4]
                    have m4 : ∀ j, j ≠ h.next → j ≠ h.next + 1 → j ≠ h1.next + 1 → j ≠ h3.next → H4.get j = h3.get j := fun j a1 a2 a3 a4 => by
                      rw [hH4]; simp only; rw [upds_one, if_neg a2, upds_one, if_neg a1, H.get_set, if_neg a3, H.get_push, if_neg a4]
                    have m5 : H4.get (h2.next + 1) = some (.row [.int .i64 1]) := by
                      rw [hH4]; simp only; rw [upds_one, if_neg (by omega), upds_one, if_neg (by omega), H.get_set, if_neg (by omega), H.get_push, if_pos (by omega)]
                    have n4 : h3.next + 1 ≤ H4.next := by rw [hH4]; simp
                    refine qo { o' with fams := [1] } hd' vf a k H4 ⟨by omega, fun j hj => by rw [m4 j (by omega) (by omega) (by omega) (by omega), gh3 j hj]⟩ (fun j hj => ?_) ⟨.inr ⟨rfl, h2.next + 1, by omega, by omega, hvf, m5⟩, (ga.keep (by omega) (fun j hj => ?_)).lower (by omega), (gk.keep (by omega) (fun j hj => ?_)).lower (by omega)⟩
                    · rw [m4 j (by omega) (by omega) (by omega) (by omega), w3 j (by omega)]
                    · have := ga.lo j hj; rw [m4 j (by omega) (by omega) (by omega) (by omega)]
                    · have := gk.lo j hj; rw [m4 j (by omega) (by omega) (by omega) (by omega)]
                | cons f0 fl =>
                  have hlen := (gf.sls (by simp) (by simp; have := hF2.len; omega)).len
                  have hln : ∀ g : Nat → Option O, lenV 1 g f = some (.int .i64 ((o'.fams.length : Nat) : Int)) := fun g => by
                    rcases gf with ⟨e, _⟩ | ⟨_, j, _, _, e, _⟩
                    · rw [hfe] at e; cases e
                    · rw [e]; simp [lenV]
                  have hne0 : (((o'.fams.length : Nat) : Int) == 0) = false := by rw [hfe]; simp; omega
                  simp [fineV, c216, qq, hln, hne0]
                  rw [← hh3]
                  refine dreg_dwp ?_
                  simp [c16, x17, z0, z1, upds_one, fo, ao, ko]
                  refine dwp_end ?_ ?_
                  · intro q hq
                    simp only [List.mem_cons, List.not_mem_nil, or_false] at hq
                    subst hq
                    simp [evAt, apart, I.foot, refOf]
                    omega
                  · simp
                    have hd' : decB s = .ok o' := by rw [hd, hfe]; rfl
                    obtain ⟨H4, hH4⟩ : ∃ H4 : H, H4 = ⟨h3.next + 4 * room, upds (upds h3.get [(h.next, .row [.int .u32 o'.asn, .int .i64 o'.hold, .int .u32 o'.id, f, .bool o'.four, .bool o'.refresh, a, .bool o'.hasgr, .bool o'.again, .int .i64 o'.time, k])]) [(h.next + 1, .row [.int .i64 0, .int .u8 0, .int .u8 0])]⟩ := ⟨_, rfl⟩
                    rw [← hH4]
                    have m4 : ∀ j, j ≠ h.next → j ≠ h.next + 1 → H4.get j = h3.get j := fun j a1 a2 => by rw [hH4]; simp only; rw [upds_one, if_neg a2, upds_one, if_neg a1]
                    have n4 : h3.next ≤ H4.next := by rw [hH4]; simp
                    refine qo o' hd' f a k H4 ⟨by omega, fun j hj => by rw [m4 j (by omega) (by omega), gh3 j hj]⟩ (fun j hj => ?_) ⟨.inl ((gf.keep n4 (fun j hj => ?_)).lower (by omega)), (ga.keep n4 (fun j hj => ?_)).lower (by omega), (gk.keep n4 (fun j hj => ?_)).lower (by omega)⟩
                    · rw [m4 j (by omega) (by omega), w3 j (by omega)]
                    · have := (gf.lo j hj).1; rw [m4 j (by omega) (by omega)]
                    · have := (ga.lo j hj).1; rw [m4 j (by omega) (by omega)]
                    · have := (gk.lo j hj).1; rw [m4 j (by omega) (by omega)]
end Go.Am
