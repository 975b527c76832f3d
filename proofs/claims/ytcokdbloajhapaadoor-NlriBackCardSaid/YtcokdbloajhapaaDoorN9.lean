/-
  Decode's contract.
-/
import Derived.Test.YtcokdbloajhapaaDoorN8
namespace Go.Am
open Go.Proofs

set_option maxRecDepth 100000
theorem and_one : ∀ v : Nat, v < 18446744073709551616 → intV .and .u64 (v : Int) 1 = some (.int .u64 ((v % 2 : Nat) : Int)) := by
  intro v hv
  have h1 : (BitVec.ofInt 64 (v : Int)).toNat = v := by simp; omega
  have h2 : (BitVec.ofInt 64 1).toNat = 1 := by decide
  show some (V.int .u64 (IntKind.u64.wrap ((BitVec.ofInt 64 (v : Int) &&& BitVec.ofInt 64 1).toNat : Int))) = _
  rw [BitVec.toNat_and, h1, h2, Nat.and_one_is_mod, u64_id (by omega)]
theorem Gl.low {h : H} {lo lo' sz : Nat} {v : V} {es : List (List V)} (g : Gl h lo sz v es) (hl : lo' ≤ lo) : Gl h lo' sz v es := by
  rcases g with g | ⟨hne, j, h1, h2, rfl, h3⟩
  · exact .inl g
  · exact .inr ⟨hne, j, by omega, h2, rfl, h3⟩
structure DS0 (h0 : H) (st : List UInt8 × Bool) (v : V) (acc : List (List V)) (h : H) : Prop where
  ge : Ge h0 h
  wf : h.WF
  rd : h.get h0.next = some (rdr st.1)
  rp : h.get (h0.next + 1) = some (.row [.ptr h0.next 2 0])
  wr : h.get (h0.next + 2) = some (.row [.bool st.2])
  gl : Gl h (h0.next + 3) 6 v acc
theorem DS.drop {h0 h : H} {b : Nat} {st : List UInt8 × Bool} {n : List V} {v : V} {acc : List (List V)} (d : DS h0 b st n v acc h) : DS0 h0 st v acc h := ⟨d.ge, d.wf, d.rd, d.rp, d.wr, d.gl⟩
theorem DS0.make {h0 h : H} {st : List UInt8 × Bool} {v : V} {acc : List (List V)} (d : DS0 h0 st v acc h) (n : List V) : DS h0 h.next st n v acc (h.push (.row n)) := by
  have h1 := d.wf.lt d.wr
  have h2 := d.ge.1
  exact ⟨d.ge.push _, d.wf.push _, by rw [H.get_push, if_neg (by omega)]; exact d.rd, by rw [H.get_push, if_neg (by omega)]; exact d.rp, by rw [H.get_push, if_neg (by omega)]; exact d.wr, by omega, by simp, d.gl.push' _⟩
theorem zeros_map (n : Nat) : repCells n [V.int .u8 0] = (List.replicate n (0 : UInt8)).map byteV := by
  simp [repCells, byteV, List.map_replicate]
theorem copy_told {h : H} {sz : Nat} {a : List UInt8} (hl : a.length ≤ sz) : ∃ d, copyV (h.push (.row ((List.replicate sz (0 : UInt8)).map byteV))).get 1 (.sl h.next sz 0 sz (some sz)) (.str a) = some (.int .i64 a.length, d) ∧
    (h.push (.row ((List.replicate sz (0 : UInt8)).map byteV))).app d = h.push (.row ((a ++ List.replicate (sz - a.length) 0).map byteV)) := by
  have hx : elemsV (h.push (.row ((List.replicate sz (0 : UInt8)).map byteV))).get 1 (.str a) = some (a.length, a.map byteV) := by simp [elemsV]
  unfold copyV
  rw [hx]
  simp only [Nat.min_eq_left hl]
  by_cases h0 : a.length = 0
  · have : a = [] := List.length_eq_zero_iff.1 h0
    subst this
    exact ⟨.keep, by simp, by simp⟩
  · refine ⟨.set h.next (.row ((a ++ List.replicate (sz - a.length) 0).map byteV)), ?_, ?_⟩
    · rw [if_neg h0, if_pos (by rw [Nat.mul_one, List.take_of_length_le (by simp)]; exact byteV_all a)]
      simp only [get_push_same, len_row, List.length_map, List.length_replicate, if_true, Nat.mul_one]
      rw [List.take_of_length_le (by simp), put_row, if_pos (by simpa using hl)]
      simp [putCells]
    · simp [H.push_set]
theorem lastB_at {l : List UInt8} {m : Nat} (h1 : 1 ≤ m) (h2 : m ≤ l.length) (k : Nat) : ((lastB l m k)[m - 1]?) = some (UInt8.ofNat ((l.getD (m - 1) 0).toNat / 2 ^ k * 2 ^ k)) := by
  unfold lastB
  rw [List.getElem?_set_self (by omega)]
theorem lastB_step {l : List UInt8} {m : Nat} (k : Nat) : (lastB l m k).set (m - 1) (UInt8.ofNat ((l.getD (m - 1) 0).toNat / 2 ^ (k + 1) * 2 ^ (k + 1))) = lastB l m (k + 1) := by
  unfold lastB
  rw [List.set_set]
def DecT (fam : Int) (add : Bool) (size R : Nat) (v : V) (t : Tm) : Prop :=
  t 1 = .int .i64 fam ∧ t 2 = .bool add ∧ t 8 = .int .i64 size ∧ t 9 = .ptr (R + 1) 1 0 ∧ t 10 = .ptr (R + 2) 1 0 ∧ t 11 = .func (.func 13) [] [.ptr (R + 1) 1 0, .ptr (R + 2) 1 0] ∧ t 12 = v
theorem decode_ct {h : H} {s : List UInt8} {fam : Int} {add : Bool} (hs : s.length ≤ 10000000) {Q : V → H → Prop} (q0 : sizeN fam = 0 → ∀ h2, Ge h h2 → h2.WF → Q (.tup [.nilsl, .int .i64 2]) h2)
    (qe : sizeN fam ≠ 0 → decL fam add s = none → ∀ h2, Ge h h2 → h2.WF → Q (.tup [.nilsl, .int .i64 4]) h2)
    (ok : sizeN fam ≠ 0 → ∀ l, decL fam add s = some l → ∀ v h2, Ge h h2 → h2.WF → Gl h2 h.next 6 v (l.map nlC) → Q (.tup [v, .int .i64 0]) h2) :
    Acalls Tryd.prog 5 [.str s, .int .i64 fam, .bool add] h Q := by
  refine acalls_to Tryd.func5 S.nlri_Decode_code S.nlri_Decode_enter (Nat.le_of_ble_eq_true rfl) fun wf => ?_; simp only [S.nlri_Decode]
  simp
  refine psize_ct _ ?_
  by_cases z : sizeN fam = 0
  · simp [z]
    exact q0 z _ (Ge.refl _) wf
  have bz : (((sizeN fam : Nat) : Int) == 0) = false := beq_no (by omega)
  simp [bz]
  refine new_ct ?_
  simp
  generalize hhA : H.set _ (h.next + 2) _ = hA
  have A : DS0 h (s, false) .nilsl [] hA := by
    subst hhA
    refine ⟨?_, ?_, ?_, ?_, ?_, Gl.nil _ _ _⟩
    · exact (((((Ge.refl h).push _).push _).set (by omega) _).push _).set (by omega) _
    · exact ((((wf.push _).push _).set (by simp) _).push _).set (by simp) _
    · simp only [H.get_set, H.get_push, H.next_push, H.next_set]
      rw [if_neg (by omega), if_neg (by omega), if_neg (by omega), if_neg (by omega), if_pos trivial]
    · simp
    · simp
  clear hhA
  refine loopA_of (fun k t h' => ∃ (rest : List UInt8) (acc : List Nl) (v : V), k = rest.length ∧ DecT fam add (sizeN fam) h.next v t ∧ DS0 h (rest, false) v (acc.map nlC) h' ∧ rest.length ≤ s.length ∧ decL fam add s = (decL fam add rest).map (acc ++ ·) ∧ acc.length ≤ s.length - rest.length) (n := s.length) ⟨s, [], .nilsl, rfl, by simp [DecT], A, Nat.le_refl _, by simp, by simp⟩ ?_
  clear A hA
  rintro k t h' ⟨rest, acc, v, rfl, ⟨t1, t2, t8, t9, t10, t11, t12⟩, d0, hrs, hdec, hacc⟩ K hK
  have c1 := cellsAt_of d0.rp (n := 1) rfl
  have c2 := cellsAt_of d0.wr (n := 1) rfl
  simp at c1 c2
  simp [t9, c1]
  refine left_ct d0.rd _ ?_
  by_cases hne : rest.length = 0
  · have hr : rest = [] := List.length_eq_zero_iff.1 hne
    subst hr
    simp [t10, t12, c2]
    have : decL fam add s = some acc := by rw [hdec]; simp [decL]
    exact ok z acc this v h' d0.ge d0.wf (d0.gl.low (by omega))
  have hpos : 0 < rest.length := by omega
  have bp : decide ((0 : Int) < rest.length) = true := by simpa using hpos
  simp [t10, c2, hpos, t1]
  generalize hhB : H.set _ h'.next _ = hB
  have B : DS h h'.next (rest, false) [.int .i64 fam, .int .u64 0, .str [], .int .i64 0, .int .u32 0, .int .u32 0] v (acc.map nlC) hB := by
    subst hhB
    exact (d0.make _).put _
  clear hhB c1 c2
  obtain ⟨b, hb⟩ : ∃ b, b = h'.next := ⟨_, rfl⟩
  rw [← hb] at B ⊢
  simp [t2]
  refine cond_cut (fun t' h2 => DecT fam add (sizeN fam) h.next v t' ∧ t' 13 = .ptr b 6 0 ∧ DS h b (tkC add 4 (rest, false)).2 [.int .i64 fam, .int .u64 0, .str [], .int .i64 0, .int .u32 ((tkC add 4 (rest, false)).1 : Nat), .int .u32 0] v (acc.map nlC) h2) (fun e R hR => ?_) (fun e R hR => ?_) ?_
  · subst e
    obtain ⟨h2, p, D⟩ := take_ct B (z := 4) ⟨by omega, by omega⟩
    have hv := tkS_lt (n := 4) (st := (rest, false))
    have w : IntKind.u32.wrap ((tkS 4 (rest, false)).1 : Int) = (tkS 4 (rest, false)).1 := by simp [IntKind.wrap, IntKind.bits, IntKind.signed]; omega
    simp [t11]
    refine p _ ?_
    have a := D.at_
    simp [w, a]
    exact hR _ _ ⟨by simp [DecT, t1, t2, t8, t9, t10, t11, t12], by simp, by simpa [tkC_true] using D.put _⟩
  · subst e
    simp
    exact hR _ _ ⟨by simp [DecT, t1, t2, t8, t9, t10, t11, t12], by simp, by simpa [tkC_false] using B⟩
  clear t1 t2 t8 t9 t10 t11 t12 B
  obtain ⟨s1, hs1⟩ : ∃ s1, s1 = tkC add 4 (rest, false) := ⟨_, rfl⟩
  rw [← hs1]
  rintro t h2 ⟨⟨t1, t2, t8, t9, t10, t11, t12⟩, t13, D⟩
  obtain ⟨h3, p, D3⟩ := take_ct D (z := 1) ⟨by omega, by omega⟩
  obtain ⟨s2, hs2⟩ : ∃ s2, s2 = tkS 1 s1.2 := ⟨_, rfl⟩
  have hv2 : s2.1 < 256 := by rw [hs2]; exact tkS_lt (n := 1)
  rw [← hs2] at p D3
  simp [t11]
  refine p _ ?_
  have ale := ahead_le fam
  have w1 : IntKind.i64.wrap ((s2.1 : Nat) : Int) = (s2.1 : Nat) := wrap_i64_id (by omega) (by omega)
  have w2 : IntKind.i64.wrap (((s2.1 : Nat) : Int) - (aheadN fam : Nat)) = ((s2.1 : Nat) : Int) - (aheadN fam : Nat) := wrap_i64_id (by omega) (by omega)
  simp [t1, w1]
  refine ahead_ct _ ?_
  simp [t1, w2]
  refine nlabel_ct _ ?_
  simp
  refine cond_cut (fun t' h4 => DecT fam add (sizeN fam) h.next v t' ∧ t' 13 = .ptr b 6 0 ∧ t' 14 = .int .i64 (((s2.1 : Nat) : Int) - (aheadN fam : Nat)) ∧ DS h b ((tkC (labelF fam) 3 s2.2).2.1, (tkC (labelF fam) 3 s2.2).2.2 || badLab fam (tkC (labelF fam) 3 s2.2).1) [.int .i64 fam, .int .u64 0, .str [], .int .i64 0, .int .u32 (s1.1 : Nat), .int .u32 ((if (tkC (labelF fam) 3 s2.2).1 = 8388608 then 0 else (tkC (labelF fam) 3 s2.2).1 / 16 : Nat) : Int)] v (acc.map nlC) h4) (fun e R hR => ?_) (fun e R hR => ?_) ?_
  · rw [e, tkC_true] at hR
    obtain ⟨h4, p, D4⟩ := take_ct D3 (z := 3) ⟨by omega, by omega⟩
    obtain ⟨s3, hs3⟩ : ∃ s3, s3 = tkS 3 s2.2 := ⟨_, rfl⟩
    have hv3 : s3.1 < 16777216 := by rw [hs3]; exact tkS_lt (n := 3)
    rw [← hs3] at p D4 hR
    simp [t11]
    refine p _ ?_
    have c1 := cellsAt_of D4.wr (n := 1) rfl
    simp at c1
    simp [t10, c1]
    refine guard_meet (fun t' h5 => DecT fam add (sizeN fam) h.next v t' ∧ t' 13 = .ptr b 6 0 ∧ t' 14 = .int .i64 (((s2.1 : Nat) : Int) - (aheadN fam : Nat)) ∧ t' 15 = .int .u64 (s3.1 : Nat) ∧ DS h b (s3.2.1, s3.2.2 || badLab fam s3.1) [.int .i64 fam, .int .u64 0, .str [], .int .i64 0, .int .u32 (s1.1 : Nat), .int .u32 0] v (acc.map nlC) h5) (fun R' hR' => ?_) ?_
    · have wr := D4.wr
      have a1 := and_one s3.1 (by omega)
      have fin : ∀ w : Bool, w = (s3.2.2 || badLab fam s3.1) → ∀ t', DecT fam add (sizeN fam) h.next v t' → t' 13 = .ptr b 6 0 → t' 14 = .int .i64 (((s2.1 : Nat) : Int) - (aheadN fam : Nat)) → t' 15 = .int .u64 (s3.1 : Nat) → R' t' (h4.set (h.next + 2) (.row [.bool w])) := fun w hw t' x1 x2 x3 x4 => hR' _ _ ⟨x1, x2, x3, x4, by rw [← hw]; exact D4.mark w⟩
      cases hw : s3.2.2 with
      | true =>
        rw [hw] at wr
        simp [t10, wr]
        exact fin true (by simp [hw]) _ (by simp [DecT, t1, t2, t8, t9, t10, t11, t12]) (by simp [t13]) (by simp) (by simp)
      | false =>
        rw [hw] at wr
        rcases Nat.mod_two_eq_zero_or_one s3.1 with hm | hm
        · have bz : ((s3.1 : Int) % 2) = 0 := by omega
          simp [a1, bz, t10, wr]
          refine fin _ ?_ _ (by simp [DecT, t1, t2, t8, t9, t10, t11, t12]) (by simp [t13]) (by simp) (by simp)
          simp [hw, badLab, e, hm]
          by_cases hg : s3.1 = 8388608 <;> simp [hg, bne]
          omega
        · have bz : ((s3.1 : Int) % 2) = 1 := by omega
          simp [a1, bz, t10, wr]
          exact fin false (by simp [hw, badLab, hm]) _ (by simp [DecT, t1, t2, t8, t9, t10, t11, t12]) (by simp [t13]) (by simp) (by simp)
    clear t1 t2 t8 t9 t10 t11 t12 t13
    rintro t' h5 ⟨⟨t1, t2, t8, t9, t10, t11, t12⟩, t13, t14, t15, D5⟩
    have hx : (((s3.1 : Nat) : Int) != 8388608) = !decide (s3.1 = 8388608) := by
      by_cases hg : s3.1 = 8388608
      · simp [hg]
      · have : ¬ ((s3.1 : Nat) : Int) = 8388608 := by omega
        simp [bne, beq_no this, hg]
    by_cases hg : s3.1 = 8388608
    · simp [t15, hg]
      rw [if_pos hg] at hR
      refine hR _ _ ⟨by simp [DecT, t1, t2, t8, t9, t10, t11, t12], by simp [t13], by simp [t14], ?_⟩
      simpa [e, hg] using D5
    · have w3 : ((s3.1 : Int).fdiv (2 ^ min 4 IntKind.u64.bits)) = ((s3.1 / 16 : Nat) : Int) := shr_n s3.1 4 (by omega)
      have w4 : IntKind.u32.wrap ((s3.1 / 16 : Nat) : Int) = ((s3.1 / 16 : Nat) : Int) := by simp [IntKind.wrap, IntKind.bits, IntKind.signed]; omega
      have a := D5.at_
      simp at w3 w4
      simp [t15, hx, hg, t13, w3, w4, a]
      rw [if_neg hg] at hR
      refine hR _ _ ⟨by simp [DecT, t1, t2, t8, t9, t10, t11, t12], by simp [t13], by simp [t14], ?_⟩
      have := D5.put [.int .i64 fam, .int .u64 0, .str [], .int .i64 0, .int .u32 (s1.1 : Nat), .int .u32 ((s3.1 / 16 : Nat) : Int)]
      simpa [e, hg] using this
  · rw [e, tkC_false] at hR
    simp
    refine hR _ _ ⟨by simp [DecT, t1, t2, t8, t9, t10, t11, t12], by simp [t13], by simp, ?_⟩
    have hbl : badLab fam 0 = false := by simp [badLab, e]
    simpa [hbl] using D3
  clear t1 t2 t8 t9 t10 t11 t12 t13 D D3 p
  obtain ⟨s3, hs3⟩ : ∃ s3, s3 = tkC (labelF fam) 3 s2.2 := ⟨_, rfl⟩
  rw [← hs3]
  obtain ⟨lb, hlb⟩ : ∃ lb : Nat, lb = (if s3.1 = 8388608 then 0 else s3.1 / 16) := ⟨_, rfl⟩
  rw [← hlb]
  rintro t h4 ⟨⟨t1, t2, t8, t9, t10, t11, t12⟩, t13, t14, D⟩
  simp [t1]
  refine napart_ct _ ?_
  simp
  refine cond_cut (fun t' h5 => DecT fam add (sizeN fam) h.next v t' ∧ t' 13 = .ptr b 6 0 ∧ t' 14 = .int .i64 (((s2.1 : Nat) : Int) - (aheadN fam : Nat)) ∧ DS h b (itS fam add rest).st [.int .i64 fam, .int .u64 ((itS fam add rest).rd : Nat), .str [], .int .i64 0, .int .u32 (s1.1 : Nat), .int .u32 (lb : Nat)] v (acc.map nlC) h5) (fun e R hR => ?_) (fun e R hR => ?_) ?_
  · obtain ⟨h5, p, D5⟩ := take_ct D (z := 8) ⟨by omega, by omega⟩
    have ei : (itS fam add rest).st = (tkS 8 (s3.2.1, s3.2.2 || badLab fam s3.1)).2 ∧ (itS fam add rest).rd = (tkS 8 (s3.2.1, s3.2.2 || badLab fam s3.1)).1 := by
      simp only [itS, ← hs1, ← hs2, ← hs3, e, tkC_true, and_self]
    rw [ei.1, ei.2] at hR
    simp [t11]
    refine p _ ?_
    have a := D5.at_
    simp [t13, a]
    exact hR _ _ ⟨by simp [DecT, t1, t2, t8, t9, t10, t11, t12], by simp [t13], by simp [t14], D5.put _⟩
  · have ei : (itS fam add rest).st = (s3.2.1, s3.2.2 || badLab fam s3.1) ∧ (itS fam add rest).rd = 0 := by
      simp only [itS, ← hs1, ← hs2, ← hs3, e, tkC_false, and_self]
    rw [ei.1, ei.2] at hR
    simp
    exact hR _ _ ⟨by simp [DecT, t1, t2, t8, t9, t10, t11, t12], by simp [t13], by simp [t14], D⟩
  clear t1 t2 t8 t9 t10 t11 t12 t13 t14 D
  have hit : itS fam add rest = ⟨s1.1, s2.1, s3.1, (itS fam add rest).rd, (itS fam add rest).st⟩ := by
    simp only [itS, ← hs1, ← hs2, ← hs3]
  obtain ⟨rd, hrd⟩ : ∃ rd, rd = (itS fam add rest).rd := ⟨_, rfl⟩
  obtain ⟨s4, hs4⟩ : ∃ s4, s4 = (itS fam add rest).st := ⟨_, rfl⟩
  rw [← hrd, ← hs4] at hit ⊢
  have hd1 := dec1_it fam add rest
  rw [hit] at hd1
  simp only [← hlb] at hd1
  clear hs3 hlb hs2 hs1 hrd hs4 hit
  rintro t h5 ⟨⟨t1, t2, t8, t9, t10, t11, t12⟩, t13, t14, D⟩
  have hstep := decL_step z (s := rest) (fam := fam) (add := add) (by intro e; subst e; simp at hne)
  have herr : dec1 fam add rest = none → ∀ h2, Ge h h2 → h2.WF → Q (.tup [.nilsl, .int .i64 4]) h2 := fun e => qe z (by rw [hdec, hstep, e]; rfl)
  have sle := size_le fam
  have wr := D.wr
  have c2 := cellsAt_of D.wr (n := 1) rfl
  have c1 := cellsAt_of D.rp (n := 1) rfl
  have c3 := cellsAt_of D.at_ (n := 6) rfl
  simp at c1 c2 c3
  cases hw : s4.2 with
  | true =>
    rw [hw] at c2
    simp [t10, c2]
    exact herr (by rw [hd1, if_pos (.inl hw)]) h5 D.ge D.wf
  | false =>
  rw [hw] at c2
  by_cases b1 : s2.1 < aheadN fam
  · have x1 : ((s2.1 : Nat) : Int) - (aheadN fam : Nat) < 0 := by omega
    simp [t10, c2, t14, x1]
    exact herr (by rw [hd1, if_pos (.inr (.inl b1))]) h5 D.ge D.wf
  have w8 : IntKind.i64.wrap (8 * ((sizeN fam : Nat) : Int)) = 8 * ((sizeN fam : Nat) : Int) := wrap_i64_id (by omega) (by omega)
  have x1 : ¬ ((s2.1 : Nat) : Int) - (aheadN fam : Nat) < 0 := by omega
  by_cases b2 : 8 * sizeN fam < s2.1 - aheadN fam
  · have x2 : 8 * ((sizeN fam : Nat) : Int) < ((s2.1 : Nat) : Int) - (aheadN fam : Nat) := by omega
    simp [t10, c2, t14, x1, t8, w8, x2]
    exact herr (by rw [hd1, if_pos (.inr (.inr b2))]) h5 D.ge D.wf
  have x2 : ¬ 8 * ((sizeN fam : Nat) : Int) < ((s2.1 : Nat) : Int) - (aheadN fam : Nat) := by omega
  rw [if_neg (by rw [hw]; simp; omega)] at hd1
  simp [t10, c2, t14, x1, t8, w8, x2]
  obtain ⟨bn, hbn⟩ : ∃ bn : Nat, bn = s2.1 - aheadN fam := ⟨_, rfl⟩
  have hbi : ((s2.1 : Nat) : Int) - (aheadN fam : Nat) = (bn : Nat) := by omega
  rw [← hbn] at hd1
  rw [hbi] at t14 ⊢
  refine dreg_plain [(20, wholeP)] (plain1 wholeP_ok) (by rfl) ?_
  simp [t9, c1, t14, wholeP_eq (show bn < 1000000 by omega), List.lookup]
  cases htk : tk (wholeN bn) s4.1 with
  | none =>
    have hlt : s4.1.length < wholeN bn := by
      unfold tk at htk; split at htk
      · cases htk
      · omega
    rw [htk] at hd1
    refine scall_of (v := .tup [.str [], .bool false]) (h' := h5) (fun Q q => take_no D.rd (.inr (by omega)) Q q) ?_
    simp
    exact herr hd1 h5 D.ge D.wf
  | some ar =>
  obtain ⟨a, r⟩ := ar
  rw [htk] at hd1
  simp only at hd1
  have hle : wholeN bn ≤ s4.1.length ∧ a = s4.1.take (wholeN bn) ∧ r = s4.1.drop (wholeN bn) := by
    unfold tk at htk; split at htk
    · cases htk; exact ⟨by assumption, rfl, rfl⟩
    · cases htk
  obtain ⟨l1, l2, l3⟩ := hle
  have hal : a.length = wholeN bn := by rw [l2, List.length_take]; omega
  have hal2 : a.length ≤ sizeN fam := by rw [hal]; unfold wholeN; omega
  refine scall_of (v := .tup [.str a, .bool true]) (h' := h5.set h.next (rdr r)) (fun Q q => take_yes D.rd (wholeN bn) rfl l1 (by rw [← l2, ← l3]; exact q)) ?_
  generalize hh6 : h5.set h.next (rdr r) = h6
  have D6 : DS h b (r, s4.2) [.int .i64 fam, .int .u64 (rd : Nat), .str [], .int .i64 0, .int .u32 (s1.1 : Nat), .int .u32 (lb : Nat)] v (acc.map nlC) h6 := by
    subst hh6
    obtain ⟨ge, wf, rd', rp, wr, lo, at_, gl⟩ := D
    exact ⟨ge.set (Nat.le_refl _) _, wf.set (wf.lt rd') _, by simp, by rw [H.get_set, if_neg (by omega)]; exact rp, by rw [H.get_set, if_neg (by omega)]; exact wr, lo, by rw [H.get_set, if_neg (by omega)]; exact at_, gl.row rd' _⟩
  clear hh6 D
  simp [t8]
  have hmk : makeSliceV h6.next 1 1 [.int .u8 0] (.int .i64 (sizeN fam : Nat)) (.int .i64 (sizeN fam : Nat)) = some (.sl h6.next (sizeN fam) 0 (sizeN fam) (some (sizeN fam)), .push (.row ((List.replicate (sizeN fam) (0 : UInt8)).map byteV))) := by
    simp only [makeSliceV]
    rw [if_pos ⟨by omega, by omega, by omega, by omega⟩, zeros_map]
    simp
  obtain ⟨dd, hcp, happ⟩ := copy_told (h := h6) hal2
  obtain ⟨ws, hws⟩ : ∃ ws, ws = a ++ List.replicate (sizeN fam - a.length) (0 : UInt8) := ⟨_, rfl⟩
  have hwl : ws.length = sizeN fam := by rw [hws]; simp; omega
  rw [← hws] at happ
  obtain ⟨zr, hzr⟩ : ∃ zr, zr = List.replicate (sizeN fam) (0 : UInt8) := ⟨_, rfl⟩
  rw [← hzr] at hmk hcp happ
  have w9 : IntKind.i64.wrap (8 * (a.length : Int)) = 8 * (a.length : Int) := wrap_i64_id (by omega) (by omega)
  have w10 : IntKind.i64.wrap (8 * (a.length : Int) - (bn : Nat)) = ((8 * a.length - bn : Nat) : Int) := by rw [wrap_i64_id (by unfold wholeN at hal; omega) (by omega)]; unfold wholeN at hal; omega
  simp [hmk, hcp, happ, w9, t14, w10]
  obtain ⟨q, hq⟩ : ∃ q, q = h6.next := ⟨_, rfl⟩
  rw [← hq]
  obtain ⟨nz, hnz⟩ : ∃ nz, nz = 8 * a.length - bn := ⟨_, rfl⟩
  have hnz8 : nz < 8 := by unfold wholeN at hal; omega
  rw [← hnz]
  refine loop_up (fun i t' h' => (DecT fam add (sizeN fam) h.next v t' ∧ t' 13 = .ptr b 6 0 ∧ t' 14 = .int .i64 (bn : Nat) ∧ t' 16 = .str a ∧ t' 18 = .sl q (sizeN fam) 0 (sizeN fam) (some (sizeN fam)) ∧ t' 103 = .int .i64 (nz : Nat) ∧ t' 104 = .int .i64 (i : Nat)) ∧ h' = h6.push (.row ((lastB ws a.length i).map byteV))) nz ⟨by simp [DecT, t1, t2, t8, t9, t10, t11, t12, t13, t14], by rw [lastB_zero]⟩ ?_
  clear t1 t2 t8 t9 t10 t11 t12 t13 t14 hmk hcp happ hzr
  rintro i t h7 hi ⟨⟨⟨t1, t2, t8, t9, t10, t11, t12⟩, t13, t14, t16, t18, t103, t104⟩, rfl⟩ K2 hK2
  by_cases hlt : i < nz
  · have ha1 : 1 ≤ a.length := by omega
    have hat := lastB_at (l := ws) ha1 (by omega) i
    obtain ⟨x, hx⟩ : ∃ x, x = (ws.getD (a.length - 1) 0).toNat := ⟨_, rfl⟩
    have hx2 : x < 256 := by rw [hx]; exact UInt8.toNat_lt _
    have hst := lastB_step (l := ws) (m := a.length) i
    rw [← hx] at hat hst
    obtain ⟨cur, hcur⟩ : ∃ cur, cur = lastB ws a.length i := ⟨_, rfl⟩
    have hcl : cur.length = sizeN fam := by rw [hcur, lastB_len, hwl]
    rw [← hcur] at hat hst ⊢
    have w1 : IntKind.i64.wrap ((a.length : Int) - 1) = ((a.length - 1 : Nat) : Int) := by rw [wrap_i64_id (by omega) (by omega)]; omega
    have w2 := wrap_succ hlt (by omega)
    have w3 : IntKind.u8.wrap (2 ^ min i IntKind.u8.bits) = ((2 ^ i : Nat) : Int) := by
      have : min i IntKind.u8.bits = i := by simp [IntKind.bits]; omega
      rw [this]
      have h2 : 2 ^ i < 256 := Nat.lt_of_lt_of_le (Nat.pow_lt_pow_right (by omega) (show i < 8 by omega)) (by decide)
      have := u8_idN h2
      simpa using this
    have hle2 : x / 2 ^ i * 2 ^ i ≤ x := Nat.div_mul_le_self _ _
    have hbv : (UInt8.ofNat (x / 2 ^ i * 2 ^ i)).toNat = x / 2 ^ i * 2 ^ i := by simp; omega
    have hbv2 : (UInt8.ofNat (x / 2 ^ (i + 1) * 2 ^ (i + 1))).toNat = x / 2 ^ (i + 1) * 2 ^ (i + 1) := by
      have : x / 2 ^ (i + 1) * 2 ^ (i + 1) ≤ x := Nat.div_mul_le_self _ _
      simp; omega
    have hop : intV .andNot .u8 ((UInt8.ofNat (x / 2 ^ i * 2 ^ i)).toNat : Int) ((2 ^ i : Nat) : Int) = some (byteV (UInt8.ofNat (x / 2 ^ (i + 1) * 2 ^ (i + 1)))) := by
      rw [hbv, byteV, hbv2]
      show some (V.int .u8 (IntKind.u8.wrap ((BitVec.ofInt 8 ((x / 2 ^ i * 2 ^ i : Nat) : Int) &&& ~~~ BitVec.ofInt 8 ((2 ^ i : Nat) : Int)).toNat : Int))) = _
      rw [andnot_step x hx2 i (by omega)]
    have hatm : (cur.map byteV)[a.length - 1]? = some (.int .u8 ((UInt8.ofNat (x / 2 ^ i * 2 ^ i)).toNat : Int)) := by rw [List.getElem?_map, hat]; rfl
    simp [t103, t104, hlt]
    refine dreg_of ?_
    have hix : a.length - 1 < sizeN fam := by omega
    have hcc : cellsAt (h6.push (.row (cur.map byteV))).get q (sizeN fam) = some (cur.map byteV) := by rw [hq]; simp [hcl]
    have hgg : (h6.push (.row (cur.map byteV))).get q = some (.row (cur.map byteV)) := by rw [hq]; simp
    have hput : ∀ y : UInt8, List.take (a.length - 1) (cur.map byteV) ++ byteV y :: List.drop (a.length - 1 + 1) (cur.map byteV) = (cur.set (a.length - 1) y).map byteV := fun y => by
      rw [List.map_set, List.set_eq_take_append_cons_drop, if_pos (by simp; omega)]
    have hs1 : ∀ y : UInt8, (byteV y).solid = true := fun _ => rfl
    have hs2 : ∀ y : UInt8, (byteV y).cells = [byteV y] := fun _ => rfl
    obtain ⟨cm, hcm⟩ : ∃ cm, cm = cur.map byteV := ⟨_, rfl⟩
    have hcml : cm.length = sizeN fam := by rw [hcm]; simp [hcl]
    rw [← hcm] at hatm hcc hgg hput ⊢
    have hat2 : cm[a.length - 1]? = some (.int .u8 ((UInt8.ofNat (x / 2 ^ i * 2 ^ i)).toNat : Int)) := hatm
    generalize hz1 : ((UInt8.ofNat (x / 2 ^ i * 2 ^ i)).toNat : Int) = z1 at hop hat2
    generalize hz2 : UInt8.ofNat (x / 2 ^ (i + 1) * 2 ^ (i + 1)) = z2 at hop hst
    have w3' : ((2 ^ i : Nat) : Int) = 2 ^ i := by simp
    rw [w3'] at w3 hop
    have hfit : a.length - 1 + 1 ≤ sizeN fam := by omega
    have hat3 : cm[a.length - 1]'(by omega) = .int .u8 z1 := by
      rw [List.getElem?_eq_getElem (by omega)] at hat2
      exact Option.some.inj hat2
    simp [t16, t18, w1, hix, hq, hat3, w3, hop, hcml, hs1, hs2, hfit, hput]
    rw [H.push_set]
    simp [t104, w2]
    refine hK2 _ _ hlt ⟨by simp [DecT, t1, t2, t8, t9, t10, t11, t12, t13, t14, t16, t18, t103, hq], ?_⟩
    rw [← List.map_set, hst]
  · have hi2 : i = nz := by omega
    subst hi2
    have hmt := mask_told (z := sizeN fam - a.length) hal
    rw [← hws, ← hnz] at hmt
    have hml : (maskL ws bn).length = sizeN fam := by rw [maskL_len, hwl]
    obtain ⟨nl, hnl⟩ : ∃ nl : Nl, nl = ⟨⟨fam, rd, maskL ws bn, (bn : Nat)⟩, s1.1, lb⟩ := ⟨_, rfl⟩
    have hd2 : dec1 fam add rest = some (nl, r) := by rw [hd1, hnl, hws]
    rw [← hmt]
    obtain ⟨ml, hml2⟩ : ∃ ml, ml = maskL ws bn := ⟨_, rfl⟩
    rw [← hml2] at hml hnl ⊢
    have el : elemsV (h6.push (.row (ml.map byteV))).get 1 (.sl q (sizeN fam) 0 (sizeN fam) (some (sizeN fam))) = some (sizeN fam, ml.map byteV) := by
      rw [elemsV_sl, if_neg z, hq]
      simp [hml]
      rw [List.take_of_length_le (by simp [hml])]
    have D7 := D6.push (.row (ml.map byteV))
    generalize hh7 : h6.push (.row (ml.map byteV)) = h7 at el D7 ⊢
    have at7 := D7.at_
    simp [t103, t104, t18, t14, t13, el, at7]
    have D8 := (D7.put (nlC nl)).push (.row (nlC nl))
    have g8 : ((h7.set b (.row (nlC nl))).push (.row (nlC nl))).get h7.next = some (.row (nlC nl)) := by simp
    have n8 : ((h7.set b (.row (nlC nl))).push (.row (nlC nl))).next = h7.next + 1 := rfl
    have enl : nlC nl = [.int .i64 fam, .int .u64 (rd : Nat), .str ml, .int .i64 (bn : Nat), .int .u32 (s1.1 : Nat), .int .u32 (lb : Nat)] := by rw [hnl]; rfl
    rw [← enl]
    generalize hh8 : (h7.set b (.row (nlC nl))).push (.row (nlC nl)) = h8 at D8 g8 n8 ⊢
    have hx : elemsV h8.get 6 (.sl h7.next 6 0 1 (some 1)) = some (1, nlC nl) := by
      rw [elemsV_sl, if_neg (by omega), cellsAt_of g8 (by simp [nlC])]
      simp [nlC]
    have hgn := D8.ge.1
    have hwl8 := D8.wf.lt D8.wr
    obtain ⟨v', d, e1, e2, e3, e4, e5⟩ := D8.gl.append (bytes := 48) (e := nlC nl) (by omega) (by
      intro x hx'
      obtain ⟨y, _, rfl⟩ := List.mem_map.1 hx'
      rfl) rfl hx rfl (by omega) (by simp; omega) (by simp; omega)
    rw [n8] at e1
    simp [t12, e1]
    have hrl := dec1_lt z hd2
    have hid : ∀ i, i < h.next + 3 → i ∉ v.ids := fun i hi hm => by have := (D8.gl.lo i hm).1; omega
    refine hK r.length _ _ hrl ⟨r, acc ++ [nl], v', rfl, by simp [DecT, t1, t2, t8, t9, t10, t11], ⟨?_, e5 D8.wf, ?_, ?_, ?_, by simpa using e2⟩, by omega, ?_, by simp; omega⟩
    · refine ⟨by omega, fun i hi => ?_⟩
      rw [e4 i (hid i (by omega)) (by omega)]
      exact D8.ge.2 i hi
    · rw [e4 _ (hid _ (by omega)) (by omega)]; exact D8.rd
    · rw [e4 _ (hid _ (by omega)) (by omega)]; exact D8.rp
    · rw [e4 _ (hid _ (by omega)) (by omega)]
      have := D8.wr
      rw [hw] at this
      exact this
    · rw [hdec, hstep, hd2]
      simp only [Option.map_map]
      congr 1
      funext x
      simp
end Go.Am
