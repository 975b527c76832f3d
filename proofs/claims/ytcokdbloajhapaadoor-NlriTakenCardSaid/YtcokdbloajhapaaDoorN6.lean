/-
  Encode's contract.
-/
import Derived.Test.YtcokdbloajhapaaDoorN5
namespace Go.Am
open Go.Proofs

set_option maxRecDepth 100000
theorem sz_ahead {fam : Int} (h0 : sizeN fam ≠ 0) : sizeN fam * 8 + aheadN fam < 256 := by
  unfold sizeN aheadN labelF apartF
  by_cases e1 : fam = 1
  · subst e1; decide
  by_cases e2 : fam = 2
  · subst e2; decide
  by_cases e3 : fam = 3
  · subst e3; decide
  by_cases e4 : fam = 4
  · subst e4; decide
  by_cases e5 : fam = 5
  · subst e5; decide
  exfalso; apply h0; unfold sizeN; rw [if_neg (by omega), if_neg (by omega)]
theorem may_len {n : Nl} (h : mayN n = true) : n.p.len.toNat ≤ 128 := by
  simp only [mayN, mayP, Bool.and_eq_true, Bool.or_eq_true, decide_eq_true_eq] at h
  have := size_le n.p.fam
  omega
theorem enc1_le {add : Bool} {n : Nl} (h : mayN n = true) : (enc1 add n).length ≤ 32 := by
  have hl := may_len h
  simp only [enc1, List.length_append, be_len, List.length_take]
  have h1 : (if add = true then be 4 n.id else []).length ≤ 4 := by split <;> simp [be_len]
  have h2 : (if labelF n.p.fam = true then be 3 (n.label * 16 + 1) else []).length ≤ 3 := by split <;> simp [be_len]
  have h3 : (if apartF n.p.fam = true then be 8 n.p.rd else []).length ≤ 8 := by split <;> simp [be_len]
  unfold wholeN
  omega
theorem encL_le {add : Bool} : ∀ {l : List Nl}, (∀ n ∈ l, mayN n = true) → (encL add l).length ≤ 32 * l.length
  | [], _ => by simp [encL]
  | n :: l, h => by
    have h1 := enc1_le (add := add) (h n (by simp))
    have h2 := encL_le (add := add) (l := l) fun m hm => h m (by simp [hm])
    simp only [encL, List.flatMap_cons, List.length_append, List.length_cons] at h2 ⊢
    omega
def EncT (fam : Int) (add : Bool) (o : Nat) (sl : V) (len i b : Nat) (t : Tm) : Prop :=
  t 1 = .int .i64 fam ∧ t 2 = .bool add ∧ t 8 = .ptr o 1 0 ∧ t 9 = .func (.func 23) [] [.ptr o 1 0] ∧ t 11 = .ptr b 6 0 ∧ t 12 = .ptr (b + 1) 4 0 ∧ t 17 = sl ∧ t 18 = .int .i64 len ∧ t 19 = .int .i64 i
theorem ptr_ids (o : Nat) : V.idss [V.ptr o 1 0] = [o] := rfl
theorem encode_ct {h : H} {sl : V} {l : List Nl} {fam : Int} {add : Bool} (hs : Sls h.get 6 sl (l.map nlC)) (hl : l.length ≤ 10000000) (hf : ∀ n ∈ l, NlFit n) :
    Pure Tryd.prog 8 [sl, .int .i64 fam, .bool add] h (match encS l fam add with | some s => .tup [.str s, .int .i64 0] | none => .tup [.str [], .int .i64 2]) := by
  refine pure_to Tryd.func8 S.nlri_Encode_code S.nlri_Encode_enter (by split <;> rfl) (Nat.le_of_ble_eq_true rfl) fun wf => ?_; simp only [S.nlri_Encode]
  simp
  refine psize_ct _ ?_
  by_cases z : sizeN fam = 0
  · simp [z, encS]
  have bz : (((sizeN fam : Nat) : Int) == 0) = false := beq_no (by omega)
  have hlen := hs.lenG wf (n := l.length) (by simp)
  simp [bz, hlen]
  have b0 : Buf h h.next [] (h.push (.row [.nilsl])) := ⟨(Ge.refl _).push _, wf.push _, by simp, Nat.le_refl _, .nilsl, by simp, .inl ⟨rfl, rfl⟩⟩
  refine loop_up (fun i t h' => (t 1 = .int .i64 fam ∧ t 2 = .bool add ∧ t 8 = .ptr h.next 1 0 ∧ t 9 = .func (.func 23) [] [.ptr h.next 1 0] ∧ t 17 = sl ∧ t 18 = .int .i64 l.length ∧ t 19 = .int .i64 i) ∧ Buf h h.next (encL add (l.take i)) h' ∧ ∀ n ∈ l.take i, encOk fam add n = true) l.length ⟨by simp, by simpa [encL] using b0, by simp⟩ ?_
  rintro i t h' hi ⟨⟨t1, t2, t8, t9, t17, t18, t19⟩, hb, hok⟩ K hK
  by_cases hlt : i < l.length
  · obtain ⟨p, q, o, cs, e1, e2, e3, e4, e5, e6⟩ := hs.atG wf (k := i) (by simpa using hlt)
    obtain ⟨n, hn⟩ : ∃ n, n = l[i] := ⟨_, rfl⟩
    have e5' : (cs.drop o).take 6 = nlC n := by rw [e5, hn]; simp
    have e3' := e3 h' hb.ge
    have e1' := e1 .i64
    have fit := hf n (by rw [hn]; exact List.getElem_mem _)
    have hw := wrap_succ hlt (by omega)
    have one1 : (nlC n).all V.one = true := rfl
    have hnx : h'.next ≠ h.next := by have := hb.lt; omega
    simp [t1, t2, t8, t9, t17, t18, t19, hlt, e1', e3', e4, e5', nlC]
    generalize hh2 : H.set _ (h'.next + 1) _ = h2
    have G2 : h2.get h'.next = some (.row (nlC n)) ∧ h2.get (h'.next + 1) = some (.row (pfxC n.p)) ∧ Buf h h.next (encL add (l.take i)) h2 := by
      subst hh2
      have hbl := hb.lt
      refine ⟨by simp [nlC], by simp [pfxC], ?_⟩
      exact (hb.pushed _ _).pushed _ _
    clear hh2
    obtain ⟨G1, G3, B2⟩ := G2
    have c1 := cellsAt_of G1 (n := 6) (by simp [nlC])
    have c2 := cellsAt_of G3 (n := 4) (by simp [pfxC])
    simp [nlC] at c1
    simp [pfxC] at c2
    refine ncheck_ct (n := n) _ ?_
    have hno : encOk fam add n = false → encS l fam add = none := fun e => by
      have : l.all (encOk fam add) = false := by rw [List.all_eq_false]; exact ⟨n, by rw [hn]; exact List.getElem_mem _, by simp [e]⟩
      simp [encS, this]
    cases hm : mayN n with
    | false =>
      simp [hno (by simp [encOk, hm])]
      exact B2.ge
    | true =>
    by_cases hfam : n.p.fam = fam
    rotate_left
    · have bf : (n.p.fam != fam) = true := by simpa using hfam
      simp [t1, c2, bf, hno (by simp [encOk, hfam])]
      exact B2.ge
    have bf : (n.p.fam != fam) = false := by simp [hfam]
    by_cases hid : n.id = 0 ∨ add = true
    rotate_left
    · have h1 : ¬ n.id = 0 := fun e => hid (.inl e)
      have h2 : add = false := by cases add; rfl; exact absurd (.inr rfl) hid
      have h3 : 0 < n.id := by omega
      have hn0 := hno (by simp [encOk, h1, h2])
      rw [h2] at hn0
      simp [t1, t2, c1, c2, bf, h2, h3, hn0]
      exact B2.ge
    have hE : encOk fam add n = true := by simp [encOk, hm, hfam, hid]
    simp [t1, t2, c1, c2, bf]
    refine guard_meet (fun t' h3 => EncT fam add h.next sl l.length i h'.next t' ∧ t' 42 = .bool false ∧ h3 = h2) (fun R hR => ?_) ?_
    · by_cases hz : 0 < n.id
      · have hadd : add = true := by rcases hid with e | e; omega; exact e
        simp [hz, hadd, t2]
        exact hR _ _ ⟨by simp [EncT, t1, t2, t8, t9, t17, t18, t19, hadd], by simp, rfl⟩
      · simp [hz]
        exact hR _ _ ⟨by simp [EncT, t1, t2, t8, t9, t17, t18, t19], by simp, rfl⟩
    clear t1 t2 t8 t9 t17 t18 t19
    rintro t' h3 ⟨⟨t1, t2, t8, t9, t11, t12, t17, t18, t19⟩, t42, rfl⟩
    have hC : ∀ x, Keeps h.next h3 x → cellsAt x.get h'.next 6 = some (nlC n) ∧ cellsAt x.get (h'.next + 1) 4 = some (pfxC n.p) := fun x kx =>
      ⟨by rw [cellsAt_of (kx.2 _ _ hnx G1) (by simp [nlC])]; rfl, by rw [cellsAt_of (kx.2 _ _ (by have := hb.lt; omega) G3) (by simp [pfxC])]; rfl⟩
    have hok1 : NlOk fam add n := ⟨hm, hfam, fun e => (by rcases hid with h1 | h1; exact h1; rw [e] at h1; cases h1), fit.id, fit.rd⟩
    obtain ⟨o0, o1, o2, o3, o4, o5, o6, o7⟩ := hok1.parts
    have sle := size_le fam
    have ale := ahead_le fam
    obtain ⟨ln, hln⟩ : ∃ ln : Nat, n.p.len = ln := ⟨n.p.len.toNat, by omega⟩
    have hbl : (encL add (l.take i)).length ≤ 400000000 := by
      have := encL_le (add := add) (l := l.take i) fun m hm => by have := hok m hm; simp only [encOk, Bool.and_eq_true] at this; exact this.1.1
      rw [List.length_take] at this; omega
    have hsa := sz_ahead o0
    have i1 : (if add = true then be 4 n.id else []).length ≤ 4 := by split <;> simp [be_len]
    have i2 : (if labelF fam = true then be 3 (n.label * 16 + 1) else []).length ≤ 3 := by split <;> simp [be_len]
    have i3 : (if apartF fam = true then be 8 n.p.rd else []).length ≤ 8 := by split <;> simp [be_len]
    simp [t42, t2]
    refine cond_cut (fun t' h4 => EncT fam add h.next sl l.length i h'.next t' ∧ Buf h h.next (encL add (l.take i) ++ (if add = true then be 4 n.id else [])) h4 ∧ Keeps h.next h3 h4) (fun e R hR => ?_) (fun e R hR => ?_) ?_
    · subst e
      have w : IntKind.u64.wrap (n.id : Int) = n.id := u64_id (by have := fit.id; omega)
      obtain ⟨h4, p1, p2, p3⟩ := put1_ct B2 (x := n.id) (size := 4) (by omega) (by omega) (by have := fit.id; omega) (by omega)
      simp [t9, t11, c1, w]
      refine p1 _ ?_
      simp
      exact hR _ _ ⟨by simp [EncT, t1, t2, t8, t9, t11, t12, t17, t18, t19], by simpa using p2, p3⟩
    · subst e
      simp
      exact hR _ _ ⟨⟨t1, t2, t8, t9, t11, t12, t17, t18, t19⟩, by simpa using B2, Keeps.refl _ _⟩
    clear t1 t2 t8 t9 t11 t12 t17 t18 t19 t42
    rintro t' h4 ⟨⟨t1, t2, t8, t9, t11, t12, t17, t18, t19⟩, B4, k4⟩
    simp
    refine dreg_plain [(16, aheadP)] (plain1 aheadP_ok) (by rfl) ?_
    obtain ⟨d1, d2⟩ := hC h4 k4
    simp [pfxC] at d2
    have w1 : IntKind.i64.wrap ((ln : Int) + (aheadN fam : Nat)) = ((ln + aheadN fam : Nat) : Int) := by rw [wrap_i64_id (by omega) (by omega)]; omega
    have w2 : IntKind.u64.wrap ((ln : Int) + (aheadN fam : Nat)) = ((ln + aheadN fam : Nat) : Int) := by rw [← u64_id (n := ln + aheadN fam) (by omega)]; congr 1
    simp [t1, t9, t12, d2, hln, w1]
    obtain ⟨h5, p1, B5, k5⟩ := put1_ct B4 (x := ln + aheadN fam) (size := 1) (by omega) (by omega) (by omega) (by simp only [List.length_append]; omega)
    refine scall_of (v := .tup []) (h' := h5) (fun Q q => ?_) ?_
    · simp only [List.nil_append, w2]; exact p1 Q q
    obtain ⟨d1, d2⟩ := hC h5 (k4.trans k5)
    simp [nlC] at d1
    simp [t1]
    refine nlabel_ct _ ?_
    simp
    refine cond_cut (fun t' h6 => EncT fam add h.next sl l.length i h'.next t' ∧ Buf h h.next (((encL add (l.take i) ++ (if add = true then be 4 n.id else [])) ++ be 1 (ln + aheadN fam)) ++ (if labelF fam = true then be 3 (n.label * 16 + 1) else [])) h6 ∧ Keeps h.next h3 h6) (fun e R hR => ?_) (fun e R hR => ?_) ?_
    · have w3 : IntKind.u64.wrap (n.label : Int) = n.label := u64_id (by omega)
      have w4 : IntKind.u64.wrap ((n.label : Int) * 2 ^ min 4 IntKind.u64.bits) = ((n.label * 16 : Nat) : Int) := by simp [IntKind.wrap, IntKind.bits, IntKind.signed]; omega
      have w5 : intV .or .u64 ((n.label * 16 : Nat) : Int) 1 = some (.int .u64 ((n.label * 16 + 1 : Nat) : Int)) := by
        show some (V.int .u64 (IntKind.u64.wrap ((BitVec.ofInt 64 ((n.label * 16 : Nat) : Int) ||| BitVec.ofInt 64 1).toNat : Int))) = _
        rw [or_one _ (by omega), u64_id (by omega)]
      obtain ⟨h6, q1, q2, q3⟩ := put1_ct B5 (x := n.label * 16 + 1) (size := 3) (by omega) (by omega) (by omega) (by simp only [List.length_append, be_len]; omega)
      have w6 : intV .or .u64 ((n.label : Int) * 16) 1 = some (.int .u64 ((n.label * 16 + 1 : Nat) : Int)) := by rw [show (n.label : Int) * 16 = ((n.label * 16 : Nat) : Int) by omega]; exact w5
      have q1' : ∀ Q : V → H → Prop, Q (.tup []) h6 → Acalls Tryd.prog 23 [.int .u64 ((n.label : Int) * 16 + 1), .int .i64 3, .ptr h.next 1 0] h5 Q := fun Q q => by simpa using q1 Q q
      simp [t9, t11, d1, w3, w4, w6]
      refine q1' _ ?_
      simp
      exact hR _ _ ⟨by simp [EncT, t1, t2, t8, t9, t11, t12, t17, t18, t19], by simpa [e] using q2, (k4.trans k5).trans q3⟩
    · simp
      exact hR _ _ ⟨by simp [EncT, t1, t2, t8, t9, t11, t12, t17, t18, t19], by simpa [e] using B5, k4.trans k5⟩
    clear t1 t2 t8 t9 t11 t12 t17 t18 t19
    rintro t' h6 ⟨⟨t1, t2, t8, t9, t11, t12, t17, t18, t19⟩, B6, k6⟩
    obtain ⟨d1, d2⟩ := hC h6 k6
    simp [pfxC] at d2
    simp [t1]
    refine napart_ct _ ?_
    simp
    refine cond_cut (fun t' h7 => EncT fam add h.next sl l.length i h'.next t' ∧ Buf h h.next ((((encL add (l.take i) ++ (if add = true then be 4 n.id else [])) ++ be 1 (ln + aheadN fam)) ++ (if labelF fam = true then be 3 (n.label * 16 + 1) else [])) ++ (if apartF fam = true then be 8 n.p.rd else [])) h7 ∧ Keeps h.next h3 h7) (fun e R hR => ?_) (fun e R hR => ?_) ?_
    · obtain ⟨h7, q1, q2, q3⟩ := put1_ct B6 (x := n.p.rd) (size := 8) (by omega) (by omega) (by have := fit.rd; omega) (by simp only [List.length_append, be_len]; omega)
      simp [t9, t12, d2]
      refine q1 _ ?_
      simp
      exact hR _ _ ⟨by simp [EncT, t1, t2, t8, t9, t11, t12, t17, t18, t19], by simpa [e] using q2, k6.trans q3⟩
    · simp
      exact hR _ _ ⟨by simp [EncT, t1, t2, t8, t9, t11, t12, t17, t18, t19], by simpa [e] using B6, k6⟩
    clear t1 t2 t8 t9 t11 t12 t17 t18 t19
    rintro t' h7 ⟨⟨t1, t2, t8, t9, t11, t12, t17, t18, t19⟩, B7, k7⟩
    obtain ⟨d1, d2⟩ := hC h7 k7
    simp [pfxC] at d2
    have hwl : wholeN ln ≤ n.p.addr.length := by unfold wholeN; omega
    obtain ⟨v, v', d, r1, r2, r3, r4, r5, r6⟩ := B7.add (n.p.addr.take (wholeN ln)) (by simp only [List.length_append, be_len, List.length_take]; omega)
    have c1 := cellsAt_of r1 (n := 1) rfl
    have hso := solid_of_one r3
    have hce := cells_of_one r3
    simp at c1
    simp
    refine dreg_plain [(20, wholeP)] (plain1 wholeP_ok) (by rfl) ?_
    simp [t8, t12, c1, d2, hln, wholeP_eq (show ln < 1000000 by omega), hwl, r2, r4, hso, hce]
    simp [t19, hw]
    refine hK _ _ hlt ⟨by simp [t1, t2, t8, t9, t17, t18], ?_, ?_⟩
    · have e : encL add (l.take (i + 1)) = encL add (l.take i) ++ enc1 add n := by
        rw [List.take_succ_eq_append_getElem hlt, ← hn]; simp [encL]
      have e2 : enc1 add n = (if add = true then be 4 n.id else []) ++ be 1 (ln + aheadN fam) ++ (if labelF fam = true then be 3 (n.label * 16 + 1) else []) ++ (if apartF fam = true then be 8 n.p.rd else []) ++ n.p.addr.take (wholeN ln) := by
        simp only [enc1, hfam, hln, Int.toNat_natCast]
      rw [e, e2]
      simpa only [List.append_assoc] using r5
    · intro m hm
      rw [List.take_succ_eq_append_getElem hlt, ← hn] at hm
      rcases List.mem_append.1 hm with h1 | h1
      · exact hok m h1
      · rw [List.mem_singleton] at h1; rw [h1]; exact hE
  · have hi2 : i = l.length := by omega
    subst hi2
    obtain ⟨v, h1, h2⟩ := hb.at_
    have he := h2.elems
    have c1 := cellsAt_of h1 (n := 1) rfl
    simp at c1
    have hall : l.all (encOk fam add) = true := by rw [List.all_eq_true]; intro n hn; exact hok n (by rwa [List.take_length])
    rw [List.take_length] at he
    have hso : strOfV h'.get v = some (.str (encL add l)) := by
      rcases h2 with ⟨e1, rfl⟩ | ⟨_, j, _, _, rfl, _⟩
      · rw [List.take_length] at e1; rw [e1]; rfl
      · simp only [strOfV, he, mapM_u8]; rfl
    simp [t1, t8, t17, t18, t19, c1, hso, encS, z, hall]
    exact hb.ge
end Go.Am
