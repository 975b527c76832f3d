/-
  Contracts: Encode of the reference.
-/
import Derived.Test.YtapokdcbhpdceaaO5
namespace Go.Am
open Go.Proofs

set_option maxRecDepth 100000 in
theorem rencode_no {h : H} {o : Opn} {f a k : V} (ho : OpnAt h.get o f a k) (hc : checkB o = false) : Pure Try.prog 13 [opnV o f a k] h (.tup [.str [], .int .i64 2]) := by
  refine pure_to Try.func13 S.Href10_Encode_code S.Href10_Encode_enter rfl (Nat.le_of_ble_eq_true rfl) fun wf => ?_; simp only [S.Href10_Encode]
  have o1 := ho.fams.one
  have o2 := ho.adds.one
  have o3 := ho.kept.one
  simp [o1, o2, o3]
  refine rcheck_ct (r := 2) (ho.ge wf (by simp)) (by simp [hc]) _ ?_
  simp
set_option maxRecDepth 100000 in
set_option maxHeartbeats 1000000 in
theorem rencode_ok {h : H} {o : Opn} {f a k : V} (ho : OpnAt h.get o f a k) (hk : o.Ok) (hc : checkB o = true) : Pure Try.prog 13 [opnV o f a k] h (.tup [.str (encB o), .int .i64 0]) := by
  have gd := good_of hc
  obtain ⟨n0, n1, n2, n3, n4⟩ := cap_len gd
  refine pure_to Try.func13 S.Href10_Encode_code S.Href10_Encode_enter rfl (Nat.le_of_ble_eq_true rfl) fun wf => ?_; simp only [S.Href10_Encode]
  have o1 := ho.fams.one
  have o2 := ho.adds.one
  have o3 := ho.kept.one
  simp [o1, o2, o3]
  refine rcheck_ct (r := 0) (ho.ge wf (by simp)) (by simp [hc]) _ ?_
  have b1 := ho.fams.bound
  have b2 := ho.adds.bound
  have b3 := ho.kept.bound
  have hf5 := gd.f5
  have ha5 := gd.a5
  have hk5 := gd.k5
  obtain ⟨hb, hhb⟩ : ∃ hb, hb = h.push (.row (opnC o f a k)) := ⟨_, rfl⟩
  have gb : Ge h hb := by rw [hhb]; simp
  have wb : hb.WF := by rw [hhb]; exact wf.push _
  have lf := ho.fams.lenG wf (n := o.fams.length) (by simp) hb gb
  have la := ho.adds.lenG wf (n := o.adds.length) (by simp) hb gb
  have lk := ho.kept.lenG wf (n := o.kept.length) (by simp) hb gb
  have lc : cellsAt hb.get h.next 11 = some (opnC o f a k) := by rw [hhb]; simp [opnC]
  simp only [opnC] at lc
  rw [show h.push (.row [.int .u32 o.asn, .int .i64 o.hold, .int .u32 o.id, f, .bool o.four, .bool o.refresh, a, .bool o.hasgr, .bool o.again, .int .i64 o.time, k]) = hb from hhb.symm]
  simp
  obtain ⟨A0, hA0⟩ : ∃ x, x = famsB o.fams := ⟨_, rfl⟩
  refine loop_up (fun i t h' => ∃ acc : List UInt8, (t 1 = .ptr h.next 11 0 ∧ t 4 = .str acc ∧ t 5 = .int .i64 i) ∧ hb = h' ∧ acc.length ≤ 6 * i ∧ acc ++ famsB (o.fams.drop i) = A0) o.fams.length ⟨[], by simp, rfl, by simp, by simp [hA0]⟩ ?_
  rintro i t _ hi ⟨acc, ⟨h1, h4, h5⟩, rfl, hal, hacc⟩ K hK
  by_cases hlt : i < o.fams.length
  · obtain ⟨p, q2, po, cs, e1, hp, e2, e3⟩ := ho.fams.at1G wf hlt
    have e2 := e2 _ gb
    have hw := wrap_succ hlt (by simpa using b1)
    have hfi := gd.ff o.fams[i] (List.getElem_mem hlt)
    rw [List.drop_eq_getElem_cons hlt, famsB] at hacc
    simp [h1, h4, h5, lc, lf, hlt, e1, e2, e3]
    refine rpair_ct hfi (by simp) (by simp) _ ?_
    simp
    refine rcap_ct (code := 1) (by omega) (by simp [pairB_len]) _ ?_
    have nl : acc.length + (capB 1 (pairB o.fams[i] [0] [])).length ≤ 9223372036854775807 := by simp [capB, be_len, pairB_len]; omega
    simp [h5, nl]
    exact hK _ _ hlt ⟨acc ++ capB 1 (pairB o.fams[i] [0] []), by simp [h1, hw], rfl, by simp [capB, be_len, pairB_len]; omega, by rw [← hacc]; simp⟩
  · simp [h1, h5, lc, lf, hlt]
    have hA : acc = A0 := by rw [← hacc, List.drop_of_length_le (by omega)]; simp [famsB]
    subst hA
    have nA : acc.length ≤ 30 := by rw [hA0]; omega
    clear hK hacc hal hlt
    refine cond_cut (fun t' h' => (t' 1 = .ptr h.next 11 0 ∧ t' 4 = .str (cap1 o)) ∧ hb = h') (fun e R hR => ?_) (fun e R hR => ?_) ?_
    · simp [h4]
      refine rcap_ct (code := 2) (by omega) (by simp) _ ?_
      have nl : acc.length + (capB 2 []).length ≤ 9223372036854775807 := by simp [capB, be_len]; omega
      simp [nl]
      exact hR _ _ ⟨by simp [h1, cap1, e, hA0], rfl⟩
    · simp
      exact hR _ _ ⟨by simp [h1, h4, cap1, e, hA0], rfl⟩
    clear h1 h4 h5 hi i t
    rintro t _ ⟨⟨h1, h4⟩, rfl⟩
    simp [h1, lc]
    refine cond_cut (fun t' h' => (t' 1 = .ptr h.next 11 0 ∧ t' 4 = .str (cap2 o)) ∧ hb = h') (fun e R hR => ?_) (fun e R hR => ?_) ?_
    · have t0 := gd.t0
      have t1 := gd.t1
      simp [h1, lc]
      obtain ⟨N, hN⟩ : ∃ N, N = o.time.toNat + if o.again then 32768 else 0 := ⟨_, rfl⟩
      have hN2 : N < 65536 := by rw [hN]; split <;> omega
      obtain ⟨B, hB⟩ : ∃ B, B = be 2 N ++ keptB o.kept := ⟨_, rfl⟩
      have hBl : B.length ≤ 22 := by rw [hB]; simp [be_len, keptB_len]; omega
      refine cond_cut (fun t' h' => (t' 1 = .ptr h.next 11 0 ∧ t' 4 = .str (cap1 o) ∧ t' 6 = .int .i64 N) ∧ hb = h') (fun e2 R2 hR2 => ?_) (fun e2 R2 hR2 => ?_) ?_
      · have w : IntKind.i64.wrap (o.time + 32768) = N := by rw [wrap_i64_id (by omega) (by omega), hN, e2]; simp; omega
        simp [w]
        exact hR2 _ _ ⟨by simp [h1, h4], rfl⟩
      · simp
        exact hR2 _ _ ⟨by simp [h1, h4, hN, e2]; omega, rfl⟩
      clear h1 h4 t
      rintro t _ ⟨⟨h1, h4, h6⟩, rfl⟩
      simp [h6]
      refine num_ct N 2 rfl rfl (by omega) (by omega) _ ?_
      simp
      refine loop_up (fun i t h' => ∃ acc : List UInt8, (t 1 = .ptr h.next 11 0 ∧ t 4 = .str (cap1 o) ∧ t 7 = .str acc ∧ t 8 = .int .i64 i) ∧ hb = h' ∧ acc.length ≤ 2 + 4 * i ∧ acc ++ keptB (o.kept.drop i) = B) o.kept.length ⟨be 2 N, by simp [h1, h4], rfl, by simp [be_len], by simp [hB]⟩ ?_
      clear h1 h4 h6 t
      rintro i t _ hi ⟨ac, ⟨h1, h4, h7, h8⟩, rfl, hal, hac⟩ K hK
      by_cases hlt : i < o.kept.length
      · obtain ⟨p, q2, po, cs, e1, hp, e2, _, _, e5⟩ := ho.kept.atG wf (k := i) (by simpa using hlt)
        have e2 := e2 _ gb
        have e6 := e5 0 (by omega)
        have e7 := e5 1 (by omega)
        have hw := wrap_succ hlt (by simpa using b3)
        have hfi := gd.kf o.kept[i] (List.getElem_mem hlt)
        rw [List.drop_eq_getElem_cons hlt, keptB] at hac
        simp at e6 e7
        simp [h1, h8, lc, lk, hlt, e1, e2, e7]
        (first | refine guard_split ?_ ?_ | refine cond_split ?_ ?_ | refine sguard_split ?_ ?_) <;> intro e8 <;> (try simp only [Bool.not_true, Bool.not_false] at e8) <;> simp [e8, h1, h7, h8, lc, e1, e2, e6]
        · refine rpair_ct hfi (by simp) (by simp) _ ?_
          have nl : ac.length + (pairB o.kept[i].fam [] [128]).length ≤ 9223372036854775807 := by simp [pairB_len]; omega
          simp [h8, nl]
          exact hK _ _ hlt ⟨ac ++ pairB o.kept[i].fam [] [128], by simp [h1, h4, hw], rfl, by simp [pairB_len]; omega, by rw [← hac, e8]; simp⟩
        · refine rpair_ct hfi (by simp) (by simp) _ ?_
          have nl : ac.length + (pairB o.kept[i].fam [] [0]).length ≤ 9223372036854775807 := by simp [pairB_len]; omega
          simp [h8, nl]
          exact hK _ _ hlt ⟨ac ++ pairB o.kept[i].fam [] [0], by simp [h1, h4, hw], rfl, by simp [pairB_len]; omega, by rw [← hac, e8]; simp⟩
      · simp [h1, h4, h7, h8, lc, lk, hlt]
        have hAB : ac = B := by rw [← hac, List.drop_of_length_le (by omega)]; simp [keptB]
        subst hAB
        refine rcap_ct (code := 64) (by omega) (by omega) _ ?_
        have nl : (cap1 o).length + (capB 64 ac).length ≤ 9223372036854775807 := by simp [capB, be_len]; omega
        simp [nl]
        exact hR _ _ ⟨by simp [h1, cap2, e, hB, hN], rfl⟩
    · simp
      exact hR _ _ ⟨by simp [h1, h4, cap2, e], rfl⟩
    clear h1 h4 t
    rintro t _ ⟨⟨h1, h4⟩, rfl⟩
    simp [h1, lc]
    refine cond_cut (fun t' h' => (t' 1 = .ptr h.next 11 0 ∧ t' 4 = .str (cap3 o)) ∧ hb = h') (fun e R hR => ?_) (fun e R hR => ?_) ?_
    · have k0 := hk.a0
      have k1 := hk.a1
      have w : IntKind.i64.wrap o.asn = o.asn := wrap_i64_id (by omega) (by omega)
      simp [h1, h4, lc, w]
      refine num_ct o.asn.toNat 4 (by omega) rfl (by omega) (by omega) _ ?_
      simp
      refine rcap_ct (code := 65) (by omega) (by simp [be_len]) _ ?_
      have nl : (cap2 o).length + (capB 65 (be 4 o.asn.toNat)).length ≤ 9223372036854775807 := by simp [capB, be_len]; omega
      simp [nl]
      exact hR _ _ ⟨by simp [h1, cap3, e], rfl⟩
    · simp
      exact hR _ _ ⟨by simp [h1, h4, cap3, e], rfl⟩
    clear h1 h4 t
    rintro t _ ⟨⟨h1, h4⟩, rfl⟩
    simp
    obtain ⟨B, hB⟩ : ∃ B, B = addsB o.adds := ⟨_, rfl⟩
    have hBl : B.length ≤ 20 := by rw [hB, addsB_len]; omega
    refine loop_up (fun i t h' => ∃ acc : List UInt8, (t 1 = .ptr h.next 11 0 ∧ t 4 = .str (cap3 o) ∧ t 9 = .str acc ∧ t 10 = .int .i64 i) ∧ hb = h' ∧ acc.length ≤ 4 * i ∧ acc ++ addsB (o.adds.drop i) = B) o.adds.length ⟨[], by simp [h1, h4], rfl, by simp, by simp [hB]⟩ ?_
    clear h1 h4 t
    rintro i t _ hi ⟨ac, ⟨h1, h4, h9, h10⟩, rfl, hal, hac⟩ K hK
    by_cases hlt : i < o.adds.length
    · obtain ⟨p, q2, po, cs, e1, hp, e2, _, _, e5⟩ := ho.adds.atG wf (k := i) (by simpa using hlt)
      have e2 := e2 _ gb
      have e6 := e5 0 (by omega)
      have e7 := e5 1 (by omega)
      have e8 := e5 2 (by omega)
      have hw := wrap_succ hlt (by simpa using b2)
      have hfi := gd.af o.adds[i] (List.getElem_mem hlt)
      rw [List.drop_eq_getElem_cons hlt, addsB] at hac
      simp at e6 e7 e8
      obtain ⟨N, hN⟩ : ∃ N, N = ((if o.adds[i].take then 1 else 0) + (if o.adds[i].send then 2 else 0)) := ⟨_, rfl⟩
      rw [← hN] at hac
      have hN3 : N < 4 := by rw [hN]; split <;> split <;> omega
      have w3 : IntKind.i64.wrap 3 = 3 := by decide
      have w2 : IntKind.i64.wrap 2 = 2 := by decide
      have key : ∀ t', t' 1 = .ptr h.next 11 0 → t' 4 = .str (cap3 o) → t' 9 = .str ac → t' 10 = .int .i64 i → t' 11 = .int .i64 N → ∀ (R : Exit → Tm → H → Prop), (∀ t2, t2 1 = .ptr h.next 11 0 → t2 4 = .str (cap3 o) → t2 10 = .int .i64 i → t2 9 = .str (ac ++ pairB o.adds[i].fam [] (be 1 N)) → R .normal t2 hb) → Cwp Try.prog (C.dreg [(2, 8), (6, 8)] [SI.mk (some 113) none (X.op (I.mov (A.t 9))), SI.mk (some 114) none (X.op (I.fieldAddr 6 (A.t 1))), SI.mk (some 115) none (X.op (I.load false 1 (A.t 114))), SI.mk (some 116) none (X.op (I.mov (A.t 10))), SI.mk (some 117) none (X.op (I.indexAddr 3 (A.t 115) (A.t 116))), SI.mk (some 118) none (X.op (I.fieldAddr 0 (A.t 117))), SI.mk (some 119) none (X.op (I.load false 1 (A.t 118))), SI.mk (some 120) none (X.op (I.mov (A.t 11))), SI.mk (some 121) none (X.call (A.c (V.func (Fn.func 44) [] [])) [A.t 120, A.c (V.int IntKind.i64 1)]), SI.mk (some 122) none (X.call (A.c (V.func (Fn.func 43) [] [])) [A.t 119, A.c (V.str []), A.t 121]), SI.mk (some 123) none (X.op (I.bin BinOp.add (A.t 113) (A.t 122))), SI.mk (some 9) none (X.op (I.mov (A.t 123)))]) R t' hb := by
        intro t' a1 a4 a9 a10 a11 R hR
        refine dreg_quiet wb ?_
        simp [a1, a9, a10, a11, lc, e1, e2, e6]
        refine qcall_of rfl (fun h2 _ => num_ct N 1 rfl rfl (by omega) (by omega)) ?_
        simp
        refine qcall_of rfl (fun h2 _ => rpair_ct hfi (by simp) (by simp [be_len])) ?_
        have nl : ac.length + (pairB o.adds[i].fam [] (be 1 N)).length ≤ 9223372036854775807 := by simp [pairB_len, be_len]; omega
        simp [nl]
        exact hR _ (by simp [a1]) (by simp [a4]) (by simp [a10]) (by simp)
      simp [h1, h10, lc, la, hlt, e1, e2, e8]
      cases ht : o.adds[i].take <;> cases hs : o.adds[i].send <;> rw [ht, hs] at hN <;> simp [h1, h10, lc, e1, e2, e7, hs, w2, w3]
      all_goals
        refine key _ (by simp [h1]) (by simp [h4]) (by simp [h9]) (by simp [h10]) (by simp [hN]) _ fun t2 c1 c4 c10 c9 => ?_
        simp [c10]
        exact hK _ _ hlt ⟨ac ++ pairB o.adds[i].fam [] (be 1 N), by simp [c1, c4, c9, hw], rfl, by simp [pairB_len, be_len]; omega, by rw [← hac]; simp⟩
    · simp [h1, h9, h10, lc, la, hlt]
      have hAB : ac = B := by rw [← hac, List.drop_of_length_le (by omega)]; simp [addsB]
      subst hAB
      clear hK hac hal hlt
      refine cond_cut (fun t' h' => (t' 1 = .ptr h.next 11 0 ∧ t' 4 = .str (capsB o)) ∧ hb = h') (fun e R hR => ?_) (fun e R hR => ?_) ?_
      · simp [h4, h9]
        refine rcap_ct (code := 69) (by omega) (by omega) _ ?_
        have nl : (cap3 o).length + (capB 69 ac).length ≤ 9223372036854775807 := by simp [capB, be_len]; omega
        simp [nl]
        have he : o.adds.isEmpty = false := by
          cases hx : o.adds with
          | nil => rw [hB, hx] at e; simp [addsB] at e
          | cons _ _ => rfl
        exact hR _ _ ⟨by simp [h1, capsB, he, hB], rfl⟩
      · simp
        have he : o.adds.isEmpty = true := by
          cases hx : o.adds with
          | nil => rfl
          | cons _ _ =>
            have : ac = [] := by simpa using e
            have := congrArg List.length this
            rw [hB, addsB_len, hx] at this; simp at this
        exact hR _ _ ⟨by simp [h1, h4, capsB, he], rfl⟩
      clear h1 h4 h9 h10 hi i t
      rintro t _ ⟨⟨h1, h4⟩, rfl⟩
      have k0 := hk.a0
      have k1 := hk.a1
      have k2 := hk.i0
      have k3 := hk.i1
      have k4 := gd.h0
      have k5 := gd.h1
      have w : IntKind.i64.wrap o.asn = o.asn := wrap_i64_id (by omega) (by omega)
      have w9 : IntKind.i64.wrap o.id = o.id := wrap_i64_id (by omega) (by omega)
      simp [h1, lc, w]
      refine cond_cut (fun t' h' => (t' 1 = .ptr h.next 11 0 ∧ t' 4 = .str (capsB o) ∧ t' 12 = .int .i64 ((if 65535 < o.asn then 23456 else o.asn.toNat : Nat) : Int)) ∧ hb = h') (fun e R hR => ?_) (fun e R hR => ?_) ?_
      · simp at e
        simp
        exact hR _ _ ⟨by simp [h1, h4, e], rfl⟩
      · simp at e
        simp
        refine hR _ _ ⟨⟨by simp [h1], by simp [h4], ?_⟩, rfl⟩
        simp [show ¬ 65535 < o.asn by omega]; omega
      clear h1 h4 t
      rintro t _ ⟨⟨h1, h4, h12⟩, rfl⟩
      have hcn : capsB o ≠ [] := by
        intro e0
        have := congrArg List.length e0
        have hfn := gd.fn
        have : 0 < (capsB o).length := by
          have : 0 < o.fams.length := List.length_pos_iff.2 hfn
          simp only [capsB, cap3, cap2, cap1, List.length_append, famsB_len]; omega
        rw [e0] at this; simp at this
      have hcn2 : (capsB o == []) = false := by simpa using hcn
      simp [h4, hcn2]
      refine num_ct (capsB o).length 1 rfl rfl (by omega) (by omega) _ ?_
      have nl1 : 1 + (be 1 (capsB o).length).length ≤ 9223372036854775807 := by simp [be_len]
      have nl2 : 1 + (be 1 (capsB o).length).length + (capsB o).length ≤ 9223372036854775807 := by simp [be_len]; omega
      have nl3 : 2 + (capsB o).length ≤ 9223372036854775807 := by omega
      simp [h4, be_len, nl3]
      refine dreg_quiet wb ?_
      obtain ⟨A, hA⟩ : ∃ A, A = (if 65535 < o.asn then 23456 else o.asn.toNat) := ⟨_, rfl⟩
      have hA2 : A < 65536 := by rw [hA]; split <;> omega
      rw [← hA] at h12
      simp [h12]
      refine qcall_of rfl (fun h2 _ => num_ct A 2 rfl rfl (by omega) (by omega)) ?_
      simp [h1, lc, be_len]
      refine qcall_of rfl (fun h2 _ => num_ct o.hold.toNat 2 (by omega) rfl (by omega) (by omega)) ?_
      simp [h1, lc, be_len, w9]
      refine qcall_of rfl (fun h2 _ => num_ct o.id.toNat 4 (by omega) rfl (by omega) (by omega)) ?_
      simp [be_len]
      refine qcall_of rfl (fun h2 _ => num_ct ((capsB o).length + 2) 1 (by simp; omega) rfl (by omega) (by omega)) ?_
      have nl4 : 1 + 1 + (2 + (2 + 4)) + (2 + (capsB o).length) ≤ 9223372036854775807 := by omega
      have nl5 : 10 + (1 + (capsB o).length + 1) ≤ 9223372036854775807 := by omega
      have nl6 : 12 + (capsB o).length ≤ 9223372036854775807 := by omega
      have eb : be 1 4 = [4] := rfl
      have eb2 : be 1 2 = [2] := rfl
      simp [be_len, nl5]
      refine ⟨by simp [encB, eb, eb2, ← hA], ?_⟩
      exact gb
end Go.Am
