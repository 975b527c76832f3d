/-
  Contracts: Encode of the program.
-/
import Derived.Test.YtapokdcbhpdceaaO4
import Derived.Test.YtapokdcbhpdceaaAm20
namespace Go.Am
open Go.Proofs

def famsB : List Int → List UInt8
  | [] => []
  | f :: l => capB 1 (pairB f [0] []) ++ famsB l
/-- An open's numbers. -/
structure Opn.Ok (o : Opn) : Prop where
  a0 : 0 ≤ o.asn
  a1 : o.asn < 4294967296
  i0 : 0 ≤ o.id
  i1 : o.id < 4294967296
def cap1 (o : Opn) : List UInt8 := famsB o.fams ++ if o.refresh then capB 2 [] else []
def cap2 (o : Opn) : List UInt8 := cap1 o ++ if o.hasgr then capB 64 (be 2 (o.time.toNat + if o.again then 32768 else 0) ++ keptB o.kept) else []
def cap3 (o : Opn) : List UInt8 := cap2 o ++ if o.four then capB 65 (be 4 o.asn.toNat) else []
def capsB (o : Opn) : List UInt8 := cap3 o ++ if o.adds.isEmpty then [] else capB 69 (addsB o.adds)
def encB (o : Opn) : List UInt8 :=
  be 1 4 ++ be 2 (if 65535 < o.asn then 23456 else o.asn.toNat) ++ be 2 o.hold.toNat ++ be 4 o.id.toNat ++ be 1 ((capsB o).length + 2) ++ be 1 2 ++ be 1 (capsB o).length ++ capsB o

theorem rising_ok : ∀ (l : List Int) (last : Int), 0 ≤ last → last ≤ 5 → rising last l = true → (l.length : Int) ≤ 5 - last ∧ ∀ f ∈ l, fam5 f
  | [], last, _, h5, _ => ⟨by simp; omega, by simp⟩
  | f :: l, last, h0, h5, hr => by
    simp only [rising, Bool.and_eq_true, Bool.not_eq_true', Bool.or_eq_false_iff, decide_eq_false_iff_not] at hr
    obtain ⟨⟨h1, h2⟩, h3⟩ := hr
    have ih := rising_ok l f (by omega) (by omega) h3
    refine ⟨by simp; omega, fun x hx => ?_⟩
    rcases List.mem_cons.1 hx with rfl | hx
    · unfold fam5; omega
    · exact ih.2 x hx
/-- What a good open is. -/
structure Opn.Good (o : Opn) : Prop where
  f5 : o.fams.length ≤ 5
  ff : ∀ f ∈ o.fams, fam5 f
  fn : o.fams ≠ []
  a5 : o.adds.length ≤ 5
  af : ∀ x ∈ o.adds, fam5 x.fam
  k5 : o.kept.length ≤ 5
  kf : ∀ x ∈ o.kept, fam5 x.fam
  t0 : 0 ≤ o.time
  t1 : o.time ≤ 4095
  h0 : 0 ≤ o.hold
  h1 : o.hold ≤ 65535
theorem good_of {o : Opn} (h : checkB o = true) : o.Good := by
  simp only [checkB, Bool.not_eq_true', Bool.or_eq_false_iff, Bool.not_eq_false', decide_eq_false_iff_not] at h
  obtain ⟨⟨⟨⟨⟨⟨⟨⟨⟨⟨⟨⟨⟨⟨_, _⟩, h1⟩, _⟩, _⟩, h2⟩, _⟩, h3⟩, h4⟩, h5⟩, _⟩, _⟩, h6⟩, h7⟩, h8⟩ := h
  have r1 := rising_ok _ 0 (by omega) (by omega) h4
  have r2 := rising_ok _ 0 (by omega) (by omega) h5
  have r3 := rising_ok _ 0 (by omega) (by omega) h8
  refine ⟨by omega, r1.2, by intro e; rw [e] at h3; simp at h3, by have := r2.1; simp at this; omega, fun x hx => r2.2 _ (List.mem_map_of_mem hx), by have := r3.1; simp at this; omega, fun x hx => r3.2 _ (List.mem_map_of_mem hx), by omega, by omega, by omega, by omega⟩
theorem famsB_len : ∀ l : List Int, (famsB l).length = 6 * l.length
  | [] => rfl
  | f :: l => by simp [famsB, capB, be_len, pairB_len, famsB_len l]; omega
theorem keptB_len : ∀ l : List Rest, (keptB l).length = 4 * l.length
  | [] => rfl
  | x :: l => by
    have : (if x.kept = true then ([128] : List UInt8) else [0]).length = 1 := by split <;> rfl
    simp [keptB, pairB_len, keptB_len l, this]; omega
theorem addsB_len : ∀ l : List Add, (addsB l).length = 4 * l.length
  | [] => rfl
  | x :: l => by simp [addsB, pairB_len, be_len, addsB_len l]; omega
theorem cap_len {o : Opn} (g : o.Good) : (famsB o.fams).length ≤ 30 ∧ (cap1 o).length ≤ 32 ∧ (cap2 o).length ≤ 56 ∧ (cap3 o).length ≤ 62 ∧ (capsB o).length ≤ 84 := by
  have h1 := g.f5
  have h2 := g.a5
  have h3 := g.k5
  have c1 : (famsB o.fams).length ≤ 30 := by rw [famsB_len]; omega
  have c2 : (cap1 o).length ≤ 32 := by unfold cap1; split <;> simp [capB, be_len] <;> omega
  have c3 : (cap2 o).length ≤ 56 := by unfold cap2; split <;> simp [capB, be_len, keptB_len] <;> omega
  have c4 : (cap3 o).length ≤ 62 := by unfold cap3; split <;> simp [capB, be_len] <;> omega
  have c5 : (capsB o).length ≤ 84 := by unfold capsB; split <;> simp [capB, be_len, addsB_len] <;> omega
  exact ⟨c1, c2, c3, c4, c5⟩
theorem Fills.mono {h h' : H} {fv : V} {b : List UInt8} (f : Fills h fv b) (g : Ge h h') : Fills h' fv b := fun h1 j g1 hj => f h1 j (g.trans g1) (Nat.le_trans g.1 hj)

set_option maxRecDepth 100000 in
theorem encode_no {h : H} {o : Opn} {f a k : V} (ho : OpnAt h.get o f a k) (hc : checkB o = false) : Pure Try.prog 12 [opnV o f a k] h (.tup [.str [], .int .i64 2]) := by
  refine pure_to Try.func12 S.open_Encode_code S.open_Encode_enter rfl (Nat.le_of_ble_eq_true rfl) fun wf => ?_; simp only [S.open_Encode]
  have o1 := ho.fams.one
  have o2 := ho.adds.one
  have o3 := ho.kept.one
  simp [o1, o2, o3]
  refine check_ct (r := 2) (ho.ge wf (by simp)) (by simp [hc]) _ ?_
  simp
set_option maxRecDepth 100000 in
set_option maxHeartbeats 1000000 in
theorem encode_ok {h : H} {o : Opn} {f a k : V} (ho : OpnAt h.get o f a k) (hk : o.Ok) (hc : checkB o = true) : Pure Try.prog 12 [opnV o f a k] h (.tup [.str (encB o), .int .i64 0]) := by
  have gd := good_of hc
  obtain ⟨n0, n1, n2, n3, n4⟩ := cap_len gd
  refine pure_to Try.func12 S.open_Encode_code S.open_Encode_enter rfl (Nat.le_of_ble_eq_true rfl) fun wf => ?_; simp only [S.open_Encode]
  have o1 := ho.fams.one
  have o2 := ho.adds.one
  have o3 := ho.kept.one
  simp [o1, o2, o3]
  refine check_ct (r := 0) (ho.ge wf (by simp)) (by simp [hc]) _ ?_
  have b1 := ho.fams.bound
  have lf := ho.fams.lenG wf (n := o.fams.length) (by simp)
  have la := ho.adds.lenG wf (n := o.adds.length) (by simp)
  obtain ⟨hb, hhb⟩ : ∃ hb, hb = h.push (.row (opnC o f a k)) := ⟨_, rfl⟩
  have hbn : hb.next = h.next + 1 := by rw [hhb]; rfl
  have hbw : hb.WF := by rw [hhb]; exact wf.push _
  have gb : Ge h hb := by rw [hhb]; simp
  have hq : hb.get h.next = some (.row (opnC o f a k)) := by rw [hhb]; simp
  have ho' := ho.ge wf gb
  have lc : ∀ x, Ge hb x → cellsAt x.get h.next 11 = some (opnC o f a k) := fun x gx => by rw [gx.cells (by omega), cellsAt_of hq (by simp [opnC])]; rfl
  rw [show h.push (.row [.int .u32 o.asn, .int .i64 o.hold, .int .u32 o.id, f, .bool o.four, .bool o.refresh, a, .bool o.hasgr, .bool o.again, .int .i64 o.time, k]) = hb from hhb.symm]
  have gs : ∀ x, Ge hb ((hb.push (.row [.str []])).set (h.next + 1) x) := fun x => ((Ge.refl hb).push _).set (by omega) _
  obtain ⟨hB, hhB⟩ : ∃ hB, hB = hb.push (.row [.str []]) := ⟨_, rfl⟩
  have hBn : hB.next = h.next + 2 := by rw [hhB]; simp [hbn]
  rw [← hhB] at gs
  have cB : Laid hB (h.next + 1) [] := by rw [hhB]; simp [Laid, hbn]
  have g0 : Ge (hB.set (h.next + 1) (.row [.str []])) hB := ⟨Nat.le_refl _, fun i hi => by
    rw [H.get_set]; split
    · rename_i e; rw [e]; exact cB
    · rfl⟩
  simp [lc, gb, lf, opnC, hbn]
  rw [← hhB]
  have lcB : ∀ x y, Ge (hB.set (h.next + 1) x) y → cellsAt y.get h.next 11 = some (opnC o f a k) := fun x y gx => lc y ((gs x).trans gx)
  have lsB : ∀ s y, Ge (hB.set (h.next + 1) (.row [.str s])) y → Laid y (h.next + 1) s := fun s y gx => gx.get_set (by omega)
  obtain ⟨A0, hA0⟩ : ∃ x, x = famsB o.fams := ⟨_, rfl⟩
  refine loop_up (fun i t h' => ∃ acc : List UInt8, (t 1 = .ptr h.next 11 0 ∧ t 4 = .ptr (h.next + 1) 1 0 ∧ t 12 = f ∧ t 13 = .int .i64 o.fams.length ∧ t 14 = .int .i64 i) ∧ Ge (hB.set (h.next + 1) (.row [.str acc])) h' ∧ acc.length ≤ 6 * i ∧ acc ++ famsB (o.fams.drop i) = A0) o.fams.length ⟨[], by simp, g0, by simp, by simp [hA0]⟩ ?_
  rintro i t h' hi ⟨acc, ⟨h1, h4, h12, h13, h14⟩, hg, hal, hacc⟩ K hK
  have hG : Ge h h' := (gb.trans (gs _)).trans hg
  have hn := hg.1
  simp [hBn] at hn
  have hf5 := gd.f5
  by_cases hlt : i < o.fams.length
  · obtain ⟨p, q2, po, cs, e1, hp, e2, e3⟩ := ho.fams.at1G wf hlt
    have e2 := e2 _ hG
    have hw := wrap_succ hlt (by simpa using b1)
    have hfi := gd.ff o.fams[i] (List.getElem_mem hlt)
    rw [List.drop_eq_getElem_cons hlt, famsB] at hacc
    simp [h4, h12, h13, h14, hlt, e1, e2, e3]
    refine lcap_ct (b := acc) (body := pairB o.fams[i] [0] []) (i := h.next + 1) ?_ 1 rfl (by omega) (fill1 hfi ?_ ?_) (by simp [pairB_len]) (by omega) fun h2 g2 => ?_
    · simp [Laid, show ¬ h.next + 1 = h'.next by omega]; exact lsB _ _ hg
    · simp
    · simp
    · simp [h14, hw]
      refine hK _ _ hlt ⟨acc ++ capB 1 (pairB o.fams[i] [0] []), by simp [h1, h4, h12, h13], ?_, by simp [capB, be_len, pairB_len]; omega, by rw [← hacc]; simp⟩
      exact (Ge.set_same ((hg.push _).set (by simp [hBn]; omega) _)).trans g2
  · simp [h1, h13, h14, hlt]
    have hA : acc = A0 := by rw [← hacc, List.drop_of_length_le (by omega)]; simp [famsB]
    subst hA
    have nA : acc.length ≤ 30 := by rw [hA0]; omega
    clear hK hacc hal hlt
    simp [lcB _ _ hg, opnC]
    refine cond_cut (fun t' h' => (t' 1 = .ptr h.next 11 0 ∧ t' 4 = .ptr (h.next + 1) 1 0) ∧ Ge (hB.set (h.next + 1) (.row [.str (cap1 o)])) h') (fun e R hR => ?_) (fun e R hR => ?_) ?_
    · simp [h4]
      refine lcap_ct (lsB _ _ hg) 2 rfl (by omega) fill2 (by simp) (by omega) fun h2 g2 => ?_
      simp
      refine hR _ _ ⟨by simp [h1, h4], ?_⟩
      rw [hA0, show famsB o.fams ++ capB 2 [] = cap1 o by simp [cap1, e]] at g2
      exact (Ge.set_same hg).trans g2
    · simp
      refine hR _ _ ⟨⟨h1, h4⟩, ?_⟩
      rwa [show cap1 o = acc by simp [cap1, e, hA0]]
    clear h1 h4 h12 h13 h14 hG hn hg hi i t h'
    rintro t h' ⟨⟨h1, h4⟩, hg⟩
    simp [h1, lcB _ _ hg, opnC]
    refine cond_cut (fun t' h' => (t' 1 = .ptr h.next 11 0 ∧ t' 4 = .ptr (h.next + 1) 1 0) ∧ Ge (hB.set (h.next + 1) (.row [.str (cap2 o)])) h') (fun e R hR => ?_) (fun e R hR => ?_) ?_
    · simp [h1, h4]
      refine lcap_ct (lsB _ _ hg) 64 rfl (by omega) ((fill3 hbw hq (by omega) ho'.kept o.time.toNat (by have := gd.t0; omega) (by have := gd.t1; omega) gd.k5 gd.kf).mono ((gs _).trans hg)) ?_ (by omega) fun h2 g2 => ?_
      · have := gd.k5; simp [be_len, keptB_len]; omega
      simp
      refine hR _ _ ⟨by simp [h1, h4], ?_⟩
      have g3 := (Ge.set_same hg).trans g2
      rwa [show cap2 o = cap1 o ++ capB 64 (be 2 (o.time.toNat + if o.again then 32768 else 0) ++ keptB o.kept) by simp [cap2, e]]
    · simp
      refine hR _ _ ⟨⟨h1, h4⟩, ?_⟩
      rwa [show cap2 o = cap1 o by simp [cap2, e]]
    clear h1 h4 hg t h'
    rintro t h' ⟨⟨h1, h4⟩, hg⟩
    simp [h1, lcB _ _ hg, opnC]
    refine cond_cut (fun t' h' => (t' 1 = .ptr h.next 11 0 ∧ t' 4 = .ptr (h.next + 1) 1 0) ∧ Ge (hB.set (h.next + 1) (.row [.str (cap3 o)])) h') (fun e R hR => ?_) (fun e R hR => ?_) ?_
    · simp [h1, h4]
      refine lcap_ct (lsB _ _ hg) 65 rfl (by omega) ((fill4 hq (by omega) o.asn.toNat (by have := hk.a0; omega) (by have := hk.a1; omega)).mono ((gs _).trans hg)) (by simp [be_len]) (by omega) fun h2 g2 => ?_
      simp
      refine hR _ _ ⟨by simp [h1, h4], ?_⟩
      have g3 := (Ge.set_same hg).trans g2
      rwa [show cap3 o = cap2 o ++ capB 65 (be 4 o.asn.toNat) by simp [cap3, e]]
    · simp
      refine hR _ _ ⟨⟨h1, h4⟩, ?_⟩
      rwa [show cap3 o = cap2 o by simp [cap3, e]]
    clear h1 h4 hg t h'
    rintro t h' ⟨⟨h1, h4⟩, hg⟩
    have hGh : Ge h h' := (gb.trans (gs _)).trans hg
    simp [h1, lcB _ _ hg, opnC, la, hGh]
    refine cond_cut (fun t' h' => (t' 1 = .ptr h.next 11 0 ∧ t' 4 = .ptr (h.next + 1) 1 0) ∧ Ge (hB.set (h.next + 1) (.row [.str (capsB o)])) h') (fun e R hR => ?_) (fun e R hR => ?_) ?_
    · simp [h1, h4]
      refine lcap_ct (lsB _ _ hg) 69 rfl (by omega) ((fill5 hbw hq (by omega) ho'.adds gd.a5 gd.af).mono ((gs _).trans hg)) ?_ (by omega) fun h2 g2 => ?_
      · have := gd.a5; simp [addsB_len]; omega
      simp
      refine hR _ _ ⟨by simp [h1, h4], ?_⟩
      have g3 := (Ge.set_same hg).trans g2
      have he : o.adds.isEmpty = false := by cases hx : o.adds <;> simp [hx] at e ⊢
      rwa [show capsB o = cap3 o ++ capB 69 (addsB o.adds) by simp only [capsB, he]; rfl]
    · simp
      refine hR _ _ ⟨by simp [h1, h4], ?_⟩
      have he : o.adds.isEmpty = true := by cases hx : o.adds <;> simp [hx] at e ⊢
      rwa [show capsB o = cap3 o by simp only [capsB, he]; simp]
    clear h1 h4 hg hGh t h'
    rintro t h' ⟨⟨h1, h4⟩, hg⟩
    have hGh : Ge h h' := (gb.trans (gs _)).trans hg
    have hn := hg.1
    simp [hBn] at hn
    have cs4 := lsB _ _ hg
    have cs1 := lc _ ((gs _).trans hg)
    have c4 : cellsAt h'.get (h.next + 1) 1 = some [.str (capsB o)] := by rw [cellsAt_of cs4 (by simp)]; rfl
    have na : ¬ h.next = h'.next := by omega
    have nb : ¬ h.next + 1 = h'.next := by omega
    have k0 := hk.a0
    have k1 := hk.a1
    have k2 := hk.i0
    have k3 := hk.i1
    have k4 := gd.h0
    have k5 := gd.h1
    have w1 : IntKind.u64.wrap o.asn = o.asn := by simp [IntKind.wrap, IntKind.bits, IntKind.signed]; omega
    have w2 : IntKind.u64.wrap o.hold = o.hold := by simp [IntKind.wrap, IntKind.bits, IntKind.signed]; omega
    have w3 : IntKind.u64.wrap o.id = o.id := by simp [IntKind.wrap, IntKind.bits, IntKind.signed]; omega
    have w4 : IntKind.i64.wrap ((capsB o).length + 2) = (capsB o).length + 2 := wrap_i64_id (by omega) (by omega)
    have w5 : IntKind.u64.wrap ((capsB o).length + 2) = (capsB o).length + 2 := by simp [IntKind.wrap, IntKind.bits, IntKind.signed]; omega
    have w6 : IntKind.u64.wrap ((capsB o).length : Int) = (capsB o).length := by simp [IntKind.wrap, IntKind.bits, IntKind.signed]; omega
    simp
    refine lput_ct (b := []) (by simp [Laid]) 4 1 rfl rfl (by omega) (by omega) (by simp) ?_
    simp [h1, cs1, opnC, na]
    refine cond_cut (fun t' h2 => (t' 1 = .ptr h.next 11 0 ∧ t' 4 = .ptr (h.next + 1) 1 0 ∧ t' 7 = .ptr h'.next 1 0) ∧ h2 = (h'.push (.row [.str []])).set h'.next (.row [.str (be 1 4 ++ be 2 (if 65535 < o.asn then 23456 else o.asn.toNat))])) (fun e R hR => ?_) (fun e R hR => ?_) ?_
    · simp at e
      simp
      refine lput_ct laid_set 23456 2 rfl rfl (by omega) (by omega) (by simp [be_len]) ?_
      simp
      exact hR _ _ ⟨by simp [h1, h4], by simp [e]⟩
    · simp at e
      simp [h1, cs1, opnC, na, w1]
      refine lput_ct laid_set o.asn.toNat 2 (by omega) rfl (by omega) (by omega) (by simp [be_len]) ?_
      simp
      exact hR _ _ ⟨by simp [h1, h4], by simp [show ¬ 65535 < o.asn by omega]⟩
    clear h1 h4 t
    rintro t _ ⟨⟨h1, h4, h7⟩, rfl⟩
    simp [h1, h7, cs1, opnC, na, w2]
    refine lput_ct laid_set o.hold.toNat 2 (by omega) rfl (by omega) (by omega) (by simp [be_len]) ?_
    simp [h1, h7, cs1, opnC, na, w3]
    refine lput_ct laid_set o.id.toNat 4 (by omega) rfl (by omega) (by omega) (by simp [be_len]) ?_
    simp [h4, h7, c4, nb, w4, w5]
    refine lput_ct laid_set ((capsB o).length + 2) 1 (by omega) rfl (by omega) (by omega) (by simp [be_len]) ?_
    simp [h7]
    refine lput_ct laid_set 2 1 rfl rfl (by omega) (by omega) (by simp [be_len]) ?_
    simp [h4, h7, c4, nb, w6]
    refine lput_ct laid_set (capsB o).length 1 rfl rfl (by omega) (by omega) (by simp [be_len]) ?_
    have nf : 1 + (2 + (2 + (4 + (1 + (1 + 1))))) + (capsB o).length ≤ 9223372036854775807 := by omega
    simp [h4, h7, c4, nb, be_len, nf]
    exact ⟨by simp [encB], (hGh.push _).set (by omega) _⟩
end Go.Am
