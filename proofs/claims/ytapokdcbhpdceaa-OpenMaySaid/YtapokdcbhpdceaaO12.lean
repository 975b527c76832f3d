/-
  Contracts: what two agree upon: Agree.
-/
import Derived.Test.YtapokdcbhpdceaaO11
import Derived.Test.YtapokdcbhpdceaaAm25
namespace Go.Am
open Go.Proofs

theorem both_ev {h : H} (wf : h.WF) {get : Nat → Option O} {k e : Nat} {a b fv : V} {la lb : List Add} {fl : List Int} {s : Nat} {cs : List V} (ha : Adds h.get a la) (hb : Adds h.get b lb) (hs : h.get s = some (.row cs)) (hcl : cs.length = 10) (hfv : cs[1]? = some fv) (hf : Ints h.get fv fl) (h5 : fl.length ≤ 1000)
    (hk : k + room ≤ e) (hn : h.next ≤ e) (hg : ∀ i, i < h.next → get i = h.get i) :
    callEv Try.prog (.func (.func 67) [] [.ptr s 10 0]) [a, b] get k e (glV k ((bothB la lb fl).map (.int .i64)) (bothB la lb fl).length) (List.range h.next) (glO 1 ((bothB la lb fl).map (.int .i64))) :=
  callEv_list hk hn hg (idss_ints _) fun h2 g Q q1 q2 => both_ct (ha.ge wf g) (hb.ge wf g) (by rw [g.2 s (wf.lt hs), hs]) hcl hfv (hf.ge wf g) h5 (fun e => q1 (by simp [e])) (fun e => by have := q2 (by simpa using e); simpa using this)

theorem rising_len : ∀ (l : List Int) (last : Int), rising last l = true → last ≤ 5 → (l.length : Int) + last ≤ 5
  | [], last, _, h5 => by simpa using h5
  | f :: l, last, h, _ => by
    simp [rising] at h
    have := rising_len l f h.2 (by omega)
    simp; omega
def shHold (o p : Opn) : Int := if p.hold < o.hold then p.hold else o.hold
def shFams (o p : Opn) : List Int := o.fams.filter fun f => p.fams.contains f
def shKept (o p : Opn) : List Rest := p.kept.filter fun x => (shFams o p).contains x.fam
def shrC (o p : Opn) (fv ov tv kv : V) : List V := [.int .i64 (shHold o p), fv, .bool (o.four && p.four), .bool (o.refresh && p.refresh), ov, tv, .bool p.hasgr, .bool p.again, .int .i64 p.time, kv]
structure ShrAt (g : Nat → Option O) (o p : Opn) (fv ov tv kv : V) : Prop where
  fams : Ints g fv (shFams o p)
  out : Ints g ov (bothB o.adds p.adds (shFams o p))
  take : Ints g tv (bothB p.adds o.adds (shFams o p))
  kept : Rests g kv (shKept o p)

theorem Gl.lower {h : H} {lo lo' sz : Nat} {v : V} {es : List (List V)} (g : Gl h lo sz v es) (hl : lo' ≤ lo) : Gl h lo' sz v es := by
  rcases g with g | ⟨a, j, b, g⟩
  · exact .inl g
  · exact .inr ⟨a, j, by omega, g⟩
set_option maxRecDepth 100000
theorem agree_ct2 {h : H} {o p : Opn} {f a k f' a' k' : V} (ho : OpnAt h.get o f a k) (hp : OpnAt h.get p f' a' k') {Q : V → H → Prop}
    (qno : (checkB o && checkB p) = false → ∀ h2, Ge h h2 → h2.WF → Q (.tup [.agg [.int .i64 0, .nilsl, .bool false, .bool false, .nilsl, .nilsl, .bool false, .bool false, .int .i64 0, .nilsl], .int .i64 2]) h2)
    (qok : checkB o = true → checkB p = true → ∀ fv ov tv kv h2, Ge h h2 → h2.WF → ShrAt h2.get o p fv ov tv kv → Gl h2 h.next 1 fv ((shFams o p).map fun x => [.int .i64 x]) → Gl h2 h.next 2 kv ((shKept o p).map restC) → Q (.tup [.agg (shrC o p fv ov tv kv), .int .i64 0]) h2) : Acalls Try.prog 22 [opnV o f a k, opnV p f' a' k'] h Q := by
  refine acalls_to Try.func22 S.open_Agree_code S.open_Agree_enter (Nat.le_of_ble_eq_true rfl) fun wf => ?_; simp only [S.open_Agree]
  have o1 := ho.fams.one
  have o2 := ho.adds.one
  have o3 := ho.kept.one
  have p1 := hp.fams.one
  have p2 := hp.adds.one
  have p3 := hp.kept.one
  have a1 : ¬ h.next = h.next + 1 + 1 := by omega
  have a2 : ¬ h.next + 1 = h.next + 1 + 1 := by omega
  simp only [opnV]
  simp [o1, o2, o3, p1, p2, p3, a1]
  obtain ⟨hb, hhb⟩ : ∃ hb, hb = ((h.push (.row (opnC o f a k))).push (.row (opnC p f' a' k'))).push (.row [.int .i64 0, .nilsl, .bool false, .bool false, .nilsl, .nilsl, .bool false, .bool false, .int .i64 0, .nilsl]) := ⟨_, rfl⟩
  have gb : Ge h hb := by rw [hhb]; exact (((Ge.refl _).push _).push _).push _
  have wb : hb.WF := by rw [hhb]; exact ((wf.push _).push _).push _
  have nb : hb.next = h.next + 3 := by rw [hhb]; rfl
  have b1 : ¬ h.next = hb.next := by omega
  have b2 : ¬ h.next + 1 = hb.next := by omega
  have c1 : ∀ x, Ge hb x → cellsAt x.get h.next 11 = some (opnC o f a k) := fun x gx => by rw [gx.cells (by omega), hhb]; simp [opnC, a1]
  have c2 : ∀ x, Ge hb x → cellsAt x.get (h.next + 1) 11 = some (opnC p f' a' k') := fun x gx => by rw [gx.cells (by omega), hhb]; simp [opnC]
  have x3 : hb.get (h.next + 2) = some (.row [.int .i64 0, .nilsl, .bool false, .bool false, .nilsl, .nilsl, .bool false, .bool false, .int .i64 0, .nilsl]) := by rw [hhb]; simp
  simp only [opnC] at hhb c1 c2
  rw [← hhb]
  refine check_ct (ho.ge wf gb) rfl _ ?_
  cases hco : checkB o with
  | false =>
    simp [x3]
    refine qno (by simp [hco]) _ (gb.set (by omega) _) (wb.set (by omega) _)
  | true =>
    simp [c2]
    refine check_ct (hp.ge wf gb) rfl _ ?_
    cases hcp : checkB p with
    | false =>
      simp [x3]
      refine qno (by simp [hcp]) _ (gb.set (by omega) _) (wb.set (by omega) _)
    | true =>
      simp [c1, c2]
      refine and_load (i := h.next + 1) (n := 11) (o := 0) (c := p.four) (by simp) (by simp) (c2 _ (by simp)) rfl (by simp) (by simp) (by simp) fun u w => ?_
      simp [c1]
      refine and_load (i := h.next + 1) (n := 11) (o := 0) (c := p.refresh) (by simp) (by simp) (c2 _ (by simp)) rfl (by simp) (by simp) (by simp) fun u' w' => ?_

      simp [c1, c2, b1]
      obtain ⟨H1, hH1⟩ : ∃ H1, H1 = (hb.push (.row [.int .i64 0, .nilsl, .bool false, .bool false, .nilsl, .nilsl, .bool false, .bool false, .int .i64 0, .nilsl])).set hb.next (.row (shrC o p .nilsl .nilsl .nilsl .nilsl)) := ⟨_, rfl⟩
      have g1 : Ge hb H1 := by rw [hH1]; exact ((Ge.refl _).push _).set (Nat.le_refl _) _
      have w1 : H1.WF := by rw [hH1]; exact (wb.push _).set (by simp) _
      have n1 : H1.next = hb.next + 1 := by rw [hH1]; rfl
      have y1 : H1.get hb.next = some (.row (shrC o p .nilsl .nilsl .nilsl .nilsl)) := by rw [hH1]; simp
      have hl := ho.fams.lenG wf (n := o.fams.length) (by simp) H1 (gb.trans g1)
      simp only [shrC, shHold] at hH1
      rw [← hH1]
      simp [hl]
      refine loop_up (fun i t h' => ∃ (v : V) (acc : List Int), (t 2 = .ptr h.next 11 0 ∧ t 3 = .ptr (h.next + 1) 11 0 ∧ t 4 = .ptr (h.next + 1 + 1) 10 0 ∧ t 6 = .ptr hb.next 10 0 ∧ t 46 = f ∧ t 47 = .int .i64 o.fams.length ∧ t 48 = .int .i64 i) ∧ Ge hb h' ∧ h'.WF ∧ h'.get hb.next = some (.row (shrC o p v .nilsl .nilsl .nilsl)) ∧
        Gl h' (hb.next + 1) 1 v (acc.map fun x => [.int .i64 x]) ∧ hb.next < h'.next ∧ acc.length ≤ i ∧ acc ++ (o.fams.drop i).filter (fun f => p.fams.contains f) = shFams o p) o.fams.length ⟨.nilsl, [], by simp, g1, w1, y1, Gl.nil _ _ _, by omega, by simp, by simp [shFams]⟩ ?_
      have hl5 := rising_len o.fams 0 (by have := checkB_parts o; rw [hco] at this; simp at this; exact this.2.1) (by omega)
      rintro i t h' hi ⟨v, acc, ⟨t2, t3, t4, t6, t46, t47, t48⟩, hg, hw, hx, gl, hn, hal, hac⟩ K hK
      have v1 := gl.one
      have hge : Ge h h' := gb.trans hg
      by_cases hlt : i < o.fams.length
      · obtain ⟨pp, q, oo, cc, e1, _, e2, e3⟩ := ho.fams.at1G wf hlt
        have e2 := e2 _ hge
        have hwr := wrap_succ hlt (by omega)
        rw [List.drop_eq_getElem_cons hlt, List.filter_cons] at hac
        have hxc : cellsAt h'.get hb.next 10 = some (shrC o p v .nilsl .nilsl .nilsl) := by rw [cellsAt_of hx (by simp [shrC])]; rfl
        simp only [shrC] at hxc
        simp [t3, t46, t47, t48, hlt, e1, e2, e3, c2 _ hg]
        refine contains_ct (hp.fams.ge wf hge) rfl _ ?_
        simp
        (first | refine guard_split ?_ ?_ | refine cond_split ?_ ?_ | refine sguard_split ?_ ?_) <;> intro e <;> (try simp only [Bool.not_true, Bool.not_false] at e) <;> simp [e, t6, t48, hxc]
        · obtain ⟨h3, hh3⟩ : ∃ h3, h3 = h'.push (.row [.int .i64 o.fams[i]]) := ⟨_, rfl⟩
          have n3 : h3.next = h'.next + 1 := by rw [hh3]; rfl
          have g3 : Ge h' h3 := by rw [hh3]; simp
          have w3 : h3.WF := by rw [hh3]; exact hw.push _
          have gl3 := gl.keep (h' := h3) (by omega) (fun j hj => by rw [g3.2 j (gl.lo j hj).2])
          obtain ⟨v', d, ea, gl', nn, kk, wk⟩ := gl3.append (bytes := 8) (x := .sl h'.next 1 0 1 (some 1)) (e := [.int .i64 o.fams[i]]) (by omega) (by simp) rfl (by rw [hh3]; simp [elemsV_sl]) (by simp) (by omega) (by simp; omega) (by simp; omega)
          rw [n3] at ea
          rw [← hh3, ea]
          have x4 : (h3.app d).get hb.next = some (.row (shrC o p v .nilsl .nilsl .nilsl)) := by rw [kk _ (fun hm => by have := (gl3.lo _ hm).1; omega) (by omega), g3.2 _ hn, hx]
          have v2 := gl'.one
          simp only [shrC] at x4
          simp [x4, cells_of_one v2, solid_of_one v2, hwr, t48, t6]
          refine hK _ _ hlt ?_
          refine ⟨v', acc ++ [o.fams[i]], by simp [t2, t3, t4, t6, t46, t47], ?_, (wk w3).set (by omega) _, ?_, ?_, by simp; omega, by simp; omega, ?_⟩
          · refine ⟨by simp; omega, fun j hj => ?_⟩
            rw [H.get_set, if_neg (by omega), kk j (fun hm => by have := (gl3.lo j hm).1; omega) (by omega), g3.2 j (by omega), hg.2 j hj]
          · simp [shrC]
          · have := gl'.keep (h' := (h3.app d).set hb.next (.row (shrC o p v' .nilsl .nilsl .nilsl))) (by simp) (fun j hj => by rw [H.get_set, if_neg (by have := (gl'.lo j hj).1; omega)])
            simpa [shrC] using this
          · rw [← hac, if_pos (by simpa using e)]; simp
        · simp [hwr]
          rw [if_neg (by simpa using e)] at hac
          exact hK _ _ hlt ⟨v, acc, by simp [t2, t3, t4, t6, t46, t47], hg, hw, hx, gl, hn, by omega, hac⟩
      · simp [t6, t47, t48, hlt]
        have hA : acc = shFams o p := by rw [← hac, List.drop_of_length_le (by omega)]; simp
        subst hA
        clear hac hK K
        have hxc : cellsAt h'.get hb.next 10 = some (shrC o p v .nilsl .nilsl .nilsl) := by rw [cellsAt_of hx (by simp [shrC])]; rfl
        have hfl := gl.sls (by simp) (by simp; omega)
        simp only [shrC] at hxc
        refine dreg_dwp ?_
        simp [t2, t3, c1 _ hg, c2 _ hg]
        refine dcall_of (both_ev hw (ho.adds.ge wf hge) (hp.adds.ge wf hge) hx rfl rfl hfl (by omega) (by simp [room]) (by omega) (fun i hi => rfl)) ?_
        simp [t3]
        obtain ⟨get1, hget1⟩ : ∃ g, g = upds h'.get (names (h'.next + 5 * room) (glO 1 (List.map (V.int .i64) (bothB o.adds p.adds (shFams o p))))) := ⟨_, rfl⟩
        rw [← hget1]
        have hg1 : ∀ i, i ≠ h'.next + 5 * room → get1 i = h'.get i := fun i hi => by rw [hget1]; exact upds_gl hi
        have d1 := cellsAt_congr (n := 11) (hg1 h.next (by omega))
        have d2 := cellsAt_congr (n := 11) (hg1 (h.next + 1) (by omega))
        rw [c1 _ hg] at d1
        rw [c2 _ hg] at d2
        simp [t2, d1, d2]
        refine dcall_of (both_ev hw (hp.adds.ge wf hge) (ho.adds.ge wf hge) hx rfl rfl hfl (by omega) (by simp [room]) (by omega) (fun i hi => hg1 i (by omega))) ?_
        simp [t6]
        obtain ⟨get2, hget2⟩ : ∃ g, g = upds get1 (names (h'.next + 11 * room) (glO 1 (List.map (V.int .i64) (bothB p.adds o.adds (shFams o p))))) := ⟨_, rfl⟩
        rw [← hget2]
        have hg2 : ∀ i, i ≠ h'.next + 11 * room → get2 i = get1 i := fun i hi => by rw [hget2]; exact upds_gl hi
        have hx2 : get2 hb.next = some (.row (shrC o p v .nilsl .nilsl .nilsl)) := by rw [hg2 _ (by omega), hg1 _ (by omega), hx]
        simp only [shrC] at hx2
        simp [hx2, cells_of_one glV_one, solid_of_one glV_one, upds_one, t6]
        refine dwp_end ?_ ?_
        · intro q hq
          simp only [List.mem_cons, List.not_mem_nil, or_false] at hq
          rcases hq with rfl | rfl <;> simp [evAt, apart, I.foot, refOf] <;> intro x o' hx' <;> have := names_gl hx' <;> simp at this <;> omega
        obtain ⟨ov, hov⟩ : ∃ ov, ov = glV (h'.next + 5 * room) (List.map (V.int .i64) (bothB o.adds p.adds (shFams o p))) (bothB o.adds p.adds (shFams o p)).length := ⟨_, rfl⟩
        obtain ⟨tv, htv⟩ : ∃ tv, tv = glV (h'.next + 11 * room) (List.map (V.int .i64) (bothB p.adds o.adds (shFams o p))) (bothB p.adds o.adds (shFams o p)).length := ⟨_, rfl⟩
        rw [← hov, ← htv]
        obtain ⟨H4, hH4⟩ : ∃ H4 : H, H4 = ⟨h'.next + 16 * room, upds (upds get2 [(hb.next, .row (shrC o p v ov .nilsl .nilsl))]) [(hb.next, .row (shrC o p v ov tv .nilsl))]⟩ := ⟨_, rfl⟩
        have hr : room = 16 := rfl
        have n4 : H4.next = h'.next + 16 * room := by rw [hH4]
        have x4 : H4.get hb.next = some (.row (shrC o p v ov tv .nilsl)) := by rw [hH4]; simp only; rw [upds_one, if_pos rfl]
        have m4 : ∀ i, i ≠ hb.next → H4.get i = get2 i := fun i hi => by rw [hH4]; simp only; rw [upds_one, if_neg hi, upds_one, if_neg hi]
        have old4 : ∀ i, i < h'.next → i ≠ hb.next → H4.get i = h'.get i := fun i h1 h2 => by rw [m4 i h2, hg2 i (by omega), hg1 i (by omega)]
        have g4 : Ge hb H4 := ⟨by omega, fun i hi => by rw [old4 i (by omega) (by omega), hg.2 i hi]⟩
        have w4 : H4.WF := fun i hi => by rw [m4 i (by omega), hg2 i (by omega), hg1 i (by omega), hw i (by omega)]
        have gv4 : Gl H4 (hb.next + 1) 1 v ((shFams o p).map fun x => [.int .i64 x]) := gl.keep (by omega) (fun j hj => old4 j (gl.lo j hj).2 (by have := (gl.lo j hj).1; omega))
        have go4 : Gl H4 (hb.next + 1) 1 ov ((bothB o.adds p.adds (shFams o p)).map fun x => [.int .i64 x]) := by
          have := gl_of (get := H4.get) (nx := H4.next) (lo := hb.next + 1) (k := h'.next + 5 * room) (sz := 1) (es := (bothB o.adds p.adds (shFams o p)).map fun x => [.int .i64 x]) (by omega) (by omega) (by simp) (by simp) (fun hne => by
            rw [m4 _ (by omega), hg2 _ (by omega), hget1, flat_ints]; exact upds_gl_at (by simpa using hne))
          rw [flat_ints] at this
          simpa [hov] using this
        have gt4 : Gl H4 (hb.next + 1) 1 tv ((bothB p.adds o.adds (shFams o p)).map fun x => [.int .i64 x]) := by
          have := gl_of (get := H4.get) (nx := H4.next) (lo := hb.next + 1) (k := h'.next + 11 * room) (sz := 1) (es := (bothB p.adds o.adds (shFams o p)).map fun x => [.int .i64 x]) (by omega) (by omega) (by simp) (by simp) (fun hne => by
            rw [m4 _ (by omega), hget2, flat_ints]; exact upds_gl_at (by simpa using hne))
          rw [flat_ints] at this
          simpa [htv] using this
        simp only [shrC] at hH4
        rw [← hH4]
        have hp5 := rising_len (p.kept.map Rest.fam) 0 (by have := checkB_parts p; rw [hcp] at this; simp at this; exact this.2.2.2.2) (by omega)
        have hlk := hp.kept.lenG wf (n := p.kept.length) (by simp) H4 (gb.trans g4)
        have ov1 := go4.one
        have tv1 := gt4.one
        clear hH4 hget1 hget2 hg1 hg2 hx2 d1 d2 hov htv m4 old4
        simp [t3, c2 _ g4, hlk]
        refine loop_up (fun i t h' => ∃ (kv : V) (acc : List Rest), (t 4 = .ptr (h.next + 1 + 1) 10 0 ∧ t 6 = .ptr hb.next 10 0 ∧ t 79 = k' ∧ t 80 = .int .i64 p.kept.length ∧ t 81 = .int .i64 i) ∧ Ge (H4.set hb.next (.row (shrC o p v ov tv kv))) h' ∧ h'.WF ∧
          Gl h' H4.next 2 kv (acc.map restC) ∧ acc.length ≤ i ∧ acc ++ (p.kept.drop i).filter (fun x => (shFams o p).contains x.fam) = shKept o p) p.kept.length ⟨.nilsl, [], by simp [t4, t6], ?_, w4, Gl.nil _ _ _, by simp, by simp [shKept]⟩ ?_
        · refine ⟨by simp, fun i hi => ?_⟩
          rw [H.get_set]; split
          · rename_i e; rw [e, x4]
          · rfl
        rintro i t h2 hi ⟨kv, acc, ⟨t4, t6, t79, t80, t81⟩, hg2, hw2, gk, hal, hac⟩ K hK
        have hx2 := hg2.get_set (by omega)
        have hn2 := hg2.1
        simp only [H.next_set] at hn2
        have gb2 : Ge hb h2 := ⟨by omega, fun i hi => by rw [hg2.get_ne (by omega) (by omega), g4.2 i hi]⟩
        have gh2 := gb.trans gb2
        have kv1 := gk.one
        have hxc2 : ∀ x : H, x.get hb.next = h2.get hb.next → cellsAt x.get hb.next 10 = some (shrC o p v ov tv kv) := fun x hx => by rw [cellsAt_of (hx.trans hx2) (by simp [shrC])]; rfl
        by_cases hlt : i < p.kept.length
        · obtain ⟨pp, q, oo, cc, e1, _, e2, e3, e4, _⟩ := hp.kept.atG wf (k := i) (by simpa using hlt)
          have e2 := e2 _ gh2
          have hwr := wrap_succ hlt (by simp at hp5; omega)
          rw [List.drop_eq_getElem_cons hlt, List.filter_cons] at hac
          simp at e4
          have hne : ¬ hb.next = h2.next := by omega
          have hc2 := hxc2 h2 rfl
          simp only [shrC] at hc2
          simp [t6, t79, t80, t81, hlt, e1, e2, e3, e4, hne, hc2]
          obtain ⟨h5, hh5⟩ : ∃ h5, h5 = (h2.push (.row [.int .i64 0, .bool false])).set h2.next (.row [.int .i64 p.kept[i].fam, .bool p.kept[i].kept]) := ⟨_, rfl⟩
          have g5 : Ge h2 h5 := by rw [hh5]; exact ((Ge.refl _).push _).set (Nat.le_refl _) _
          have w5 : h5.WF := by rw [hh5]; exact (hw2.push _).set (by simp) _
          have n5 : h5.next = h2.next + 1 := by rw [hh5]; rfl
          have x5 : cellsAt h5.get h2.next 2 = some [.int .i64 p.kept[i].fam, .bool p.kept[i].kept] := by rw [hh5]; simp
          rw [← hh5]
          have hc5 := hxc2 h5 (g5.2 _ (by omega))
          have gv5 : Gl h5 (hb.next + 1) 1 v ((shFams o p).map fun x => [.int .i64 x]) := gv4.keep (by omega) (fun j hj => by have := gv4.lo j hj; rw [g5.2 j (by omega), hg2.get_ne (by omega) (by omega)])
          simp only [shrC] at hc5
          refine contains_ct (gv5.sls (by simp) (by simp; omega)) rfl _ ?_
          simp
          (first | refine guard_split ?_ ?_ | refine cond_split ?_ ?_ | refine sguard_split ?_ ?_) <;> intro e <;> (try simp only [Bool.not_true, Bool.not_false] at e) <;> simp [e, t6, t81, hc5, x5]
          · obtain ⟨h6, hh6⟩ : ∃ h6, h6 = h5.push (.row [.int .i64 p.kept[i].fam, .bool p.kept[i].kept]) := ⟨_, rfl⟩
            have n6 : h6.next = h5.next + 1 := by rw [hh6]; rfl
            have g6 : Ge h5 h6 := by rw [hh6]; simp
            have w6 : h6.WF := by rw [hh6]; exact w5.push _
            have gk6 := gk.keep (h' := h6) (by omega) (fun j hj => by have := (gk.lo j hj).2; rw [g6.2 j (by omega), g5.2 j (by omega)])
            obtain ⟨v', d, ea, gl', nn, kk, wk⟩ := gk6.append (bytes := 16) (x := .sl h5.next 2 0 1 (some 1)) (e := restC p.kept[i]) (by omega) (by simp) rfl (by rw [hh6]; simp [elemsV_sl]) (by simp) (by omega) (by simp at hp5 ⊢; omega) (by simp at hp5 ⊢; omega)
            rw [n6] at ea
            rw [← hh6, ea]
            have x7 : (h6.app d).get hb.next = some (.row (shrC o p v ov tv kv)) := by rw [kk _ (fun hm => by have := (gk6.lo _ hm).1; omega) (by omega), g6.2 _ (by omega), g5.2 _ (by omega), hx2]
            have v2 := gl'.one
            simp only [shrC] at x7
            simp [x7, cells_of_one v2, solid_of_one v2, hwr, t81, t6]
            refine hK _ _ hlt ?_
            refine ⟨v', acc ++ [p.kept[i]], by simp [t4, t6, t79, t80], ?_, (wk w6).set (by omega) _, ?_, by simp; omega, ?_⟩
            · refine ⟨by simp; omega, fun j hj => ?_⟩
              simp only [H.next_set] at hj
              rw [H.get_set, H.get_set]
              split
              · simp [shrC]
              · rename_i hne
                rw [kk j (fun hm => by have := (gk6.lo j hm).1; omega) (by omega), g6.2 j (by omega), g5.2 j (by omega), hg2.get_ne hj hne]
            · have := gl'.keep (h' := (h6.app d).set hb.next (.row (shrC o p v ov tv v'))) (by simp) (fun j hj => by rw [H.get_set, if_neg (by have := (gl'.lo j hj).1; omega)])
              simpa [shrC] using this
            · rw [← hac, if_pos (by simpa using e)]; simp
          · simp [hwr]
            rw [if_neg (by simpa using e)] at hac
            refine hK _ _ hlt ?_
            refine ⟨kv, acc, by simp [t4, t6, t79, t80], hg2.trans g5, w5, gk.keep (by omega) (fun j hj => g5.2 j (gk.lo j hj).2), by omega, hac⟩
        · have hA : acc = shKept o p := by rw [← hac, List.drop_of_length_le (by omega)]; simp
          subst hA
          clear hac hK
          have hc2 := hxc2 h2 rfl
          have x9 : h2.get (h.next + 1 + 1) = some (.row [.int .i64 0, .nilsl, .bool false, .bool false, .nilsl, .nilsl, .bool false, .bool false, .int .i64 0, .nilsl]) := by rw [gb2.2 _ (by omega)]; exact x3
          have v1 := gv4.one
          simp only [shrC] at hc2
          simp [t4, t6, t80, t81, hlt, hc2, x9, v1, ov1, tv1, kv1]
          have hkp := gk.sls (by simp) (by simp at hp5 ⊢; omega)
          have key : ∀ (w : V) (l : List Int), l.length ≤ 5 → Gl H4 (hb.next + 1) 1 w (l.map fun x => [.int .i64 x]) → ∀ ob, Ints (h2.set (h.next + 1 + 1) ob).get w l := fun w l hl gw ob =>
            (gw.keep (h' := h2.set (h.next + 1 + 1) ob) (by simp; omega) (fun j hj => by have := gw.lo j hj; rw [H.get_set, if_neg (by omega), hg2.get_ne (by omega) (by omega)])).sls (by simp) (by simp; omega)
          refine qok hco hcp v ov tv kv _ ((gb.trans gb2).set (by omega) _) (hw2.set (by omega) _) ⟨key _ _ (by omega) gv4 _, key _ _ ?_ go4 _, key _ _ ?_ gt4 _, ?_⟩ (Gl.lower (gv4.keep (h' := h2.set (h.next + 1 + 1) _) (by simp; omega) (fun j hj => by have := gv4.lo j hj; rw [H.get_set, if_neg (by omega), hg2.get_ne (by omega) (by omega)])) (by omega)) (Gl.lower (gk.keep (h' := h2.set (h.next + 1 + 1) _) (by simp) (fun j hj => by have := (gk.lo j hj).1; rw [H.get_set, if_neg (by omega)])) (by omega))
          · have := List.length_filter_le (fun f => (o.adds.any fun x => x.fam == f && x.send) && (p.adds.any fun x => x.fam == f && x.take)) (shFams o p)
            unfold bothB; omega
          · have := List.length_filter_le (fun f => (p.adds.any fun x => x.fam == f && x.send) && (o.adds.any fun x => x.fam == f && x.take)) (shFams o p)
            unfold bothB; omega
          · exact (gk.keep (h' := h2.set (h.next + 1 + 1) _) (by simp) (fun j hj => by have := (gk.lo j hj).1; rw [H.get_set, if_neg (by omega)])).sls (by simp) (by simp at hp5 ⊢; omega)
theorem agree_ct {h : H} {o p : Opn} {f a k f' a' k' : V} (ho : OpnAt h.get o f a k) (hp : OpnAt h.get p f' a' k') {Q : V → H → Prop}
    (qno : (checkB o && checkB p) = false → ∀ h2, Ge h h2 → h2.WF → Q (.tup [.agg [.int .i64 0, .nilsl, .bool false, .bool false, .nilsl, .nilsl, .bool false, .bool false, .int .i64 0, .nilsl], .int .i64 2]) h2)
    (qok : checkB o = true → checkB p = true → ∀ fv ov tv kv h2, Ge h h2 → h2.WF → ShrAt h2.get o p fv ov tv kv → Q (.tup [.agg (shrC o p fv ov tv kv), .int .i64 0]) h2) : Acalls Try.prog 22 [opnV o f a k, opnV p f' a' k'] h Q :=
  agree_ct2 ho hp qno fun a b fv ov tv kv h2 g w s _ _ => qok a b fv ov tv kv h2 g w s
end Go.Am
