/-
  OpenAgrees answers true.
-/
import Derived.Test.YtapokdcbhpdceaaO24
import Derived.Test.YtapokdcbhpdceaaO8
namespace Go.Am
open Go.Proofs

set_option maxRecDepth 100000
structure Ses where
  hold : Int
  F : List Int
  four : Bool
  refr : Bool
  sd : List Int
  tk : List Int
  gr : Bool
  ag : Bool
  tm : Int
  K : List Rest
def sesO (o p : Opn) : Ses := ⟨shHold o p, shFams o p, o.four && p.four, o.refresh && p.refresh, bothB o.adds p.adds (shFams o p), bothB p.adds o.adds (shFams o p), p.hasgr, p.again, p.time, shKept o p⟩
def agRes (o p : Opn) : Ses × Int := if (checkB o && checkB p) = true then (sesO o p, 0) else (⟨0, [], false, false, [], [], false, false, 0, []⟩, 2)
def sesV (s : Ses) (fv ov tv kv : V) : List V := sesC s.hold fv s.four s.refr ov tv s.gr s.ag s.tm kv
structure SesAt (g : Nat → Option O) (s : Ses) (fv ov tv kv : V) : Prop where
  fams : Ints g fv s.F
  out : Ints g ov s.sd
  take : Ints g tv s.tk
  kept : Rests g kv s.K
theorem nil_at (g : Nat → Option O) (sz : Nat) : Sls g sz .nilsl [] := ⟨.inl ⟨rfl, .inl rfl⟩, by simp, rfl, by simp⟩
theorem agree_ct3 {h : H} {o p : Opn} {f a k f' a' k' : V} (ho : OpnAt h.get o f a k) (hp : OpnAt h.get p f' a' k') {Q : V → H → Prop}
    (q : ∀ fv ov tv kv h2, Ge h h2 → h2.WF → SesAt h2.get (agRes o p).1 fv ov tv kv → Gl h2 h.next 1 fv ((agRes o p).1.F.map fun x => [.int .i64 x]) → Gl h2 h.next 2 kv ((agRes o p).1.K.map restC) → Q (.tup [.agg (sesV (agRes o p).1 fv ov tv kv), .int .i64 (agRes o p).2]) h2) : Acalls Try.prog 22 [opnV o f a k, opnV p f' a' k'] h Q := by
  unfold agRes at q
  refine agree_ct2 ho hp (fun hno h2 g w => ?_) (fun h1 h2' fv ov tv kv h2 g w s g1 g2 => ?_)
  · rw [hno] at q
    exact q .nilsl .nilsl .nilsl .nilsl h2 g w ⟨nil_at _ _, nil_at _ _, nil_at _ _, nil_at _ _⟩ (Gl.nil _ _ _) (Gl.nil _ _ _)
  · rw [h1, h2'] at q
    exact q fv ov tv kv h2 g w ⟨s.fams, s.out, s.take, s.kept⟩ g1 g2
theorem ragree_ct3 {h : H} {o p : Opn} {f a k f' a' k' : V} (ho : OpnAt h.get o f a k) (hp : OpnAt h.get p f' a' k') {Q : V → H → Prop}
    (q : ∀ fv ov tv kv h2, Ge h h2 → h2.WF → SesAt h2.get (agRes o p).1 fv ov tv kv → Q (.tup [.agg (sesV (agRes o p).1 fv ov tv kv), .int .i64 (agRes o p).2]) h2) : Acalls Try.prog 27 [opnV o f a k, opnV p f' a' k'] h Q := by
  unfold agRes at q
  refine ragree_ct ho hp (fun hno h2 g w => ?_) (fun h1 h2' fv ov tv kv h2 g w s => ?_)
  · rw [hno] at q
    exact q .nilsl .nilsl .nilsl .nilsl h2 g w ⟨nil_at _ _, nil_at _ _, nil_at _ _, nil_at _ _⟩
  · rw [h1, h2'] at q
    exact q fv ov tv kv h2 g w ⟨s.fams, s.out, s.take, s.kept⟩

theorem openAgrees_ct {h : H} {o p : Opn} {f a k f' a' k' : V} {x0 x1 : Int} (ho : OpnAt h.get o f a k) (hp : OpnAt h.get p f' a' k') (n1 : o.fams.length ≤ 1048576) (n2 : o.adds.length ≤ 1048576) (n3 : o.kept.length ≤ 1048576) (n4 : p.fams.length ≤ 1048576) (n5 : p.adds.length ≤ 1048576) (n6 : p.kept.length ≤ 1048576) :
    Pure Try.prog 9 [opnV o f a k, opnV p f' a' k', .agg [.int .u32 x0, .int .u32 x1]] h (.bool true) := by
  refine pure_to Try.func9 S.Hlaw10_OpenAgrees_code S.Hlaw10_OpenAgrees_enter rfl (Nat.le_of_ble_eq_true rfl) fun wf => ?_; simp only [S.Hlaw10_OpenAgrees]
  have o1 := ho.fams.one
  have o2 := ho.adds.one
  have o3 := ho.kept.one
  have p1 := hp.fams.one
  have p2 := hp.adds.one
  have p3 := hp.kept.one
  have a1 : ¬ h.next = h.next + 1 + 1 := by omega
  have a2 : ¬ h.next + 1 = h.next + 1 + 1 := by omega
  simp only [opnV]
  simp [o1, o2, o3, p1, p2, p3]
  obtain ⟨hb, hhb⟩ : ∃ hb, hb = ((h.push (.row (opnC o f a k))).push (.row (opnC p f' a' k'))).push (.row [.int .u32 x0, .int .u32 x1]) := ⟨_, rfl⟩
  have gb : Ge h hb := by rw [hhb]; exact (((Ge.refl _).push _).push _).push _
  have wb : hb.WF := by rw [hhb]; exact ((wf.push _).push _).push _
  have nb : hb.next = h.next + 3 := by rw [hhb]; rfl
  have c1 : ∀ x, Ge hb x → cellsAt x.get h.next 11 = some (opnC o f a k) := fun x gx => by rw [gx.cells (by omega), hhb]; simp [opnC, a1]
  have c2 : ∀ x, Ge hb x → cellsAt x.get (h.next + 1) 11 = some (opnC p f' a' k') := fun x gx => by rw [gx.cells (by omega), hhb]; simp [opnC]
  have c3 : ∀ x, Ge hb x → cellsAt x.get (h.next + 1 + 1) 2 = some [.int .u32 x0, .int .u32 x1] := fun x gx => by rw [gx.cells (by omega), hhb]; simp
  simp only [opnC] at hhb c1 c2
  rw [← hhb]
  refine dreg_dwp ?_
  have hr : room = 16 := rfl
  have ol : ∀ o : Opn, (ownO o).length ≤ 3 := fun o => by
    have l1 : (glO 1 (o.fams.map fun x => [V.int .i64 x]).flatten).length ≤ 1 := glO_len
    have l2 : (glO 3 (o.adds.map addC).flatten).length ≤ 1 := glO_len
    have l3 : (glO 2 (o.kept.map restC).flatten).length ≤ 1 := glO_len
    simp only [ownO, List.length_append]; omega
  simp [c1]
  refine dcall_at 1 (by rfl) (own_ev (k := hb.next + 1 * room) (e := hb.next + 8 * room) wb (ho.ge wf gb) n1 n2 n3 (by simp [room]) (by omega) (fun i hi => rfl)) ?_
  obtain ⟨get1, hget1⟩ : ∃ g, g = upds hb.get (names (hb.next + room) (ownO o)) := ⟨_, rfl⟩
  have m1 : ∀ i, get1 i = if hb.next + room ≤ i ∧ i < hb.next + room + (ownO o).length then (ownO o)[i - (hb.next + room)]? else hb.get i := fun i => by rw [hget1]; exact names_at
  have olo := ol o
  have olp := ol p
  have old1 : ∀ i, i < hb.next → get1 i = hb.get i := fun i hi => by rw [m1, if_neg (by omega)]
  have d2 : cellsAt get1 (h.next + 1) 11 = _ := (cellsAt_congr (n := 11) (old1 (h.next + 1) (by omega))).trans (c2 hb (Ge.refl _))
  obtain ⟨fo, hfo⟩ : ∃ x, x = ownF (hb.next + room) o := ⟨_, rfl⟩
  obtain ⟨ao, hao⟩ : ∃ x, x = ownA (hb.next + room) o := ⟨_, rfl⟩
  obtain ⟨ko, hko⟩ : ∃ x, x = ownK (hb.next + room) o := ⟨_, rfl⟩
  have q1 : fo.one = true := by rw [hfo]; exact glV_one
  have q2 : ao.one = true := by rw [hao]; exact glV_one
  have q3 : ko.one = true := by rw [hko]; exact glV_one
  simp [← hfo, ← hao, ← hko, ← hget1, d2]
  refine dcall_at 3 (by rfl) (own_ev (k := hb.next + 3 * room) (e := hb.next + 8 * room) wb (hp.ge wf gb) n4 n5 n6 (by simp [room]) (by omega) (fun i hi => old1 i hi)) ?_
  obtain ⟨get2, hget2⟩ : ∃ g, g = upds get1 (names (hb.next + 3 * room) (ownO p)) := ⟨_, rfl⟩
  have m2 : ∀ i, get2 i = if hb.next + 3 * room ≤ i ∧ i < hb.next + 3 * room + (ownO p).length then (ownO p)[i - (hb.next + 3 * room)]? else get1 i := fun i => by rw [hget2]; exact names_at
  have old2 : ∀ i, i < hb.next → get2 i = hb.get i := fun i hi => by rw [m2, if_neg (by omega), old1 i hi]
  obtain ⟨fp, hfp⟩ : ∃ x, x = ownF (hb.next + 3 * room) p := ⟨_, rfl⟩
  obtain ⟨ap, hap⟩ : ∃ x, x = ownA (hb.next + 3 * room) p := ⟨_, rfl⟩
  obtain ⟨kp, hkp⟩ : ∃ x, x = ownK (hb.next + 3 * room) p := ⟨_, rfl⟩
  have q4 : fp.one = true := by rw [hfp]; exact glV_one
  have q5 : ap.one = true := by rw [hap]; exact glV_one
  have q6 : kp.one = true := by rw [hkp]; exact glV_one
  have r54 : ¬ 5 * room = 4 * room := by simp [room]
  simp [← hfp, ← hap, ← hkp, ← hget2, q1, q2, q3, q4, q5, q6, upds_one, r54]
  refine dwp_end ?_ ?_
  · intro q hq
    simp only [List.mem_cons, List.not_mem_nil, or_false] at hq
    have nm : ∀ (o : Opn) (k : Nat) (x : Nat) (y : O), (x, y) ∈ names k (ownO o) → k ≤ x ∧ x < k + 3 := fun o k x y hx => by
      have key : ∀ (os : List O) (k : Nat), (x, y) ∈ names k os → k ≤ x ∧ x < k + os.length := by
        intro os
        induction os with
        | nil => intro k h; cases h
        | cons a os ih =>
          intro k h
          simp only [names, List.mem_cons, Prod.mk.injEq] at h
          rcases h with ⟨rfl, _⟩ | h
          · simp
          · have := ih (k + 1) h; simp; omega
      have := key _ _ hx
      have := ol o
      omega
    rcases hq with rfl | rfl | rfl | rfl | rfl | rfl | rfl | rfl | rfl | rfl <;> simp [evAt, apart, I.foot, refOf] <;> (try omega)
    all_goals (try (intro x y hx; have := nm _ _ _ _ hx; omega))
  obtain ⟨H4, hH4⟩ : ∃ H4 : H, H4 = ⟨hb.next + 8 * room, upds (upds (upds (upds get2 [(hb.next + 4 * room, .row [.int .u32 0, .int .i64 0, .int .u32 0, .nilsl, .bool false, .bool false, .nilsl, .bool false, .bool false, .int .i64 0, .nilsl])]) [(hb.next + 5 * room, .row [.int .u32 0, .int .i64 0, .int .u32 0, .nilsl, .bool false, .bool false, .nilsl, .bool false, .bool false, .int .i64 0, .nilsl])]) [(hb.next + 4 * room, .row (opnC o fo ao ko))]) [(hb.next + 5 * room, .row (opnC p fp ap kp))]⟩ := ⟨_, rfl⟩
  have N4 : H4.next = hb.next + 8 * room := by rw [hH4]
  have x7 : H4.get (hb.next + 4 * room) = some (.row (opnC o fo ao ko)) := by rw [hH4]; simp only; rw [upds_one, if_neg (by omega), upds_one, if_pos rfl]
  have x8 : H4.get (hb.next + 5 * room) = some (.row (opnC p fp ap kp)) := by rw [hH4]; simp only; rw [upds_one, if_pos rfl]
  have m4 : ∀ i, i ≠ hb.next + 4 * room → i ≠ hb.next + 5 * room → H4.get i = get2 i := fun i h1 h2 => by rw [hH4]; simp only; rw [upds_one, if_neg h2, upds_one, if_neg h1, upds_one, if_neg h2, upds_one, if_neg h1]
  have old4 : ∀ i, i < hb.next → H4.get i = hb.get i := fun i hi => by rw [m4 i (by omega) (by omega), old2 i hi]
  have g4 : Ge hb H4 := ⟨by omega, old4⟩
  have w4 : H4.WF := fun i hi => by rw [m4 i (by omega) (by omega), m2, if_neg (by omega), m1, if_neg (by omega), wb i (by omega)]
  have go := own_gl (h := H4) (lo := hb.next) (k := hb.next + room) (o := o) (by omega) (by omega) (fun i hi => by
    rw [m4 _ (by omega) (by omega), m2, if_neg (by omega), m1, if_pos (by omega), show hb.next + room + i - (hb.next + room) = i by omega, List.getElem?_eq_getElem hi])
  have gp := own_gl (h := H4) (lo := hb.next) (k := hb.next + 3 * room) (o := p) (by omega) (by omega) (fun i hi => by
    rw [m4 _ (by omega) (by omega), m2, if_pos (by omega), show hb.next + 3 * room + i - (hb.next + 3 * room) = i by omega, List.getElem?_eq_getElem hi])
  rw [← hfo, ← hao, ← hko] at go
  rw [← hfp, ← hap, ← hkp] at gp
  have hoo : OpnAt H4.get o fo ao ko := ⟨go.1.sls (by simp) (by rw [List.length_map]; omega), go.2.1.sls (by simp) (by rw [List.length_map]; omega), go.2.2.sls (by simp) (by rw [List.length_map]; omega)⟩
  have hpp : OpnAt H4.get p fp ap kp := ⟨gp.1.sls (by simp) (by rw [List.length_map]; omega), gp.2.1.sls (by simp) (by rw [List.length_map]; omega), gp.2.2.sls (by simp) (by rw [List.length_map]; omega)⟩
  simp only [opnC] at hH4
  rw [← hH4]
  clear hH4 hget1 hget2 m1 m2 m4 old1 old2 d2 hfo hao hko hfp hap hkp go gp
  have e7 : ∀ x : H, Ge H4 x → cellsAt x.get (hb.next + 4 * room) 11 = some (opnC o fo ao ko) := fun x gx => by rw [gx.cells (by omega), cellsAt_of x7 (by simp [opnC])]; rfl
  have e8 : ∀ x : H, Ge H4 x → cellsAt x.get (hb.next + 5 * room) 11 = some (opnC p fp ap kp) := fun x gx => by rw [gx.cells (by omega), cellsAt_of x8 (by simp [opnC])]; rfl
  simp only [opnC] at e7 e8
  simp [e7, e8]
  refine agree_ct3 hoo hpp fun fv ov tv kv h5 g5 w5 s5 gf5 gk5 => ?_
  obtain ⟨s, hs⟩ : ∃ s, s = (agRes o p).1 := ⟨_, rfl⟩
  obtain ⟨ee, hee⟩ : ∃ e, e = (agRes o p).2 := ⟨_, rfl⟩
  rw [← hs] at s5 gf5 gk5
  rw [← hs, ← hee]
  have fv1 := s5.fams.one
  have ov1 := s5.out.one
  have tv1 := s5.take.one
  have kv1 := s5.kept.one
  have b5 : ¬ h.next = h5.next := by have := g5.1; omega
  have b6 : ¬ h.next + 1 = h5.next := by have := g5.1; omega
  have g45 := g4.trans g5
  simp [sesV, sesC, fv1, ov1, tv1, kv1, b5, b6, c1 _ g45, c2 _ g45]
  obtain ⟨h6, hh6⟩ : ∃ h6, h6 = (h5.push (.row [.int .i64 0, .nilsl, .bool false, .bool false, .nilsl, .nilsl, .bool false, .bool false, .int .i64 0, .nilsl])).set h5.next (.row (sesV s fv ov tv kv)) := ⟨_, rfl⟩
  have g6 : Ge h5 h6 := by rw [hh6]; exact ((Ge.refl _).push _).set (Nat.le_refl _) _
  have w6 : h6.WF := by rw [hh6]; exact (w5.push _).set (by simp) _
  have N6 : h6.next = h5.next + 1 := by rw [hh6]; rfl
  have x9 : h6.get h5.next = some (.row (sesV s fv ov tv kv)) := by rw [hh6]; simp
  simp only [sesV, sesC] at hh6
  rw [← hh6]
  have g46 := g45.trans g6
  have gh6 := gb.trans g46
  refine ragree_ct3 (ho.ge wf gh6) (hp.ge wf gh6) fun fv' ov' tv' kv' h7 g7 w7 s7 => ?_
  rw [← hs] at s7
  rw [← hs, ← hee]
  have fv1' := s7.fams.one
  have ov1' := s7.out.one
  have tv1' := s7.take.one
  have kv1' := s7.kept.one
  simp [sesV, sesC, fv1', ov1', tv1', kv1']
  obtain ⟨h8, hh8⟩ : ∃ h8, h8 = (h7.push (.row [.int .i64 0, .nilsl, .bool false, .bool false, .nilsl, .nilsl, .bool false, .bool false, .int .i64 0, .nilsl])).set h7.next (.row (sesV s fv' ov' tv' kv')) := ⟨_, rfl⟩
  have g8 : Ge h7 h8 := by rw [hh8]; exact ((Ge.refl _).push _).set (Nat.le_refl _) _
  have w8 : h8.WF := by rw [hh8]; exact (w7.push _).set (by simp) _
  have x11 : h8.get h7.next = some (.row (sesV s fv' ov' tv' kv')) := by rw [hh8]; simp
  simp only [sesV, sesC] at hh8
  rw [← hh8]
  have g68 := g7.trans g8
  have g58 := g6.trans g68
  have g48 := g5.trans g58
  have gb8 := g4.trans g48
  have gh8 := gb.trans gb8
  have y9 : h8.get h5.next = some (.row (sesV s fv ov tv kv)) := by rw [g68.2 _ (by omega), x9]
  have d9 : cellsAt h8.get h5.next 10 = some (sesV s fv ov tv kv) := by rw [cellsAt_of y9 (by simp [sesV, sesC])]; rfl
  have d11 : cellsAt h8.get h7.next 10 = some (sesV s fv' ov' tv' kv') := by rw [cellsAt_of x11 (by simp [sesV, sesC])]; rfl
  obtain ⟨r1, r2, r3, hacc⟩ : ∃ x y z, accB o x0 x1 = .agg [.int .i64 x, .int .u8 y, .int .u8 z] := by
    unfold accB; split
    · exact ⟨_, _, _, rfl⟩
    · split <;> exact ⟨_, _, _, rfl⟩
  simp only [sesV, sesC] at d9 d11
  refine dreg_quiet w8 ?_
  simp [d9, d11]
  refine qcall_of (v := .bool true) rfl (fun h2 g => sess_ct ((s5.fams.ge w5 g58).ge w8 g) ((s7.fams.ge w7 g8).ge w8 g) ((s5.out.ge w5 g58).ge w8 g) ((s7.out.ge w7 g8).ge w8 g) ((s5.take.ge w5 g58).ge w8 g) ((s7.take.ge w7 g8).ge w8 g) ((s5.kept.ge w5 g58).ge w8 g) ((s7.kept.ge w7 g8).ge w8 g)) ?_
  simp [e7 _ g48, c3 _ gb8]
  refine qcall_of (v := .agg [.int .i64 r1, .int .u8 r2, .int .u8 r3]) rfl (fun h2 g => by rw [← hacc]; exact accept_ct ((hoo.ge w4 g48).ge w8 g)) ?_
  simp [c1 _ gb8, c3 _ gb8]
  refine qcall_of (v := .agg [.int .i64 r1, .int .u8 r2, .int .u8 r3]) rfl (fun h2 g => by rw [← hacc]; exact raccept_ct ((ho.ge wf gh8).ge w8 g)) ?_
  simp [eqV, eqFs]
  have hcb : ∀ x : H, x.get h5.next = some (.row (sesV s fv ov tv kv)) → cellsAt x.get h5.next 10 = some (sesV s fv ov tv kv) := fun x e => by rw [cellsAt_of e (by simp [sesV, sesC])]; rfl
  simp only [sesV, sesC] at hcb
  have kp : ∀ {sz : Nat} {v : V} {es : List (List V)}, Gl h5 H4.next sz v es → Gl h8 H4.next sz v es := fun g => g.keep g58.1 (fun j hj => g58.2 j (g.lo j hj).2)
  have wr1 := (kp gf5).wr (by simp)
  have wr2 := (kp gk5).wr (by simp)
  rw [List.length_map] at wr1 wr2
  have bd1 := s5.fams.bound
  have bd2 := s5.kept.bound
  rw [List.length_map] at bd1 bd2
  have hlo := g5.1
  refine loop_up (fun i t h' => (t 3 = .ptr h.next 11 0 ∧ t 4 = .ptr (h.next + 1) 11 0 ∧ t 7 = .ptr (hb.next + 4 * room) 11 0 ∧ t 8 = .ptr (hb.next + 5 * room) 11 0 ∧ t 9 = .ptr h5.next 10 0 ∧ t 13 = .int .i64 i) ∧ Same h8 h' H4.next ∧ h'.WF ∧ h'.get h5.next = some (.row (sesV s fv ov tv kv))) s.F.length ⟨by simp, Same.refl _ _, w8, y9⟩ ?_
  rintro i t h1 hi ⟨⟨t3, t4, t7, t8, t9, t13⟩, sm, wf1, y1⟩ K hK
  have cy1 := hcb h1 y1
  have v1 := wr1.same sm
  have l1 := v1.len h1.get
  by_cases hlt : i < s.F.length
  · obtain ⟨j, m, oo, cs, e1, e2, e3, e4, e5, e6⟩ := v1.at hlt
    have hw := wrap_succ hlt bd1
    have hne : ¬ h5.next = j := fun e => by rw [e, e2] at y1; cases y1
    simp [t9, t13, cy1, l1, hlt, e1, e2, e3, e4, hw]
    refine hK _ _ hlt ?_
    refine ⟨by simp [t3, t4, t7, t8, t9], sm.trans (Same.set e2 (by simp; omega) e5), wf1.set e6 _, by rw [H.get_set, if_neg hne]; exact y1⟩
  · simp [t9, t13, cy1, l1, hlt]
    clear hK K l1 v1 cy1
    refine loop_up (fun i t h' => (t 3 = .ptr h.next 11 0 ∧ t 4 = .ptr (h.next + 1) 11 0 ∧ t 7 = .ptr (hb.next + 4 * room) 11 0 ∧ t 8 = .ptr (hb.next + 5 * room) 11 0 ∧ t 9 = .ptr h5.next 10 0 ∧ t 14 = .int .i64 i) ∧ Same h8 h' H4.next ∧ h'.WF ∧ h'.get h5.next = some (.row (sesV s fv ov tv kv))) s.K.length ⟨by simp [t3, t4, t7, t8, t9], sm, wf1, y1⟩ ?_
    clear t3 t4 t7 t8 t9 t13 sm wf1 y1 hlt hi
    rintro i t h1 hi ⟨⟨t3, t4, t7, t8, t9, t14⟩, sm, wf1, y1⟩ K hK
    have cy1 := hcb h1 y1
    have v1 := wr2.same sm
    have l1 := v1.len h1.get
    by_cases hlt : i < s.K.length
    · obtain ⟨j, m, oo, cs, e1, e2, e3, e4, e5, e6⟩ := v1.at hlt
      have hw := wrap_succ hlt bd2
      have hne : ¬ h5.next = j := fun e => by rw [e, e2] at y1; cases y1
      simp [t9, t14, cy1, l1, hlt, e1, e2, e3, e4, hw]
      refine hK _ _ hlt ?_
      refine ⟨by simp [t3, t4, t7, t8, t9], sm.trans (Same.set e2 (by simp; omega) e5), wf1.set e6 _, by rw [H.get_set, if_neg hne]; exact y1⟩
    · have gl4 : Ge H4 h1 := ⟨Nat.le_trans g48.1 sm.1, fun i hi => by rw [sm.2.1 i hi, g48.2 i hi]⟩
      have glb := g4.trans gl4
      have glh := gb.trans glb
      simp [t3, t7, t9, t14, cy1, l1, hlt, e7 _ gl4, c1 _ glb]
      refine same_ct (hoo.ge w4 gl4) (ho.ge wf glh) _ ?_
      simp [t4, t8, e8 _ gl4, c2 _ glb]
      refine same_ct (hpp.ge w4 gl4) (hp.ge wf glh) _ ?_
      simp
      refine works_ct _ _ ?_
      simp
      exact glh
end Go.Am
