/-
  Contracts: Of (the open that a configuration says).
-/
import Derived.Test.YtapokdcbhpdceaaO15
import Derived.Test.YtapokdcbhpdceaaAm27
namespace Go.Am
open Go.Proofs

structure Cfg where
  asn : Int
  id : Int
  as2 : Int
  rem : Int
  hold : Int
  b11 : Bool
  fams : List Int
  n13 : Int
  b14 : Bool
  b16 : Bool
  t17 : Int
structure CfgAt (gs cs : List V) (fv : V) (c : Cfg) : Prop where
  gl : gs.length = 13
  go : gs.all V.one = true
  g0 : gs[0]? = some (.int .u32 c.asn)
  g1 : gs[1]? = some (.int .u32 c.id)
  g2 : gs[2]? = some (.int .u32 c.as2)
  cl : cs.length = 23
  co : cs.all V.one = true
  c6 : cs[6]? = some (.int .u32 c.rem)
  c7 : cs[7]? = some (.int .i64 c.hold)
  c11 : cs[11]? = some (.bool c.b11)
  c12 : cs[12]? = some fv
  c13 : cs[13]? = some (.int .i64 c.n13)
  c14 : cs[14]? = some (.bool c.b14)
  c16 : cs[16]? = some (.bool c.b16)
  c17 : cs[17]? = some (.int .i64 c.t17)
def ofAsn (c : Cfg) : Int := if decide (0 < c.as2) && !c.b11 && c.rem != c.asn then c.as2 else c.asn
def ofAdds (c : Cfg) (fs : List Int) : List Add := if decide (1 < c.n13) || c.b14 then fs.map fun f => ⟨f, decide (1 < c.n13), c.b14⟩ else []
def ofKept (c : Cfg) (t : Bool) (fs : List Int) : List Rest := if c.b16 then fs.map fun f => ⟨f, t⟩ else []
def ofO (c : Cfg) (t : Bool) : Opn := ⟨ofAsn c, c.hold, c.id, c.fams, true, true, ofAdds c c.fams, c.b16, c.b16 && t, if c.b16 then c.t17 else 0, ofKept c t c.fams⟩

theorem Gl.low {h : H} {lo lo' sz : Nat} {v : V} {es : List (List V)} (hl : lo' ≤ lo) (g : Gl h lo sz v es) : Gl h lo' sz v es := by
  rcases g with g | ⟨a, j, b, g⟩
  · exact .inl g
  · exact .inr ⟨a, j, by omega, g⟩
theorem set_self {h : H} {i : Nat} {o : O} (e : h.get i = some o) : h.set i o = h := H.ext' rfl fun j => by
  rw [H.get_set]; split
  · rename_i e'; rw [e', e]
  · rfl
/-- An open in the making. -/
def ofC (c : Cfg) (asn : Int) (gr ag : Bool) (tm : Int) (f a k : V) : List V := [.int .u32 asn, .int .i64 c.hold, .int .u32 c.id, f, .bool true, .bool true, a, .bool gr, .bool ag, .int .i64 tm, k]
set_option maxRecDepth 100000
theorem of_ct {h : H} {gs cs : List V} {fv : V} {c : Cfg} {u : Bool} (C : CfgAt gs cs fv c) (hf : Ints h.get fv c.fams) (hbd : c.fams.length ≤ 1048576) {Q : V → H → Prop}
    (qno : checkB (ofO c u) = false → ∀ h2, Ge h h2 → h2.WF → Q (.tup [.agg [.int .u32 0, .int .i64 0, .int .u32 0, .nilsl, .bool false, .bool false, .nilsl, .bool false, .bool false, .int .i64 0, .nilsl], .int .i64 2]) h2)
    (qok : checkB (ofO c u) = true → ∀ f a k h2, Ge h h2 → h2.WF → Gl h2 h.next 1 f (c.fams.map fun x => [.int .i64 x]) → Gl h2 h.next 3 a ((ofAdds c c.fams).map addC) → Gl h2 h.next 2 k ((ofKept c u c.fams).map restC) → Q (.tup [opnV (ofO c u) f a k, .int .i64 0]) h2) : Acalls Try.prog 24 [.agg gs, .agg cs, .bool u] h Q := by
  refine acalls_to Try.func24 S.open_Of_code S.open_Of_enter (Nat.le_of_ble_eq_true rfl) fun wf => ?_; simp only [S.open_Of]
  have fone := hf.one
  simp [C.gl, C.go, C.cl, C.co]
  obtain ⟨hb, hhb⟩ : ∃ hb, hb = ((h.push (.row gs)).push (.row cs)).push (.row [.int .u32 0, .int .i64 0, .int .u32 0, .nilsl, .bool false, .bool false, .nilsl, .bool false, .bool false, .int .i64 0, .nilsl]) := ⟨_, rfl⟩
  have gb : Ge h hb := by rw [hhb]; exact (((Ge.refl _).push _).push _).push _
  have wb : hb.WF := by rw [hhb]; exact ((wf.push _).push _).push _
  have nb : hb.next = h.next + 3 := by rw [hhb]; rfl
  have a1 : ¬ h.next = h.next + 1 + 1 := by omega
  have y1 : hb.get h.next = some (.row gs) := by rw [hhb]; simp [a1]
  have y2 : hb.get (h.next + 1) = some (.row cs) := by rw [hhb]; simp
  have y3 : hb.get (h.next + 1 + 1) = some (.row [.int .u32 0, .int .i64 0, .int .u32 0, .nilsl, .bool false, .bool false, .nilsl, .bool false, .bool false, .int .i64 0, .nilsl]) := by rw [hhb]; simp
  have c1 : ∀ x : H, Ge hb x → cellsAt x.get h.next 13 = some gs := fun x gx => by rw [gx.cells (by omega), cellsAt_of y1 (by simp [C.gl])]; rfl
  have c2 : ∀ x : H, Ge hb x → cellsAt x.get (h.next + 1) 23 = some cs := fun x gx => by rw [gx.cells (by omega), cellsAt_of y2 (by simp [C.cl])]; rfl
  rw [← hhb]
  refine dreg_dwp ?_
  simp [c1 hb, c2 hb, C.g0, C.g1, C.c7, C.c12]
  have hr : room = 16 := rfl
  obtain ⟨v', os, hev, hcl⟩ := clone_ev (k := hb.next + 8 * room) (e := hb.next + 12 * room) wb (hf.ge wf gb) hbd (by omega) (by omega) (fun i hi => rfl)
  have vo := hcl.one
  refine dcall_of hev ?_
  simp [vo, cells_of_one vo, solid_of_one vo, upds_one]
  refine dwp_end ?_ ?_
  · intro q hq
    simp only [List.mem_cons, List.not_mem_nil, or_false] at hq
    rcases hq with rfl | rfl | rfl | rfl | rfl | rfl | rfl | rfl <;> simp [evAt, apart, I.foot, refOf] <;> (try omega)
    all_goals try (intro x o' hx'; have := hcl.ups _ hx'; simp at this; omega)
    trace_state
  obtain ⟨s, hs⟩ : ∃ s, s = hb.next + 10 * room := ⟨_, rfl⟩
  obtain ⟨get1, hg1⟩ : ∃ g, g = upds hb.get (names (hb.next + 8 * room) os) := ⟨_, rfl⟩
  obtain ⟨H4, hH4⟩ : ∃ H4 : H, H4 = ⟨hb.next + 12 * room, upds (upds get1 [(s, .row [.int .u32 0, .int .i64 0, .int .u32 0, .nilsl, .bool false, .bool false, .nilsl, .bool false, .bool false, .int .i64 0, .nilsl])]) [(s, .row (ofC c c.asn false false 0 v' .nilsl .nilsl))]⟩ := ⟨_, rfl⟩
  have n4 : H4.next = hb.next + 12 * room := by rw [hH4]
  have x4 : H4.get s = some (.row (ofC c c.asn false false 0 v' .nilsl .nilsl)) := by rw [hH4]; simp only; rw [upds_one, if_pos rfl]
  have m4 : ∀ i, i ≠ s → H4.get i = get1 i := fun i hi => by rw [hH4]; simp only; rw [upds_one, if_neg hi, upds_one, if_neg hi]
  have old4 : ∀ i, i ≠ s → i ≠ hb.next + 8 * room → i ≠ hb.next + 8 * room + 1 → H4.get i = hb.get i := fun i h1 h2 h3 => by rw [m4 i h1, hg1, hcl.old i h2 h3]
  have g4 : Ge hb H4 := ⟨by omega, fun i hi => old4 i (by omega) (by omega) (by omega)⟩
  have w4 : H4.WF := fun i hi => by rw [old4 i (by omega) (by omega) (by omega), wb i (by omega)]
  have f4 : Ints H4.get v' c.fams := hcl.ints H4.get (fun i hi => by rw [m4 i (by omega), hg1])
  have own4 : c.fams ≠ [] → Gl H4 hb.next 1 v' (c.fams.map fun x => [.int .i64 x]) := fun hne => by
    obtain ⟨e1, e2⟩ := hcl.own hne
    refine .inr ⟨by simpa using hne, hb.next + 8 * room + 1, by omega, by omega, by simp [e1, flat_ints], ?_⟩
    rw [m4 _ (by omega), hg1, e2, flat_ints]
  simp only [ofC] at hH4
  rw [← hs, ← hg1, ← hH4]
  have k1 := c1 _ g4
  have k2 := c2 _ g4
  clear hH4 hev
  simp [k1, C.g2]
  refine guard_meet (fun t' h' => (t' 2 = .bool u ∧ t' 3 = .ptr h.next 13 0 ∧ t' 4 = .ptr (h.next + 1) 23 0 ∧ t' 6 = .ptr (h.next + 1 + 1) 11 0 ∧ t' 8 = .ptr s 11 0 ∧ t' 35 = .bool (decide (0 < c.as2) && !c.b11 && c.rem != c.asn)) ∧ H4 = h') ?_ ?_
  · intro K' hK'
    cases e1 : decide (0 < c.as2) <;> cases e2 : c.b11 <;> simp [k1, k2, C.g0, C.c6, C.c11, e2]
    all_goals exact hK' _ _ (by simp; grind)
  rintro t1 _ ⟨⟨t2, t3, t4, t6, t8, t35⟩, rfl⟩
  simp [t35]
  have xs : ∀ x : H, ∀ r, x.get s = some (.row r) → r.length = 11 → cellsAt x.get s 11 = some r := fun x r e hl => by rw [cellsAt_of e (by simp [hl])]; rfl
  refine cond_cut (fun t' h' => (t' 2 = .bool u ∧ t' 3 = .ptr h.next 13 0 ∧ t' 4 = .ptr (h.next + 1) 23 0 ∧ t' 6 = .ptr (h.next + 1 + 1) 11 0 ∧ t' 8 = .ptr s 11 0) ∧ H4.set s (.row (ofC c (ofAsn c) false false 0 v' .nilsl .nilsl)) = h') ?_ ?_ ?_
  · intro e R hR
    simp only [ofC] at x4
    simp [t3, t8, k1, C.g2, x4]
    refine hR _ _ ⟨by simp [t2, t3, t4, t6, t8], ?_⟩
    simp only [ofC, ofAsn, e, if_pos]
  · intro e R hR
    simp
    refine hR _ _ ⟨by simp [t2, t3, t4, t6, t8], ?_⟩
    rw [show ofAsn c = c.asn by simp only [ofAsn, e]; rfl]
    exact set_self x4
  clear t2 t3 t4 t6 t8 t35
  rintro t1 _ ⟨⟨t2, t3, t4, t6, t8⟩, rfl⟩
  have q1 : ¬ h.next = s := by omega
  have q2 : ¬ h.next + 1 = s := by omega
  simp [t4, q2, k2, C.c16]
  refine cond_cut (fun t' h' => (t' 2 = .bool u ∧ t' 4 = .ptr (h.next + 1) 23 0 ∧ t' 6 = .ptr (h.next + 1 + 1) 11 0 ∧ t' 8 = .ptr s 11 0) ∧ Ge hb h' ∧ h'.WF ∧ h'.get s = some (.row (ofC c (ofAsn c) c.b16 (c.b16 && u) (if c.b16 then c.t17 else 0) v' .nilsl .nilsl)) ∧ H4.next ≤ h'.next ∧ ∀ i, i ≠ s → h'.get i = H4.get i) ?_ ?_ ?_
  · intro e R hR
    refine dreg_dwp ?_
    simp [t2, t4, t8, q2, k2, C.c17, ofC, upds_one]
    refine dwp_end ?_ ?_
    · intro q hq
      simp only [List.mem_cons, List.not_mem_nil, or_false] at hq
      rcases hq with rfl | rfl <;> simp [evAt, apart, I.foot, refOf] <;> omega
    · have hm : ∀ (g : Nat → Option O) (i : Nat) (a b d : O), i ≠ s → upds (upds (upds g [(s, a)]) [(s, b)]) [(s, d)] i = g i := fun g i a b d hi => by rw [upds_one, if_neg hi, upds_one, if_neg hi, upds_one, if_neg hi]
      refine hR _ _ ⟨by simp [t2, t4, t6, t8], ⟨by simp; omega, fun i hi => ?_⟩, fun i hi => ?_, ?_, by simp, fun i hi => ?_⟩
      · simp only; rw [hm _ _ _ _ _ (by omega), H.get_set, if_neg (by omega), g4.2 i hi]
      · simp only at hi ⊢; rw [hm _ _ _ _ _ (by omega), H.get_set, if_neg (by omega), w4 i (by omega)]
      · simp only; rw [upds_one, if_pos rfl]; simp [e, ofC]
      · simp only; rw [hm _ _ _ _ _ hi, H.get_set, if_neg hi]
  · intro e R hR
    simp
    refine hR _ _ ⟨by simp [t2, t4, t6, t8], g4.set (by omega) _, w4.set (by omega) _, by simp [e], by simp, fun i hi => by rw [H.get_set, if_neg hi]⟩
  clear t2 t3 t4 t6 t8
  rintro t1 h5 ⟨⟨t2, t4, t6, t8⟩, g5, w5, x5, n5, o5⟩
  have k3 := c2 _ g5
  have f5 : ∀ g', (∀ i, hb.next ≤ i → i < h5.next → i ≠ s → g' i = h5.get i) → Ints g' v' c.fams := fun g' hg' => hcl.ints g' (fun i hi => by rw [hg' i (by omega) (by omega) (by omega), o5 i (by omega), m4 i (by omega), hg1])
  have own5 : c.fams ≠ [] → Gl h5 hb.next 1 v' (c.fams.map fun x => [.int .i64 x]) ∧ ∀ j ∈ v'.ids, j ≠ s := fun hne => by
    have hj : ∀ j ∈ v'.ids, j ≠ s := fun j hj => by
      obtain ⟨e1, _⟩ := hcl.own hne
      rw [e1] at hj; simp [V.ids] at hj; omega
    exact ⟨(own4 hne).keep n5 (fun j h => o5 j (hj j h)), hj⟩
  clear own4 f4 old4 m4 k1 k2 c1 x4 xs
  have hlen := hf.lenG wf (n := c.fams.length) (by simp) h5 (gb.trans g5)
  simp [t4, k3, C.c12, hlen]
  have hs5 : s < h5.next := by omega
  refine loop_up (fun i t h' => ∃ av kv : V, (t 2 = .bool u ∧ t 4 = .ptr (h.next + 1) 23 0 ∧ t 6 = .ptr (h.next + 1 + 1) 11 0 ∧ t 8 = .ptr s 11 0 ∧ t 48 = fv ∧ t 49 = .int .i64 c.fams.length ∧ t 50 = .int .i64 i) ∧ Ge (h5.set s (.row (ofC c (ofAsn c) c.b16 (c.b16 && u) (if c.b16 then c.t17 else 0) v' av kv))) h' ∧ h'.WF ∧
    Gl h' h5.next 3 av ((ofAdds c (c.fams.take i)).map addC) ∧ Gl h' h5.next 2 kv ((ofKept c u (c.fams.take i)).map restC) ∧ ∀ j ∈ av.ids, j ∉ kv.ids) c.fams.length ⟨.nilsl, .nilsl, by simp [t2, t4, t6, t8], ?_, w5, ?_, ?_, by simp [V.ids]⟩ ?_
  · rw [set_self x5]; exact Ge.refl _
  · have : ofAdds c [] = [] := by simp [ofAdds]
    simp [this, Gl.nil]
  · have : ofKept c u [] = [] := by simp [ofKept]
    simp [this, Gl.nil]
  clear t2 t4 t6 t8
  rintro i t h2 hi ⟨av, kv, ⟨t2, t4, t6, t8, t48, t49, t50⟩, hg, hw, ga, gk, hd⟩ K hK
  have n2 := hg.1
  simp only [H.next_set] at n2
  have x2 := hg.get_set hs5
  have gb2 : Ge hb h2 := ⟨by omega, fun i hi => by rw [hg.get_ne (by omega) (by omega), g5.2 i hi]⟩
  have k2 := c2 _ gb2
  have hca : ∀ x : H, ∀ r, x.get s = some (.row r) → r.length = 11 → cellsAt x.get s 11 = some r := fun x r e hl => by rw [cellsAt_of e (by simp [hl])]; rfl
  have ca := hca _ _ x2 (by simp [ofC])
  have hla : ∀ fs : List Int, (ofAdds c fs).length ≤ fs.length := fun fs => by unfold ofAdds; split <;> simp
  have hlk : ∀ fs : List Int, (ofKept c u fs).length ≤ fs.length := fun fs => by unfold ofKept; split <;> simp
  by_cases hlt : i < c.fams.length
  · obtain ⟨pp, q, oo, cc, e1, _, e2, e3⟩ := hf.at1G wf hlt
    have e2 := e2 _ (gb.trans gb2)
    have hwr := wrap_succ hlt (by omega)
    have htk := List.take_append_getElem hlt
    simp [t4, t48, t49, t50, hlt, e1, e2, e3, k2, C.c13]
    refine or_load (i := h.next + 1) (n := 23) (o := 0) (c := c.b14) (by simp) (by simp [t4]) k2 (by simpa using C.c14) (by simp) (by simp) (by simp) fun w1 w2 => ?_
    simp
    refine cond_cut (fun t' h' => ∃ av' : V, (t' 2 = .bool u ∧ t' 4 = .ptr (h.next + 1) 23 0 ∧ t' 6 = .ptr (h.next + 1 + 1) 11 0 ∧ t' 8 = .ptr s 11 0 ∧ t' 48 = fv ∧ t' 49 = .int .i64 c.fams.length ∧ t' 50 = .int .i64 i ∧ t' 10 = .int .i64 c.fams[i]) ∧ Ge (h5.set s (.row (ofC c (ofAsn c) c.b16 (c.b16 && u) (if c.b16 then c.t17 else 0) v' av' kv))) h' ∧ h'.WF ∧
      Gl h' h5.next 3 av' ((ofAdds c (c.fams.take (i + 1))).map addC) ∧ Gl h' h5.next 2 kv ((ofKept c u (c.fams.take i)).map restC) ∧ ∀ j ∈ av'.ids, j ∉ kv.ids) ?_ ?_ ?_
    · intro e R hR
      have hca' := ca
      simp only [ofC] at hca'
      simp [t4, t8, k2, C.c13, C.c14, hca']
      obtain ⟨h3, hh3⟩ : ∃ h3, h3 = h2.push (.row [.int .i64 c.fams[i], .bool (decide (1 < c.n13)), .bool c.b14]) := ⟨_, rfl⟩
      have n3 : h3.next = h2.next + 1 := by rw [hh3]; rfl
      have g3 : Ge h2 h3 := by rw [hh3]; simp
      have w3 : h3.WF := by rw [hh3]; exact hw.push _
      have ga3 := ga.keep (h' := h3) (by omega) (fun j hj => by rw [g3.2 j (ga.lo j hj).2])
      have hl1 := hla (c.fams.take i)
      have hl2 : (c.fams.take i).length ≤ i := by simp; omega
      obtain ⟨v2, d, ea, gl', nn, kk, wk, ids'⟩ := ga3.append2 (bytes := 16) (x := .sl h2.next 3 0 1 (some 1)) (e := addC ⟨c.fams[i], decide (1 < c.n13), c.b14⟩) (by omega) (by simp) rfl (by rw [hh3]; simp [elemsV_sl]) (by simp) (by omega) (by rw [List.length_map]; omega) (by rw [List.length_map]; omega)
      rw [n3] at ea
      rw [← hh3, ea]
      have x4 : (h3.app d).get s = some (.row (ofC c (ofAsn c) c.b16 (c.b16 && u) (if c.b16 then c.t17 else 0) v' av kv)) := by rw [kk _ (fun hm => by have := (ga3.lo _ hm).1; omega) (by omega), g3.2 _ (by omega), x2]
      have v2o := gl'.one
      simp only [ofC] at x4
      simp [x4, cells_of_one v2o, solid_of_one v2o, t8]
      refine hR _ _ ?_
      refine ⟨v2, by simp [t2, t4, t6, t8, t48, t49, t50], ?_, (wk w3).set (by omega) _, ?_, ?_, ?_⟩
      · refine ⟨by simp; omega, fun j hj => ?_⟩
        simp only [H.next_set] at hj
        rw [H.get_set, H.get_set]
        split
        · simp [ofC]
        · rename_i hne
          rw [kk j (fun hm => by have := (ga3.lo j hm).1; omega) (by omega), g3.2 j (by omega), hg.get_ne hj hne]
      · have := gl'.keep (h' := (h3.app d).set s (.row (ofC c (ofAsn c) c.b16 (c.b16 && u) (if c.b16 then c.t17 else 0) v' v2 kv))) (by simp) (fun j hj => by rw [H.get_set, if_neg (by have := (gl'.lo j hj).1; omega)])
        rw [show ofAdds c (c.fams.take (i + 1)) = ofAdds c (c.fams.take i) ++ [⟨c.fams[i], decide (1 < c.n13), c.b14⟩] by rw [← htk]; simp only [ofAdds, e, if_pos, List.map_append, List.map_cons, List.map_nil]]
        rw [List.map_append]
        simpa [ofC] using this
      · refine gk.keep (by simp; omega) (fun j hj => ?_)
        have := gk.lo j hj
        rw [H.get_set, if_neg (by omega), kk j (fun hm => hd j hm hj) (by omega), g3.2 j (by omega)]
      · intro j hj hk
        rcases ids' j hj with h1 | h1
        · exact hd j h1 hk
        · have := (gk.lo j hk).2; omega
    · intro e R hR
      simp
      refine hR _ _ ?_
      refine ⟨av, by simp [t2, t4, t6, t8, t48, t49, t50], hg, hw, ?_, gk, hd⟩
      rw [show ofAdds c (c.fams.take (i + 1)) = ofAdds c (c.fams.take i) by simp only [ofAdds, e]; rfl]
      exact ga
    clear t2 t4 t6 t8 t48 t49 t50 x2 gb2 k2 ca hg hw ga gk hd n2 e2
    rintro t h2 ⟨av, ⟨t2, t4, t6, t8, t48, t49, t50, t10⟩, hg, hw, ga, gk, hd⟩
    have n2 := hg.1
    simp only [H.next_set] at n2
    have x2 := hg.get_set hs5
    have gb2 : Ge hb h2 := ⟨by omega, fun i hi => by rw [hg.get_ne (by omega) (by omega), g5.2 i hi]⟩
    have k2 := c2 _ gb2
    have ca := hca _ _ x2 (by simp [ofC])
    simp [t4, k2, C.c16]
    refine cond_split ?_ ?_
    · intro e
      simp only [ofC] at ca
      simp [t2, t8, t10, ca]
      obtain ⟨h3, hh3⟩ : ∃ h3, h3 = h2.push (.row [.int .i64 c.fams[i], .bool u]) := ⟨_, rfl⟩
      have n3 : h3.next = h2.next + 1 := by rw [hh3]; rfl
      have g3 : Ge h2 h3 := by rw [hh3]; simp
      have w3 : h3.WF := by rw [hh3]; exact hw.push _
      have gk3 := gk.keep (h' := h3) (by omega) (fun j hj => by rw [g3.2 j (gk.lo j hj).2])
      have hl1 := hlk (c.fams.take i)
      have hl2 : (c.fams.take i).length ≤ i := by simp; omega
      obtain ⟨v2, d, ea, gl', nn, kk, wk, ids'⟩ := gk3.append2 (bytes := 16) (x := .sl h2.next 2 0 1 (some 1)) (e := restC ⟨c.fams[i], u⟩) (by omega) (by simp) rfl (by rw [hh3]; simp [elemsV_sl]) (by simp) (by omega) (by rw [List.length_map]; omega) (by rw [List.length_map]; omega)
      rw [n3] at ea
      rw [← hh3, ea]
      have x4 : (h3.app d).get s = some (.row (ofC c (ofAsn c) c.b16 (c.b16 && u) (if c.b16 then c.t17 else 0) v' av kv)) := by rw [kk _ (fun hm => by have := (gk3.lo _ hm).1; omega) (by omega), g3.2 _ (by omega), x2]
      have v2o := gl'.one
      simp only [ofC] at x4
      simp [x4, cells_of_one v2o, solid_of_one v2o, t8, t50, hwr]
      refine hK _ _ hlt ?_
      refine ⟨av, v2, by simp [t2, t4, t6, t8, t48, t49], ?_, (wk w3).set (by omega) _, ?_, ?_, ?_⟩
      · refine ⟨by simp; omega, fun j hj => ?_⟩
        simp only [H.next_set] at hj
        rw [H.get_set, H.get_set]
        split
        · simp [ofC]
        · rename_i hne
          rw [kk j (fun hm => by have := (gk3.lo j hm).1; omega) (by omega), g3.2 j (by omega), hg.get_ne hj hne]
      · refine ga.keep (by simp; omega) (fun j hj => ?_)
        have := ga.lo j hj
        rw [H.get_set, if_neg (by omega), kk j (fun hm => hd j hj hm) (by omega), g3.2 j (by omega)]
      · have := gl'.keep (h' := (h3.app d).set s (.row (ofC c (ofAsn c) c.b16 (c.b16 && u) (if c.b16 then c.t17 else 0) v' av v2))) (by simp) (fun j hj => by rw [H.get_set, if_neg (by have := (gl'.lo j hj).1; omega)])
        rw [show ofKept c u (c.fams.take (i + 1)) = ofKept c u (c.fams.take i) ++ [⟨c.fams[i], u⟩] by rw [← htk]; simp only [ofKept, e, if_pos, List.map_append, List.map_cons, List.map_nil]]
        rw [List.map_append]
        simpa [ofC] using this
      · intro j hj hk
        rcases ids' j hk with h1 | h1
        · exact hd j hj h1
        · have := (ga.lo j hj).2; omega
    · intro e
      simp [t50, hwr]
      refine hK _ _ hlt ?_
      refine ⟨av, kv, by simp [t2, t4, t6, t8, t48, t49], hg, hw, ga, ?_, hd⟩
      rw [show ofKept c u (c.fams.take (i + 1)) = ofKept c u (c.fams.take i) by simp only [ofKept, e]; rfl]
      exact gk
  · have htk : c.fams.take i = c.fams := List.take_of_length_le (by omega)
    rw [htk] at ga gk
    have ga1 := ga.one
    have gk1 := gk.one
    have ha1 := hla c.fams
    have hk1 := hlk c.fams
    have hoo : OpnAt h2.get (ofO c u) v' av kv := ⟨f5 h2.get (fun j h1 h3 h4 => hg.get_ne h3 h4), ga.sls (by simp) (by rw [List.length_map]; omega), gk.sls (by simp) (by rw [List.length_map]; omega)⟩
    simp only [ofC] at ca
    have x6 := (gb2.2 _ (by omega)).trans y3
    simp [t8, t49, t50, hlt, ca]
    refine check_ct (o := ofO c u) hoo rfl _ ?_
    cases hc : checkB (ofO c u) with
    | false =>
      simp [t6, x6]
      exact qno hc _ ((gb.trans gb2).set (by omega) _) (hw.set (by omega) _)
    | true =>
      simp [t6, t8, x6, ca, vo, ga1, gk1]
      have hne : c.fams ≠ [] := by
        intro e0
        have := checkB_parts (ofO c u)
        rw [hc] at this
        simp [ofO, e0] at this
      obtain ⟨o1, o2⟩ := own5 hne
      refine qok hc v' av kv _ ((gb.trans gb2).set (by omega) _) (hw.set (by omega) _) (Gl.low (lo := hb.next) (by omega) (o1.keep (by simp; omega) (fun j hj => ?_))) (Gl.low (lo := h5.next) (by omega) (ga.keep (by simp) (fun j hj => ?_))) (Gl.low (lo := h5.next) (by omega) (gk.keep (by simp) (fun j hj => ?_)))
      · have h1 := o1.lo j hj
        rw [H.get_set, if_neg (by omega), hg.get_ne h1.2 (o2 j hj)]
      · have h1 := ga.lo j hj
        rw [H.get_set, if_neg (by omega)]
      · have h1 := gk.lo j hj
        rw [H.get_set, if_neg (by omega)]
end Go.Am
