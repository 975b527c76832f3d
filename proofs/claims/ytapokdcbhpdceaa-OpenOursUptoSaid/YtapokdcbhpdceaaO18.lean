/-
  Contracts: the reference's Of: the walk.
-/
import Derived.Test.YtapokdcbhpdceaaO17
namespace Go.Am
open Go.Proofs

set_option maxRecDepth 100000
theorem rof_ct {h : H} {gs cs : List V} {fv : V} {c : Cfg} {u : Bool} (C : CfgAt gs cs fv c) (hf : Ints h.get fv c.fams) (hbd : c.fams.length ≤ 1048576) {Q : V → H → Prop}
    (qno : checkB (ofO c u) = false → ∀ h2, Ge h h2 → h2.WF → Q (.tup [.agg [.int .u32 0, .int .i64 0, .int .u32 0, .nilsl, .bool false, .bool false, .nilsl, .bool false, .bool false, .int .i64 0, .nilsl], .int .i64 2]) h2)
    (qok : checkB (ofO c u) = true → ∀ f a k h2, Ge h h2 → h2.WF → Gl h2 h.next 1 f (c.fams.map fun x => [.int .i64 x]) → Gl h2 h.next 3 a ((ofAdds c c.fams).map addC) → Gl h2 h.next 2 k ((ofKept c u c.fams).map restC) → Q (.tup [opnV (ofO c u) f a k, .int .i64 0]) h2) : Acalls Try.prog 25 [.agg gs, .agg cs, .bool u] h Q := by
  refine acalls_to Try.func25 S.Href10_Of_code S.Href10_Of_enter (Nat.le_of_ble_eq_true rfl) fun wf => ?_; simp only [S.Href10_Of]
  have fone := hf.one
  have a1 : ¬ h.next = h.next + 1 + 1 := by omega
  have bx1 : ∀ n, boxV n (.agg gs) = some (.ptr n 13 0, .push (.row gs)) := fun n => by rw [boxV_agg, if_pos C.go, C.gl]
  have bx2 : ∀ n, boxV n (.agg cs) = some (.ptr n 23 0, .push (.row cs)) := fun n => by rw [boxV_agg, if_pos C.co, C.cl]
  simp [-boxV_agg, -cellsAt_push, bx1, bx2]
  obtain ⟨hb, hhb⟩ : ∃ hb, hb = ((h.push (.row gs)).push (.row cs)).push (.row [.int .u32 0, .int .i64 0, .int .u32 0, .nilsl, .bool false, .bool false, .nilsl, .bool false, .bool false, .int .i64 0, .nilsl]) := ⟨_, rfl⟩
  have gb : Ge h hb := by rw [hhb]; exact (((Ge.refl _).push _).push _).push _
  have wb : hb.WF := by rw [hhb]; exact ((wf.push _).push _).push _
  have nb : hb.next = h.next + 3 := by rw [hhb]; rfl
  have y1 : hb.get h.next = some (.row gs) := by rw [hhb]; simp [a1]
  have y2 : hb.get (h.next + 1) = some (.row cs) := by rw [hhb]; simp
  have y3 : hb.get (h.next + 1 + 1) = some (.row [.int .u32 0, .int .i64 0, .int .u32 0, .nilsl, .bool false, .bool false, .nilsl, .bool false, .bool false, .int .i64 0, .nilsl]) := by rw [hhb]; simp
  have c1 : ∀ x : H, Ge hb x → cellsAt x.get h.next 13 = some gs := fun x gx => by rw [gx.cells (by omega), cellsAt_of y1 (by simp [C.gl])]; rfl
  have c2 : ∀ x : H, Ge hb x → cellsAt x.get (h.next + 1) 23 = some cs := fun x gx => by rw [gx.cells (by omega), cellsAt_of y2 (by simp [C.cl])]; rfl
  rw [← hhb]
  have q1 : ¬ h.next = hb.next := by omega
  have q2 : ¬ h.next + 1 = hb.next := by omega
  simp [c1 hb, c2 hb, C.g0, C.g1, C.c7, C.g2, q1]
  obtain ⟨H1, hH1⟩ : ∃ H1, H1 = (hb.push (.row [.int .u32 0, .int .i64 0, .int .u32 0, .nilsl, .bool false, .bool false, .nilsl, .bool false, .bool false, .int .i64 0, .nilsl])).set hb.next (.row (ofC c c.asn false false 0 .nilsl .nilsl .nilsl)) := ⟨_, rfl⟩
  have g1 : Ge hb H1 := by rw [hH1]; exact ((Ge.refl _).push _).set (Nat.le_refl _) _
  have w1 : H1.WF := by rw [hH1]; exact (wb.push _).set (by simp) _
  have n1 : H1.next = hb.next + 1 := by rw [hH1]; rfl
  have x1 : H1.get hb.next = some (.row (ofC c c.asn false false 0 .nilsl .nilsl .nilsl)) := by rw [hH1]; simp
  simp only [ofC] at hH1
  rw [← hH1]
  have k1 := c1 _ g1
  have k2 := c2 _ g1
  clear hH1
  refine guard_meet (fun t' h' => (t' 2 = .bool u ∧ t' 3 = .ptr h.next 13 0 ∧ t' 4 = .ptr (h.next + 1) 23 0 ∧ t' 6 = .ptr (h.next + 1 + 1) 11 0 ∧ t' 8 = .ptr hb.next 11 0 ∧ t' 32 = .bool (decide (0 < c.as2) && !c.b11 && c.rem != c.asn)) ∧ H1 = h') ?_ ?_
  · intro K' hK'
    cases e1 : decide (0 < c.as2) <;> cases e2 : c.b11 <;> simp [k1, k2, C.g0, C.c6, C.c11, e2]
    all_goals exact hK' _ _ (by simp; grind)
  rintro t1 _ ⟨⟨t2, t3, t4, t6, t8, t32⟩, rfl⟩
  simp [t32]
  obtain ⟨r, hr⟩ : ∃ r : V → V → V → List V, r = fun f a k => ofC c (ofAsn c) false false 0 f a k := ⟨_, rfl⟩
  have hri : ∀ f a k, r f a k = [.int .u32 (ofAsn c), .int .i64 c.hold, .int .u32 c.id, f, .bool true, .bool true, a, .bool false, .bool false, .int .i64 0, k] := fun f a k => by rw [hr]; rfl
  refine cond_cut (fun t' h' => (t' 2 = .bool u ∧ t' 3 = .ptr h.next 13 0 ∧ t' 4 = .ptr (h.next + 1) 23 0 ∧ t' 6 = .ptr (h.next + 1 + 1) 11 0 ∧ t' 8 = .ptr hb.next 11 0) ∧ H1.set hb.next (.row (r .nilsl .nilsl .nilsl)) = h') ?_ ?_ ?_
  · intro e R hR
    simp only [ofC] at x1
    simp [t3, t8, k1, C.g2, x1]
    refine hR _ _ ⟨by simp [t2, t3, t4, t6, t8], ?_⟩
    rw [hri]
    simp only [ofAsn, e, if_pos]
  · intro e R hR
    simp
    refine hR _ _ ⟨by simp [t2, t3, t4, t6, t8], ?_⟩
    rw [hr]
    simp only
    rw [show ofAsn c = c.asn by simp only [ofAsn, e]; rfl]
    exact set_self x1
  clear t2 t3 t4 t6 t8 t32
  rintro t1 _ ⟨⟨t2, t3, t4, t6, t8⟩, rfl⟩
  simp
  have hs5 : hb.next < H1.next := by omega
  have lon := hf.lenG wf (n := c.fams.length) (by simp)
  have hca : ∀ x : H, ∀ r, x.get hb.next = some (.row r) → r.length = 11 → cellsAt x.get hb.next 11 = some r := fun x r e hl => by rw [cellsAt_of e (by simp [hl])]; rfl
  have hla : ∀ fs : List Int, (ofAdds c fs).length ≤ fs.length := fun fs => by unfold ofAdds; split <;> simp
  have hlk : ∀ fs : List Int, (ofKept c u fs).length ≤ fs.length := fun fs => by unfold ofKept; split <;> simp
  have hgb : ∀ {h2 : H} {f a k : V}, Ge (H1.set hb.next (.row (r f a k))) h2 → Ge hb h2 := fun {h2 f a k} hg => ⟨by have := hg.1; simp at this; omega, fun i hi => by rw [hg.get_ne (by omega) (by omega), g1.2 i hi]⟩
  refine loop_up (fun i t h' => ∃ f a k : V, (t 2 = .bool u ∧ t 4 = .ptr (h.next + 1) 23 0 ∧ t 6 = .ptr (h.next + 1 + 1) 11 0 ∧ t 8 = .ptr hb.next 11 0 ∧ t 9 = .int .i64 i) ∧ OfAt H1 h' hb.next H1.next r f a k (c.fams.take i) (ofAdds c (c.fams.take i)) (ofKept c u (c.fams.take i))) c.fams.length ⟨.nilsl, .nilsl, .nilsl, by simp [t2, t4, t6, t8], Ge.refl _, w1.set hs5 _, ?_, ?_, ?_, by simp [V.ids], by simp [V.ids], by simp [V.ids]⟩ ?_
  · simp [Gl.nil]
  · have : ofAdds c [] = [] := by simp [ofAdds]
    simp [this, Gl.nil]
  · have : ofKept c u [] = [] := by simp [ofKept]
    simp [this, Gl.nil]
  clear t2 t3 t4 t6 t8
  rintro i t h2 hi ⟨f, a, k, ⟨t2, t4, t6, t8, t9⟩, X⟩ K hK
  have gb2 := hgb X.ge
  have k2 := c2 _ gb2
  have n2 : H1.next ≤ h2.next := by have := X.ge.1; simpa using this
  have ca := hca _ _ (X.ge.get_set hs5) (by rw [hri]; rfl)
  have hlen := lon h2 (gb.trans gb2)
  by_cases hlt : i < c.fams.length
  · obtain ⟨pp, q, oo, cc, e1, _, e2, e3⟩ := hf.at1G wf hlt
    have hwr := wrap_succ hlt (by omega)
    have htk := List.take_append_getElem hlt
    have hl2 : (c.fams.take i).length ≤ 1048576 := by simp; omega
    have hl3 := hla (c.fams.take i)
    have hl4 := hlk (c.fams.take i)
    obtain ⟨v2, d, ea, v2o, x4, X2⟩ := X.addF hs5 rfl c.fams[i] hl2
    rw [hri] at ca x4
    simp [t4, t8, t9, hlt, e1, e2 _ (gb.trans gb2), e3, k2, C.c12, hlen, ca]
    rw [ea]
    simp [x4, cells_of_one v2o, solid_of_one v2o, t8]
    rw [hri] at X2
    obtain ⟨h3, hh3⟩ : ∃ h3, h3 = ((h2.push (.row [.int .i64 c.fams[i]])).app d).set hb.next (.row [.int .u32 (ofAsn c), .int .i64 c.hold, .int .u32 c.id, v2, .bool true, .bool true, a, .bool false, .bool false, .int .i64 0, k]) := ⟨_, rfl⟩
    rw [← hh3] at X2
    rw [← hh3]
    clear hh3 X ca x4 k2 gb2 hlen ea
    have gb2 := hgb X2.ge
    have k2 := c2 _ gb2
    have ca := hca _ _ (X2.ge.get_set hs5) (by rw [hri]; rfl)
    rw [hri] at ca
    simp [t4, k2, C.c13]
    refine or_load (i := h.next + 1) (n := 23) (o := 0) (c := c.b14) (by simp) (by simp [t4]) k2 (by simpa using C.c14) (by simp) (by simp) (by simp) fun w1 w2 => ?_
    simp
    refine cond_cut (fun t' h' => ∃ a' : V, (t' 2 = .bool u ∧ t' 4 = .ptr (h.next + 1) 23 0 ∧ t' 6 = .ptr (h.next + 1 + 1) 11 0 ∧ t' 8 = .ptr hb.next 11 0 ∧ t' 9 = .int .i64 i ∧ t' 10 = .int .i64 c.fams[i]) ∧ OfAt H1 h' hb.next H1.next r v2 a' k (c.fams.take (i + 1)) (ofAdds c (c.fams.take (i + 1))) (ofKept c u (c.fams.take i))) ?_ ?_ ?_
    · intro e R hR
      obtain ⟨v3, d3, ea3, v3o, x5, X3⟩ := X2.addA hs5 rfl ⟨c.fams[i], decide (1 < c.n13), c.b14⟩ (by omega)
      rw [hri] at x5
      simp [t8, t4, k2, C.c13, C.c14, ca]
      simp only at ea3
      rw [ea3]
      simp [x5, cells_of_one v3o, solid_of_one v3o, t8]
      refine hR _ _ ⟨v3, by simp [t2, t4, t6, t8, t9], ?_⟩
      rw [hri] at X3
      rw [htk] at X3
      rw [show ofAdds c (c.fams.take (i + 1)) = ofAdds c (c.fams.take i) ++ [⟨c.fams[i], decide (1 < c.n13), c.b14⟩] by rw [← htk]; simp only [ofAdds, e, if_pos, List.map_append, List.map_cons, List.map_nil]]
      exact X3
    · intro e R hR
      simp
      refine hR _ _ ⟨a, by simp [t2, t4, t6, t8, t9], ?_⟩
      rw [htk] at X2
      rw [show ofAdds c (c.fams.take (i + 1)) = ofAdds c (c.fams.take i) by simp only [ofAdds, e]; rfl]
      exact X2
    clear t2 t4 t6 t8 t9 X2 gb2 k2 ca n2
    rintro t h2 ⟨a, ⟨t2, t4, t6, t8, t9, t10⟩, X⟩
    have gb2 := hgb X.ge
    have k2 := c2 _ gb2
    have ca := hca _ _ (X.ge.get_set hs5) (by rw [hri]; rfl)
    rw [hri] at ca
    simp [t4, k2, C.c16]
    refine cond_split ?_ ?_
    · intro e
      obtain ⟨v3, d3, ea3, v3o, x5, X3⟩ := X.addK hs5 rfl ⟨c.fams[i], u⟩ (by omega)
      rw [hri] at x5
      simp [t2, t8, t10, ca]
      simp only at ea3
      rw [ea3]
      simp [x5, cells_of_one v3o, solid_of_one v3o, t8, t9, hwr]
      refine hK _ _ hlt ⟨v2, a, v3, by simp [t2, t4, t6, t8], ?_⟩
      rw [hri] at X3
      rw [show ofKept c u (c.fams.take (i + 1)) = ofKept c u (c.fams.take i) ++ [⟨c.fams[i], u⟩] by rw [← htk]; simp only [ofKept, e, if_pos, List.map_append, List.map_cons, List.map_nil]]
      exact X3
    · intro e
      simp [t9, hwr]
      refine hK _ _ hlt ⟨v2, a, k, by simp [t2, t4, t6, t8], ?_⟩
      rw [show ofKept c u (c.fams.take (i + 1)) = ofKept c u (c.fams.take i) by simp only [ofKept, e]; rfl]
      exact X
  · have htk : c.fams.take i = c.fams := List.take_of_length_le (by omega)
    rw [htk] at X
    have fo := X.f.one
    have ao := X.a.one
    have ko := X.k.one
    have ha1 := hla c.fams
    have hk1 := hlk c.fams
    have x2 := X.ge.get_set hs5
    simp [t4, t9, hlt, k2, C.c12, hlen, C.c16]
    refine cond_cut (fun t' h' => (t' 6 = .ptr (h.next + 1 + 1) 11 0 ∧ t' 8 = .ptr hb.next 11 0) ∧ h2.set hb.next (.row (ofC c (ofAsn c) c.b16 (c.b16 && u) (if c.b16 then c.t17 else 0) f a k)) = h') ?_ ?_ ?_
    · intro e R hR
      rw [hri] at ca x2
      have q3 : ¬ h.next + 1 = hb.next := by omega
      simp [t2, t4, t8, x2, q3, k2, C.c17]
      refine hR _ _ ⟨by simp [t6, t8], ?_⟩
      simp [ofC, e]
    · intro e R hR
      simp
      refine hR _ _ ⟨by simp [t6, t8], ?_⟩
      rw [show ofC c (ofAsn c) c.b16 (c.b16 && u) (if c.b16 then c.t17 else 0) f a k = r f a k by rw [hr, e]; simp [ofC]]
      exact set_self x2
    clear t6 t8
    rintro t _ ⟨⟨t6, t8⟩, rfl⟩
    obtain ⟨h3, hh3⟩ : ∃ h3, h3 = h2.set hb.next (.row (ofC c (ofAsn c) c.b16 (c.b16 && u) (if c.b16 then c.t17 else 0) f a k)) := ⟨_, rfl⟩
    have n3 : h3.next = h2.next := by rw [hh3]; rfl
    have gb3 : Ge hb h3 := by rw [hh3]; exact gb2.set (Nat.le_refl _) _
    have w3 : h3.WF := by rw [hh3]; exact X.wf.set (by omega) _
    have kp : ∀ j, j ≠ hb.next → h3.get j = h2.get j := fun j hj => by rw [hh3, H.get_set, if_neg hj]
    have gf := X.f.keep (h' := h3) (by rw [hh3]; simp) (fun j hj => kp j (by have := (X.f.lo j hj).1; omega))
    have ga := X.a.keep (h' := h3) (by rw [hh3]; simp) (fun j hj => kp j (by have := (X.a.lo j hj).1; omega))
    have gk := X.k.keep (h' := h3) (by rw [hh3]; simp) (fun j hj => kp j (by have := (X.k.lo j hj).1; omega))
    have hoo : OpnAt h3.get (ofO c u) f a k := ⟨gf.sls (by simp) (by rw [List.length_map]; omega), ga.sls (by simp) (by rw [List.length_map]; omega), gk.sls (by simp) (by rw [List.length_map]; omega)⟩
    have ca3 := hca h3 _ (by rw [hh3, H.get_set, if_pos rfl]) rfl
    simp only [ofC] at ca3
    have x6 := (gb3.2 _ (by omega)).trans y3
    rw [← hh3]
    simp [t8, ca3]
    refine rcheck_ct (o := ofO c u) hoo rfl _ ?_
    cases hc : checkB (ofO c u) with
    | false =>
      simp [t6, x6]
      exact qno hc _ ((gb.trans gb3).set (by omega) _) (w3.set (by omega) _)
    | true =>
      simp [t6, t8, x6, ca3, fo, ao, ko]
      refine qok hc f a k _ ((gb.trans gb3).set (by omega) _) (w3.set (by omega) _) (Gl.low (lo := H1.next) (by omega) (gf.keep (by simp) (fun j hj => ?_))) (Gl.low (lo := H1.next) (by omega) (ga.keep (by simp) (fun j hj => ?_))) (Gl.low (lo := H1.next) (by omega) (gk.keep (by simp) (fun j hj => ?_)))
      · have h1 := gf.lo j hj
        rw [H.get_set, if_neg (by omega)]
      · have h1 := ga.lo j hj
        rw [H.get_set, if_neg (by omega)]
      · have h1 := gk.lo j hj
        rw [H.get_set, if_neg (by omega)]
end Go.Am
