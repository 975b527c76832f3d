/-
  OpenOurs answers true.
-/
import Derived.Test.YtapokdcbhpdceaaO18
import Derived.Test.YtapokdcbhpdceaaO7
import Derived.Test.YtapokdcbhpdceaaO8
namespace Go.Am
open Go.Proofs

def zeroO : Opn := ⟨0, 0, 0, [], false, false, [], false, false, 0, []⟩
def ofR (c : Cfg) (u : Bool) : Opn × Int := if checkB (ofO c u) then (ofO c u, 0) else (zeroO, 2)
theorem ofR_len (c : Cfg) (u : Bool) : (ofR c u).1.fams.length ≤ c.fams.length ∧ (ofR c u).1.adds.length ≤ c.fams.length ∧ (ofR c u).1.kept.length ≤ c.fams.length := by
  have h1 : (ofAdds c c.fams).length ≤ c.fams.length := by unfold ofAdds; split <;> simp
  have h2 : (ofKept c u c.fams).length ≤ c.fams.length := by unfold ofKept; split <;> simp
  unfold ofR
  split
  · exact ⟨Nat.le_refl _, h1, h2⟩
  · exact ⟨Nat.zero_le _, Nat.zero_le _, Nat.zero_le _⟩
theorem of_ct2 {h : H} {gs cs : List V} {fv : V} {c : Cfg} {u : Bool} (C : CfgAt gs cs fv c) (hf : Ints h.get fv c.fams) (hbd : c.fams.length ≤ 1048576) {Q : V → H → Prop}
    (q : ∀ f a k h2, Ge h h2 → h2.WF → Gl h2 h.next 1 f ((ofR c u).1.fams.map fun x => [.int .i64 x]) → Gl h2 h.next 3 a ((ofR c u).1.adds.map addC) → Gl h2 h.next 2 k ((ofR c u).1.kept.map restC) → Q (.tup [opnV (ofR c u).1 f a k, .int .i64 (ofR c u).2]) h2) : Acalls Try.prog 24 [.agg gs, .agg cs, .bool u] h Q := by
  unfold ofR at q
  refine of_ct C hf hbd (fun hc h2 g w => ?_) (fun hc f a k h2 g w g1 g2 g3 => ?_)
  · rw [hc] at q
    exact q .nilsl .nilsl .nilsl h2 g w (Gl.nil _ _ _) (Gl.nil _ _ _) (Gl.nil _ _ _)
  · rw [hc] at q
    exact q f a k h2 g w g1 g2 g3
theorem rof_ct2 {h : H} {gs cs : List V} {fv : V} {c : Cfg} {u : Bool} (C : CfgAt gs cs fv c) (hf : Ints h.get fv c.fams) (hbd : c.fams.length ≤ 1048576) {Q : V → H → Prop}
    (q : ∀ f a k h2, Ge h h2 → h2.WF → Gl h2 h.next 1 f ((ofR c u).1.fams.map fun x => [.int .i64 x]) → Gl h2 h.next 3 a ((ofR c u).1.adds.map addC) → Gl h2 h.next 2 k ((ofR c u).1.kept.map restC) → Q (.tup [opnV (ofR c u).1 f a k, .int .i64 (ofR c u).2]) h2) : Acalls Try.prog 25 [.agg gs, .agg cs, .bool u] h Q := by
  unfold ofR at q
  refine rof_ct C hf hbd (fun hc h2 g w => ?_) (fun hc f a k h2 g w g1 g2 g3 => ?_)
  · rw [hc] at q
    exact q .nilsl .nilsl .nilsl h2 g w (Gl.nil _ _ _) (Gl.nil _ _ _) (Gl.nil _ _ _)
  · rw [hc] at q
    exact q f a k h2 g w g1 g2 g3

structure PeerAt (ps : List V) (fv : V) (c : Cfg) : Prop where
  cl : ps.length = 23
  co : ps.all V.one = true
  c6 : ps[6]? = some (.int .u32 c.rem)
  c7 : ps[7]? = some (.int .i64 c.hold)
  c11 : ps[11]? = some (.bool c.b11)
  c12 : ps[12]? = some fv
  c13 : ps[13]? = some (.int .i64 c.n13)
  c14 : ps[14]? = some (.bool c.b14)
  c16 : ps[16]? = some (.bool c.b16)
  c17 : ps[17]? = some (.int .i64 c.t17)
def oursC (c : Cfg) (ps : List V) : List V := .int .u32 c.asn :: .int .u32 c.id :: .int .u32 c.as2 :: ps
def cfgC (c : Cfg) : List V := [.int .u32 c.asn, .int .u32 c.id, .int .u32 c.as2, .nilsl, .int .u32 0, .str [], .int .u32 0, .int .u32 0, .nilsl, .nilsl, .nilsl, .nilsl, .nilsl]
theorem PeerAt.cfg {ps : List V} {fv : V} {c : Cfg} (p : PeerAt ps fv c) : CfgAt (cfgC c) ps fv c := ⟨rfl, rfl, rfl, rfl, rfl, p.cl, p.co, p.c6, p.c7, p.c11, p.c12, p.c13, p.c14, p.c16, p.c17⟩
theorem PeerAt.set {ps : List V} {fv v : V} {c : Cfg} (p : PeerAt ps fv c) (hv : v.one = true) : PeerAt (putCells ps 12 [v]) v c := by
  obtain ⟨cl, co, c6, c7, c11, c12, c13, c14, c16, c17⟩ := p
  have hs : putCells ps 12 [v] = ps.set 12 v := by
    rw [List.set_eq_take_append_cons_drop, if_pos (by omega)]; simp [putCells]
  rw [hs]
  refine ⟨by simpa using cl, ?_, ?_, ?_, ?_, ?_, ?_, ?_, ?_, ?_⟩
  · rw [List.all_eq_true] at co ⊢
    intro x hx
    rcases List.mem_or_eq_of_mem_set hx with h | rfl
    · exact co x h
    · exact hv
  all_goals (first | (rw [List.getElem?_set_ne (by decide)]; assumption) | (rw [List.getElem?_set_self (by omega)]))

set_option maxRecDepth 100000
theorem openOurs_ct {h : H} {ps : List V} {fv : V} {c : Cfg} {u : Bool} (P : PeerAt ps fv c) (hf : Ints h.get fv c.fams) (hbd : c.fams.length ≤ 1048576) : Pure Try.prog 8 [.agg (oursC c ps), .bool u] h (.bool true) := by
  refine pure_to Try.func8 S.Hlaw10_OpenOurs_code S.Hlaw10_OpenOurs_enter rfl (Nat.le_of_ble_eq_true rfl) fun wf => ?_; simp only [S.Hlaw10_OpenOurs]
  have fone := hf.one
  have oc : (oursC c ps).all V.one = true := by simp only [oursC, List.all_cons, P.co]; rfl
  have ol : (oursC c ps).length = 26 := by simp [oursC, P.cl]
  have bx1 : ∀ n, boxV n (.agg (oursC c ps)) = some (.ptr n 26 0, .push (.row (oursC c ps))) := fun n => by rw [boxV_agg, if_pos oc, ol]
  have tk : ps.take 23 = ps := List.take_of_length_le (by rw [P.cl]; omega)
  have o0 : ∀ hl : 0 < (oursC c ps).length, (oursC c ps)[0]'hl = .int .u32 c.asn := fun _ => rfl
  have o1 : ∀ hl : 1 < (oursC c ps).length, (oursC c ps)[1]'hl = .int .u32 c.id := fun _ => rfl
  have o2 : ∀ hl : 2 < (oursC c ps).length, (oursC c ps)[2]'hl = .int .u32 c.as2 := fun _ => rfl
  have o15 : ∀ hl : 15 < (oursC c ps).length, (oursC c ps)[15]'hl = fv := fun hl => by
    have e : (oursC c ps)[15]? = some fv := P.c12
    rw [List.getElem?_eq_getElem hl] at e; exact Option.some.inj e
  have od : ((oursC c ps).drop 3).take 23 = ps := tk
  have psl := P.cl
  have pso := P.co
  simp [-boxV_agg, -cellsAt_push, bx1]
  obtain ⟨H1, hH1⟩ : ∃ H1, H1 = h.push (.row (oursC c ps)) := ⟨_, rfl⟩
  have g1 : Ge h H1 := by rw [hH1]; simp
  have w1 : H1.WF := by rw [hH1]; exact wf.push _
  have n1 : H1.next = h.next + 1 := by rw [hH1]; rfl
  have c1 : ∀ x : H, Ge H1 x → cellsAt x.get h.next 26 = some (oursC c ps) := fun x gx => by rw [gx.cells (by omega), cellsAt_of (o := .row (oursC c ps)) (by rw [hH1]; simp) (by simp [ol])]; rfl
  rw [← hH1]
  have q1 : ¬ h.next = H1.next := by omega
  have q2 : ¬ h.next = H1.next + 1 := by omega
  simp [c1 H1, o0, o1, o2, o15, od, ol, q1, q2, psl, pso, putCells]
  obtain ⟨H2, hH2⟩ : ∃ H2, H2 = (((H1.push (.row [.int .u32 0, .int .u32 0, .int .u32 0, .nilsl, .int .u32 0, .str [], .int .u32 0, .int .u32 0, .nilsl, .nilsl, .nilsl, .nilsl, .nilsl])).set H1.next (.row (cfgC c))).push (.row [.str [], .str [], .int .i64 0, .int .u64 0, .str [], .int .i64 0, .int .u32 0, .int .i64 0, .int .i64 0, .bool false, .bool false, .bool false, .nilsl, .int .i64 0, .bool false, .int .i64 0, .bool false, .int .i64 0, .int .i64 0, .str [], .str [], .str [], .bool false])).set (H1.next + 1) (.row ps) := ⟨_, rfl⟩
  have g2 : Ge H1 H2 := by rw [hH2]; exact ((((Ge.refl _).push _).set (Nat.le_refl _) _).push _).set (by omega) _
  have w2 : H2.WF := by rw [hH2]; exact (((w1.push _).set (by simp) _).push _).set (by simp) _
  have n2 : H2.next = H1.next + 1 + 1 := by rw [hH2]; rfl
  have x5 : H2.get H1.next = some (.row (cfgC c)) := by rw [hH2]; simp
  have x6 : H2.get (H1.next + 1) = some (.row ps) := by rw [hH2]; simp
  simp only [cfgC] at hH2
  rw [← hH2, ← n2]
  obtain ⟨fv2, d, ea, g3, sf2, fo2, w3, r3⟩ := copy_app (bytes := 8) w2 (hf.ge wf (g1.trans g2)) (by simp) (by simp) (by simp; omega)
  rw [ea]
  obtain ⟨H3, hH3⟩ : ∃ H3, H3 = H2.app d := ⟨_, rfl⟩
  rw [← hH3] at g3 sf2 w3 r3
  have n3 := g3.1
  have y6 : H3.get (H1.next + 1) = some (.row ps) := by rw [g3.2 _ (by omega), x6]
  simp [← hH3, y6, psl, solid_of_one fo2, cells_of_one fo2, -putCells]
  have P2 := P.set fo2
  obtain ⟨ps2, hps2⟩ : ∃ p, p = putCells ps 12 [fv2] := ⟨_, rfl⟩
  rw [← hps2] at P2
  rw [← hps2]
  clear hps2
  obtain ⟨H4, hH4⟩ : ∃ H4, H4 = H3.set (H1.next + 1) (.row ps2) := ⟨_, rfl⟩
  have g4 : Ge H1 H4 := by rw [hH4]; exact (g2.trans g3).set (by omega) _
  have w4 : H4.WF := by rw [hH4]; exact w3.set (by omega) _
  have n4 : H4.next = H3.next := by rw [hH4]; rfl
  have sf4 : Ints H4.get fv2 c.fams := sf2.chg fun j hj => by rw [hH4, H.get_set, if_neg (by have := r3 j hj; omega)]
  have c5 : ∀ x : H, Ge H4 x → cellsAt x.get H1.next 13 = some (cfgC c) := fun x gx => by
    rw [gx.cells (by omega), cellsAt_of (o := .row (cfgC c)) (by rw [hH4, H.get_set, if_neg (by omega), g3.2 _ (by omega), x5]) (by simp [cfgC])]; rfl
  have c6 : ∀ x : H, Ge H4 x → cellsAt x.get (H1.next + 1) 23 = some ps2 := fun x gx => by
    rw [gx.cells (by omega), cellsAt_of (o := .row ps2) (by rw [hH4, H.get_set, if_pos rfl]) (by simp [P2.cl])]; rfl
  have cl5 : (cfgC c).length = 13 := rfl
  have p2l := P2.cl
  have p2t : ps2.take 23 = ps2 := List.take_of_length_le (by rw [P2.cl]; omega)
  have c5t : (cfgC c).take 13 = cfgC c := rfl
  have e5 := c5 H4 (Ge.refl _)
  have e6 := c6 H4 (Ge.refl _)
  have q5 : H1.next ≠ H1.next + 1 := by omega
  rw [← hH4]
  have e5' : cellsAt H3.get H1.next 13 = some (cfgC c) := by rw [← e5, hH4, cellsAt_set, if_neg q5]
  simp [e5', e6, cl5, c5t, p2l, p2t]
  refine of_ct2 P2.cfg sf4 hbd fun f a k h5 g5 w5 gf ga gk => ?_
  obtain ⟨o, ho⟩ : ∃ o, o = (ofR c u).1 := ⟨_, rfl⟩
  obtain ⟨l1, l2, l3⟩ := ofR_len c u
  rw [← ho] at gf ga gk l1 l2 l3
  rw [← ho]
  have fo := gf.one
  have ao := ga.one
  have ko := gk.one
  have ne5 : ¬ H1.next = h5.next := by have := g5.1; omega
  have ne5' : ¬ h.next = h5.next := by have := g5.1; omega
  simp [fo, ao, ko, ne5, ne5', c5 _ g5, cl5, c5t, c1 _ (g4.trans g5), ol, od]
  obtain ⟨h6, hh6⟩ : ∃ h6, h6 = (h5.push (.row [.int .u32 0, .int .i64 0, .int .u32 0, .nilsl, .bool false, .bool false, .nilsl, .bool false, .bool false, .int .i64 0, .nilsl])).set h5.next (.row (opnC o f a k)) := ⟨_, rfl⟩
  have g6 : Ge h5 h6 := by rw [hh6]; exact ((Ge.refl _).push _).set (Nat.le_refl _) _
  have w6 : h6.WF := by rw [hh6]; exact (w5.push _).set (by simp) _
  have n6 : h6.next = h5.next + 1 := by rw [hh6]; rfl
  have x8 : h6.get h5.next = some (.row (opnC o f a k)) := by rw [hh6]; simp
  simp only [opnC] at hh6
  rw [← hh6]
  have g46 := g5.trans g6
  refine rof_ct2 P.cfg (hf.ge wf ((g1.trans g4).trans g46)) hbd fun f' a' k' h7 g7 w7 gf' ga' gk' => ?_
  rw [← ho] at gf' ga' gk'
  rw [← ho]
  have fo' := gf'.one
  have ao' := ga'.one
  have ko' := gk'.one
  have d1 : ∀ x : H, Ge h6 x → cellsAt x.get h5.next 11 = some (opnC o f a k) := fun x gx => by rw [gx.cells (by omega), cellsAt_of x8 (by simp [opnC])]; rfl
  have ne7 : ¬ h5.next = h7.next := by have := g7.1; omega
  have d17 := d1 _ g7
  simp only [opnC] at d17
  simp [fo', ao', ko', ne7, d17]
  obtain ⟨h8, hh8⟩ : ∃ h8, h8 = (h7.push (.row [.int .u32 0, .int .i64 0, .int .u32 0, .nilsl, .bool false, .bool false, .nilsl, .bool false, .bool false, .int .i64 0, .nilsl])).set h7.next (.row (opnC o f' a' k')) := ⟨_, rfl⟩
  have g8 : Ge h7 h8 := by rw [hh8]; exact ((Ge.refl _).push _).set (Nat.le_refl _) _
  have w8 : h8.WF := by rw [hh8]; exact (w7.push _).set (by simp) _
  have x10 : h8.get h7.next = some (.row (opnC o f' a' k')) := by rw [hh8]; simp
  simp only [opnC] at hh8
  rw [← hh8]
  have g68 := g7.trans g8
  have d2 : cellsAt h8.get h7.next 11 = some (opnC o f' a' k') := by rw [cellsAt_of x10 (by simp [opnC])]; rfl
  have d1' := d1 _ g68
  have kp : ∀ {sz : Nat} {v : V} {es : List (List V)}, Gl h5 H4.next sz v es → Gl h8 H4.next sz v es := fun g => g.keep (by have := g68.1; omega) (fun j hj => (g6.trans g68).2 j (g.lo j hj).2)
  have kp' : ∀ {sz : Nat} {v : V} {es : List (List V)}, Gl h7 h6.next sz v es → Gl h8 h6.next sz v es := fun g => g.keep g8.1 (fun j hj => g8.2 j (g.lo j hj).2)
  have hoo : OpnAt h8.get o f a k := ⟨(kp gf).sls (by simp) (by rw [List.length_map]; omega), (kp ga).sls (by simp) (by rw [List.length_map]; omega), (kp gk).sls (by simp) (by rw [List.length_map]; omega)⟩
  have hoo' : OpnAt h8.get o f' a' k' := ⟨(kp' gf').sls (by simp) (by rw [List.length_map]; omega), (kp' ga').sls (by simp) (by rw [List.length_map]; omega), (kp' gk').sls (by simp) (by rw [List.length_map]; omega)⟩
  simp only [opnC] at d1' d2
  try simp [d1', d2]
  refine same_ct hoo hoo' _ ?_
  simp [d1']
  refine spoil_ct (lo := H4.next) ((kp gf).wr (by simp)) ((kp ga).wr (by simp)) ((kp gk).wr (by simp)) (by have := g46.1; have := g68.1; omega) (by rw [List.length_map]; omega) (by rw [List.length_map]; omega) (by rw [List.length_map]; omega) fun h9 s9 w9 => ?_
  have g9 : Ge H4 h9 := ⟨by have := (g46.trans g68).1; have := s9.1; omega, fun i hi => by rw [s9.2.1 i hi, (g46.trans g68).2 i hi]⟩
  have e9 := c6 _ g9
  have o12 : ∀ hl : 12 < ps2.length, ps2[12]'hl = fv2 := fun hl => by
    have e := P2.c12
    rw [List.getElem?_eq_getElem hl] at e; exact Option.some.inj e
  simp [e9, c1 _ (g4.trans g9), o15, o12, p2l, ol]
  refine sameInts_ct (sf4.ge w4 g9) (hf.ge wf ((g1.trans g4).trans g9)) _ ?_
  simp
  refine works_ct _ _ ?_
  simp
  exact (g1.trans g4).trans g9
end Go.Am
