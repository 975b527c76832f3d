/-
  OpenJudges answers true.
-/
import Derived.Test.YtapokdcbhpdceaaRA
import Derived.Test.YtapokdcbhpdceaaO31
import Derived.Test.YtapokdcbhpdceaaO35
import Derived.Test.YtapokdcbhpdceaaO7
namespace Go.Am
open Go.Proofs

set_option maxRecDepth 100000
def zeroO : Opn := ⟨0, 0, 0, [], false, false, [], false, false, 0, []⟩
def decO (s : List UInt8) : Opn := match decB s with | .ok o => o | .error _ => zeroO
def decE (s : List UInt8) : V := match decB s with | .ok _ => fineV | .error e => badV e
theorem decE_agg (s : List UInt8) : ∃ x y z : Int, decE s = .agg [.int .i64 x, .int .u8 y, .int .u8 z] := by
  unfold decE
  split
  · exact ⟨0, 0, 0, rfl⟩
  · rename_i e _; exact ⟨3, 2, (e : Nat), rfl⟩
theorem decO_lens (s : List UInt8) : (decO s).fams.length ≤ 5 ∧ (decO s).adds.length ≤ 5 ∧ (decO s).kept.length ≤ 5 := by
  unfold decO
  split
  · rename_i o he; exact check_lens (decB_check he)
  · simp [zeroO]
theorem zero_at {h h2 : H} : DecAt h h2 zeroO .nilsl .nilsl .nilsl := ⟨.inl (Gl.nil _ _ _), Gl.nil _ _ _, Gl.nil _ _ _⟩
theorem decode_all {h : H} {s : List UInt8} {Q : V → H → Prop} (q : ∀ f a k h2, Ge h h2 → h2.WF → DecAt h h2 (decO s) f a k → Q (.tup [opnV (decO s) f a k, decE s]) h2) : Acalls Try.prog 18 [.str s] h Q := by
  refine decode_ct (fun e he h2 g2 w2 => ?_) (fun o he f a k h2 g2 w2 d => ?_)
  · have e1 : decO s = zeroO := by unfold decO; rw [he]
    have e2 : decE s = badV e := by unfold decE; rw [he]
    rw [e1, e2] at q
    exact q .nilsl .nilsl .nilsl h2 g2 w2 zero_at
  · have e1 : decO s = o := by unfold decO; rw [he]
    have e2 : decE s = fineV := by unfold decE; rw [he]
    rw [e1, e2] at q
    exact q f a k h2 g2 w2 d
theorem rdecode_all {h : H} {s : List UInt8} {Q : V → H → Prop} (q : ∀ f a k h2, Ge h h2 → h2.WF → DecAt h h2 (decO s) f a k → Q (.tup [opnV (decO s) f a k, decE s]) h2) : Acalls Try.prog 19 [.str s] h Q := by
  refine rdecode_ct (fun e he h2 g2 w2 => ?_) (fun o he f a k h2 g2 w2 d => ?_)
  · have e1 : decO s = zeroO := by unfold decO; rw [he]
    have e2 : decE s = badV e := by unfold decE; rw [he]
    rw [e1, e2] at q
    exact q .nilsl .nilsl .nilsl h2 g2 w2 zero_at
  · have e1 : decO s = o := by unfold decO; rw [he]
    have e2 : decE s = fineV := by unfold decE; rw [he]
    rw [e1, e2] at q
    exact q f a k h2 g2 w2 d
theorem DecAt.opn2 {h h2 : H} {s : List UInt8} {f a k : V} (d : DecAt h h2 (decO s) f a k) : OpnAt h2.get (decO s) f a k := by
  obtain ⟨l1, l2, l3⟩ := decO_lens s
  refine ⟨?_, d.adds.sls (by simp) (by rw [List.length_map]; omega), d.kept.sls (by simp) (by rw [List.length_map]; omega)⟩
  rcases d.fams with g | ⟨e, j, _, _, rfl, hj⟩
  · exact g.sls (by simp) (by rw [List.length_map]; omega)
  · rw [e]
    refine ⟨.inr ⟨_, _, _, _, rfl⟩, by simp, ?_, by simp⟩
    rw [elemsV_sl, if_neg (by simp), cellsAt_of hj (by simp)]
    simp
theorem DecAt.ids {h h2 : H} {o : Opn} {f a k : V} (d : DecAt h h2 o f a k) : (∀ j ∈ f.ids, h.next ≤ j ∧ j < h2.next) ∧ (∀ j ∈ a.ids, h.next ≤ j ∧ j < h2.next) ∧ (∀ j ∈ k.ids, h.next ≤ j ∧ j < h2.next) := by
  refine ⟨?_, d.adds.lo, d.kept.lo⟩
  rcases d.fams with g | ⟨_, j, a, b, rfl, _⟩
  · exact g.lo
  · simp [V.ids, a, b]
theorem DecAt.ge {h h2 h3 : H} {o : Opn} {f a k : V} (d : DecAt h h2 o f a k) (hn : h2.next ≤ h3.next) (kp : ∀ j, h.next ≤ j → j < h2.next → h3.get j = h2.get j) : DecAt h h3 o f a k := by
  refine ⟨?_, d.adds.keep hn (fun j hj => kp j (d.adds.lo j hj).1 (d.adds.lo j hj).2), d.kept.keep hn (fun j hj => kp j (d.kept.lo j hj).1 (d.kept.lo j hj).2)⟩
  rcases d.fams with g | ⟨e, j, a, b, rfl, hj⟩
  · exact .inl (g.keep hn (fun j hj => kp j (g.lo j hj).1 (g.lo j hj).2))
  · exact .inr ⟨e, j, a, by omega, rfl, by rw [kp j a b]; exact hj⟩
theorem DecAt.wl {h h2 : H} {o : Opn} {f a k : V} (d : DecAt h h2 o f a k) : Wl h2 h.next f o.fams.length ∧ Wr h2 h.next 3 a o.adds.length ∧ Wr h2 h.next 2 k o.kept.length := by
  refine ⟨?_, ?_, ?_⟩
  · rcases d.fams with g | ⟨e, j, a, b, rfl, hj⟩
    · have := g.wr (by simp); rw [List.length_map] at this; exact .inl this
    · exact .inr ⟨by rw [e]; rfl, j, _, a, b, rfl, hj⟩
  · have := d.adds.wr (by intro e he; obtain ⟨x, _, rfl⟩ := List.mem_map.1 he; rfl); rw [List.length_map] at this; exact this
  · have := d.kept.wr (by intro e he; obtain ⟨x, _, rfl⟩ := List.mem_map.1 he; rfl); rw [List.length_map] at this; exact this
theorem openJudges_ct {h : H} {s : List UInt8} : Pure Try.prog 4 [.str s] h (.bool true) := by
  refine pure_to Try.func4 S.Hlaw10_OpenJudges_code S.Hlaw10_OpenJudges_enter rfl (Nat.le_of_ble_eq_true rfl) fun wf => ?_; simp only [S.Hlaw10_OpenJudges]
  obtain ⟨x, y, z, hE⟩ := decE_agg s
  obtain ⟨l1, l2, l3⟩ := decO_lens s
  obtain ⟨o, ho⟩ : ∃ o, o = decO s := ⟨_, rfl⟩
  simp
  refine decode_all fun f a k h2 g2 w2 d => ?_
  have od := d.opn2
  rw [hE]
  rw [← ho] at d od l1 l2 l3 ⊢
  have o1 := od.fams.one
  have o2 := od.adds.one
  have o3 := od.kept.one
  simp [o1, o2, o3]
  obtain ⟨h3, hh3⟩ : ∃ h3, h3 = (((h2.push (.row [.int .u32 0, .int .i64 0, .int .u32 0, .nilsl, .bool false, .bool false, .nilsl, .bool false, .bool false, .int .i64 0, .nilsl])).push (.row [.int .i64 0, .int .u8 0, .int .u8 0])).set h2.next (.row (opnC o f a k))).set (h2.next + 1) (.row [.int .i64 x, .int .u8 y, .int .u8 z]) := ⟨_, rfl⟩
  have g3 : Ge h2 h3 := by rw [hh3]; exact ((((Ge.refl _).push _).push _).set (Nat.le_refl _) _).set (by omega) _
  have w3 : h3.WF := by rw [hh3]; exact (((w2.push _).push _).set (by simp; omega) _).set (by simp) _
  have n3 : h3.next = h2.next + 2 := by rw [hh3]; rfl
  have x3 : h3.get h2.next = some (.row (opnC o f a k)) := by rw [hh3]; simp
  have x4 : h3.get (h2.next + 1) = some (.row [.int .i64 x, .int .u8 y, .int .u8 z]) := by rw [hh3]; simp
  simp only [opnC] at hh3
  rw [← hh3]
  clear hh3
  refine rdecode_all fun f' a' k' h4 g4 w4 d' => ?_
  have od' := d'.opn2
  rw [hE]
  rw [← ho] at d' od' ⊢
  have p1 := od'.fams.one
  have p2 := od'.adds.one
  have p3 := od'.kept.one
  have n34 := g4.1
  have n23 := g2.1
  have v3 := (g4.2 _ (by omega)).trans x3
  have k3 : cellsAt h4.get h2.next 11 = some (opnC o f a k) := by rw [cellsAt_of v3 (by simp [opnC])]; rfl
  have r1 : ¬ h2.next = h4.next := by omega
  have r2 : ¬ h2.next = h4.next + 1 := by omega
  simp only [opnC] at k3
  simp [p1, p2, p3, k3, r1, r2]
  obtain ⟨h5, hh5⟩ : ∃ h5, h5 = (((h4.push (.row [.int .u32 0, .int .i64 0, .int .u32 0, .nilsl, .bool false, .bool false, .nilsl, .bool false, .bool false, .int .i64 0, .nilsl])).push (.row [.int .i64 0, .int .u8 0, .int .u8 0])).set h4.next (.row (opnC o f' a' k'))).set (h4.next + 1) (.row [.int .i64 x, .int .u8 y, .int .u8 z]) := ⟨_, rfl⟩
  have g5 : Ge h4 h5 := by rw [hh5]; exact ((((Ge.refl _).push _).push _).set (Nat.le_refl _) _).set (by omega) _
  have w5 : h5.WF := by rw [hh5]; exact (((w4.push _).push _).set (by simp; omega) _).set (by simp) _
  have n5 : h5.next = h4.next + 2 := by rw [hh5]; rfl
  have x5 : h5.get h4.next = some (.row (opnC o f' a' k')) := by rw [hh5]; simp
  have x6 : h5.get (h4.next + 1) = some (.row [.int .i64 x, .int .u8 y, .int .u8 z]) := by rw [hh5]; simp
  have y3 := ((g4.trans g5).2 _ (by omega)).trans x3
  have y4 := ((g4.trans g5).2 _ (by omega)).trans x4
  have c3 : cellsAt h5.get h2.next 11 = some (opnC o f a k) := by rw [cellsAt_of y3 (by simp [opnC])]; rfl
  have c5 : cellsAt h5.get h4.next 11 = some (opnC o f' a' k') := by rw [cellsAt_of x5 (by simp [opnC])]; rfl
  have c4 : cellsAt h5.get (h2.next + 1) 3 = some [.int .i64 x, .int .u8 y, .int .u8 z] := by rw [cellsAt_of y4 (by simp)]; rfl
  have c6 : cellsAt h5.get (h4.next + 1) 3 = some [.int .i64 x, .int .u8 y, .int .u8 z] := by rw [cellsAt_of x6 (by simp)]; rfl
  simp only [opnC] at hh5 c3 c5
  rw [← hh5]
  clear hh5
  have g25 := g3.trans (g4.trans g5)
  refine same_ct (od.ge w2 g25) (od'.ge w4 g5) _ ?_
  simp [c4, c6, c3, eqV, eqFs]
  have d5 := d.ge (h3 := h5) (by omega) (fun j _ hj => g25.2 j hj)
  obtain ⟨u1, u2, u3⟩ := d5.wl
  obtain ⟨di1, di2, di3⟩ := d.ids
  obtain ⟨ei1, ei2, ei3⟩ := d'.ids
  refine spoil2_ct u1 u2 u3 (by omega) (by omega) (by omega) (by omega) fun hs ns ks ws => ?_
  have old : ∀ j, h2.next ≤ j → j < h5.next → hs.get j = h5.get j := fun j h1 h2 => ks j h2 (fun h => by have := di1 j h; omega) (fun h => by have := di2 j h; omega) (fun h => by have := di3 j h; omega)
  have olh : ∀ j, j < h.next → hs.get j = h5.get j := fun j h1 => ks j (by omega) (fun h => by have := di1 j h; omega) (fun h => by have := di2 j h; omega) (fun h => by have := di3 j h; omega)
  simp
  refine decode_all fun f2 a2 k2 h6 g6 w6 d6 => ?_
  have od6 := d6.opn2
  rw [hE]
  rw [← ho] at d6 od6 ⊢
  have q1 := od6.fams.one
  have q2 := od6.adds.one
  have q3 := od6.kept.one
  have n6 := g6.1
  have z3 := ((g6.2 h2.next (by omega)).trans (old _ (by omega) (by omega))).trans y3
  have z4 := ((g6.2 (h2.next + 1) (by omega)).trans (old _ (by omega) (by omega))).trans y4
  have z5 := ((g6.2 h4.next (by omega)).trans (old _ (by omega) (by omega))).trans x5
  have z6 := ((g6.2 (h4.next + 1) (by omega)).trans (old _ (by omega) (by omega))).trans x6
  have k5 : cellsAt h6.get h4.next 11 = some (opnC o f' a' k') := by rw [cellsAt_of z5 (by simp [opnC])]; rfl
  have k6 : cellsAt h6.get (h4.next + 1) 3 = some [.int .i64 x, .int .u8 y, .int .u8 z] := by rw [cellsAt_of z6 (by simp)]; rfl
  have r3 : ¬ h4.next = h2.next := by omega
  have r4 : ¬ h4.next = h2.next + 1 := by omega
  have r5 : ¬ h4.next + 1 = h2.next := by omega
  have r6 : ¬ h4.next + 1 = h2.next + 1 := by omega
  simp only [opnC] at z3 k5
  have r7 : ¬ h4.next + 1 = h2.next + 1 := by omega
  simp [q1, q2, q3, z3, z4, k5, r3, r4]
  obtain ⟨h7, hh7⟩ : ∃ h7, h7 = (h6.set h2.next (.row (opnC o f2 a2 k2))).set (h2.next + 1) (.row [.int .i64 x, .int .u8 y, .int .u8 z]) := ⟨_, rfl⟩
  have n7 : h7.next = h6.next := by rw [hh7]; rfl
  have m7 : ∀ j, j ≠ h2.next → j ≠ h2.next + 1 → h7.get j = h6.get j := fun j a b => by rw [hh7, H.get_set, if_neg b, H.get_set, if_neg a]
  have w7 : h7.WF := by rw [hh7]; exact (w6.set (by omega) _).set (by simp; omega) _
  have e4 : cellsAt h7.get (h2.next + 1) 3 = some [.int .i64 x, .int .u8 y, .int .u8 z] := by rw [hh7]; simp
  have e6 : cellsAt h7.get (h4.next + 1) 3 = some [.int .i64 x, .int .u8 y, .int .u8 z] := (cellsAt_congr (m7 (h4.next + 1) (by omega) (by omega))).trans k6
  have g7 : Ge h h7 := ⟨by omega, fun j hj => by rw [m7 j (by omega) (by omega), g6.2 j (by omega), olh j hj, g25.2 j (by omega), g2.2 j hj]⟩
  have d7 := d6.ge (h3 := h7) (by omega) (fun j a b => m7 j (by omega) (by omega))
  have d8 := d'.ge (h3 := h7) (by omega) (fun j a b => by rw [m7 j (by omega) (by omega), g6.2 j (by omega), old j (by omega) (by omega), g5.2 j b])
  simp only [opnC] at hh7
  rw [← hh7]
  clear hh7
  rw [ho] at d7 d8
  have od7 := d7.opn2
  have od8 := d8.opn2
  rw [← ho] at od7 od8
  refine same_ct od7 od8 _ ?_
  simp [e4, e6, eqV, eqFs]
  refine works_ct _ _ ?_
  simp
  exact g7
end Go.Am
