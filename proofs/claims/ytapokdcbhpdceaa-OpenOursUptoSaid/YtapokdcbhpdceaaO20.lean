/-
  What an open is made of, among the arguments, taken into the abstract heap.
-/
import Derived.Test.YtapokdcbhpdceaaO19
import Derived.Test.YtapokdcbhpdceaaO10
namespace Go.Am
open Go.Proofs
open Go.ChangeShapes Go.WideShapes
open Go.Proofs.Ytapokdcbhpdceaa (Rows.uptoBulk Rows.uptoBulkAll)

theorem co9 : Try.prog.cellsOf 9 = 1 := by kernel_rfl
theorem co47 : Try.prog.cellsOf 47 = 1 := by kernel_rfl
theorem co49 : Try.prog.cellsOf 49 = 4 := by kernel_rfl
theorem co51 : Try.prog.cellsOf 51 = 23 := by kernel_rfl
theorem co53 : Try.prog.cellsOf 53 = 26 := by kernel_rfl

section
variable {H' : Type} {enc : TypeId × Value → H'} {w : World} {base : Nat} {spare : Nat → Bool} {held : Bool}
/-- Cells of plain data. -/
def Plain (cs : List Value) (vs : List V) : Prop := (∀ μ h, VRs μ h vs cs) ∧ vs.all V.one = true
theorem plain_int {t : TypeId} {k : IntKind} {fuel : Nat} {cs : List Value} {x : DataW H' × List MemPlace} (ht : Try.prog.underlying t = some (.int k)) (h : DataW.trod enc Try.prog w base spare held fuel t cs = some x) : ∃ n : Int, cs = [.int k n] := by
  obtain ⟨n, e, _, _⟩ := DataW.trod_int ht h
  exact ⟨n, e⟩
theorem plain_str {t : TypeId} {fuel : Nat} {cs : List Value} {x : DataW H' × List MemPlace} (ht : Try.prog.underlying t = some .string) (h : DataW.trod enc Try.prog w base spare held fuel t cs = some x) : ∃ s : List UInt8, cs = [.string ⟨s.toArray⟩] := by
  obtain ⟨s, e, _, _⟩ := DataW.trod_string ht h
  exact ⟨s.data.toList, by rw [e]⟩

set_option maxRecDepth 100000
theorem ours_in {W0 : World} {μ : Nat → Pl} {h : H} (r : Rel W0 μ h w) (ro : h.Ro) {v : Value} {d : DataW H'} {ps : List MemPlace} {b : Nat} (hok : Value.okWide Try.prog w .any b 53 v) (ht : DataW.Trod enc Try.prog w base spare held 53 v d ps) :
    ∃ (μ' : Nat → Pl) (h' : H) (c : Cfg) (pl : List V) (fv : V), Rel W0 μ' h' w ∧ h'.Ro ∧ Ext μ h μ' h' ∧ (∀ i o, h.get i = some o → h'.get i = some o) ∧ VR μ' h' (.agg (oursC c pl)) v ∧ PeerAt pl fv c ∧ Ints h'.get fv c.fams ∧
      c.fams.length ≤ Rows.uptoBulk d := by
  unfold Value.okWide at hok
  rw [Try.underlying53] at hok
  obtain ⟨cs, rfl, hsz, ts, hts, _, hrow⟩ := hok
  obtain ⟨fuel, ht⟩ := ht
  have ht' : DataW.trod enc Try.prog w base spare held fuel 53 cs.toList = some (d, ps) := ht
  obtain ⟨xs, m, _, hx, hl, hxl, hf⟩ := DataW.trod_struct Try.underlying53 ht'
  have htsv : ts = [22, 22, 22, 9, 9, 3, 47, 9, 3, 22, 3, 3, 4, 4, 4, 23, 3, 4, 3, 4, 3, 3, 9, 9, 9, 4] := by
    have : Try.prog.cellTypes Try.prog.depth 53 = some [22, 22, 22, 9, 9, 3, 47, 9, 3, 22, 3, 3, 4, 4, 4, 23, 3, 4, 3, 4, 3, 3, 9, 9, 9, 4] := by kernel_rfl
    rw [hts] at this; exact Option.some.inj this
  subst htsv
  rw [co53] at hl
  obtain ⟨l, rfl⟩ : ∃ l : List Value, cs = l.toArray := ⟨cs.toList, by simp⟩
  simp only [List.getElem?_toArray] at hrow hl hf
  match l, hl, xs, hxl with
  | [a0, a1, a2, c0, c1, c2, c3, c4, c5, c6, c7, c8, c9, c10, c11, c12, c13, c14, c15, c16, c17, c18, c19, c20, c21, c22], _, [x0, x1, x2, x3], _ =>
    have f0 := hf 0 _ rfl
    have f1 := hf 1 _ rfl
    have f2 := hf 2 _ rfl
    have f3 := hf 3 _ rfl
    simp [co22, co51] at f0 f1 f2 f3
    have k12 := spot_of Try.underlying23 (by obtain ⟨u, hu, h⟩ := hrow 15 c12 rfl; simp at hu; subst hu; exact h)
    clear hf hrow
    obtain ⟨n0, e0⟩ := plain_int Try.underlying22 f0
    obtain ⟨n1, e1⟩ := plain_int Try.underlying22 f1
    obtain ⟨n2, e2⟩ := plain_int Try.underlying22 f2
    simp at e0 e1 e2
    subst e0 e1 e2
    obtain ⟨ys, m1, _, hy, _, hyl, hg⟩ := DataW.trod_struct Try.underlying51 f3
    match ys, hyl with
    | [y0, y1, y2, y3, y4, y5, y6, y7, y8, y9, y10, y11, y12, y13, y14, y15, y16, y17, y18, y19], _ =>
      have g0 := hg 0 _ rfl
      have g1 := hg 1 _ rfl
      have g2 := hg 2 _ rfl
      have g3 := hg 3 _ rfl
      have g4 := hg 4 _ rfl
      have g5 := hg 5 _ rfl
      have g6 := hg 6 _ rfl
      have g7 := hg 7 _ rfl
      have g8 := hg 8 _ rfl
      have g9 := hg 9 _ rfl
      have g10 := hg 10 _ rfl
      have g11 := hg 11 _ rfl
      have g12 := hg 12 _ rfl
      have g13 := hg 13 _ rfl
      have g14 := hg 14 _ rfl
      have g15 := hg 15 _ rfl
      have g16 := hg 16 _ rfl
      have g17 := hg 17 _ rfl
      have g18 := hg 18 _ rfl
      have g19 := hg 19 _ rfl
      simp [co3, co4, co9, co22, co23, co49] at g0 g1 g2 g3 g4 g5 g6 g7 g8 g9 g10 g11 g12 g13 g14 g15 g16 g17 g18 g19
      clear hg
      obtain ⟨zs, m2, _, _, _, hzl, hh⟩ := DataW.trod_struct Try.underlying49 g2
      match zs, hzl with
      | [z0, z1, z2, z3], _ =>
        have r0 := hh 0 _ rfl
        have r1 := hh 1 _ rfl
        have r2 := hh 2 _ rfl
        have r3 := hh 3 _ rfl
        simp [co3, co9, co47] at r0 r1 r2 r3
        clear hh
        obtain ⟨p0, e0⟩ := plain_str Try.underlying9 g0
        obtain ⟨p1, e1⟩ := plain_str Try.underlying9 g1
        obtain ⟨p2, e2⟩ := plain_int Try.underlying3 r0
        obtain ⟨p3, e3⟩ := plain_int Try.underlying47 r1
        obtain ⟨p4, e4⟩ := plain_str Try.underlying9 r2
        obtain ⟨p5, e5⟩ := plain_int Try.underlying3 r3
        obtain ⟨p6, e6⟩ := plain_int Try.underlying22 g3
        obtain ⟨p7, e7⟩ := plain_int Try.underlying3 g4
        obtain ⟨p8, e8⟩ := plain_int Try.underlying3 g5
        obtain ⟨p9, e9⟩ := trod_bool Try.underlying4 g6
        obtain ⟨p10, e10⟩ := trod_bool Try.underlying4 g7
        obtain ⟨p11, e11⟩ := trod_bool Try.underlying4 g8
        obtain ⟨p13, e13⟩ := plain_int Try.underlying3 g10
        obtain ⟨p14, e14⟩ := trod_bool Try.underlying4 g11
        obtain ⟨p15, e15⟩ := plain_int Try.underlying3 g12
        obtain ⟨p16, e16⟩ := trod_bool Try.underlying4 g13
        obtain ⟨p17, e17⟩ := plain_int Try.underlying3 g14
        obtain ⟨p18, e18⟩ := plain_int Try.underlying3 g15
        obtain ⟨p19, e19⟩ := plain_str Try.underlying9 g16
        obtain ⟨p20, e20⟩ := plain_str Try.underlying9 g17
        obtain ⟨p21, e21⟩ := plain_str Try.underlying9 g18
        obtain ⟨p22, e22⟩ := trod_bool Try.underlying4 g19
        simp only [List.cons.injEq, and_true] at e0 e1 e2 e3 e4 e5 e6 e7 e8 e9 e10 e11 e13 e14 e15 e16 e17 e18 e19 e20 e21 e22
        subst e0 e1 e2 e3 e4 e5 e6 e7 e8 e9 e10 e11 e13 e14 e15 e16 e17 e18 e19 e20 e21 e22
        obtain ⟨μ1, h1, v1, es1, r1', ro1, x1', gg, vr1, s1, q1, zz⟩ := slice_in r ro Try.underlying23 co3 (by omega) g9 k12 (fun vs => ∃ x : Int, vs = [.int .i64 x]) (fun _ _ _ h => leaf_int h)
        obtain ⟨l1, rfl⟩ := map_of_all q1
        refine ⟨μ1, h1, ⟨n0, n1, n2, p6, p7, p11, l1, p13, p14, p16, p17⟩, [.str p0, .str p1, .int .i64 p2, .int .u64 p3, .str p4, .int .i64 p5, .int .u32 p6, .int .i64 p7, .int .i64 p8, .bool p9, .bool p10, .bool p11, v1, .int .i64 p13, .bool p14, .int .i64 p15, .bool p16, .int .i64 p17, .int .i64 p18, .str p19, .str p20, .str p21, .bool p22], v1, r1', ro1, x1', gg, ?_, ?_, s1, ?_⟩
        · exact ⟨_, rfl, .cons rfl (.cons rfl (.cons rfl (.cons rfl (.cons rfl (.cons rfl (.cons rfl (.cons rfl (.cons rfl (.cons rfl (.cons rfl (.cons rfl (.cons rfl (.cons rfl (.cons rfl (.cons vr1 (.cons rfl (.cons rfl (.cons rfl (.cons rfl (.cons rfl (.cons rfl (.cons rfl (.cons rfl (.cons rfl (.cons rfl .nil)))))))))))))))))))))))))⟩
        · have := s1.one
          exact ⟨rfl, by simp [this], rfl, rfl, rfl, rfl, rfl, rfl, rfl, rfl⟩
        · have bd : ∀ (x : DataW H') (n : Nat), ((x = .nil ∧ n = 0) ∨ ∃ el sp : List (DataW H'), x = .slice el sp ∧ el.length = n) → n ≤ Rows.uptoBulk x := by
            rintro x n (⟨rfl, rfl⟩ | ⟨el, sp, rfl, rfl⟩)
            · omega
            · have := Go.Proofs.Ytapokdcbhpdceaa.bulks.slice_le el sp; omega
          have t1 := bd y9.1 l1.length (zz.elim (fun ⟨a, b⟩ => .inl ⟨a, by simpa using b⟩) (fun ⟨el, sp, a, b⟩ => .inr ⟨el, sp, a, by simpa using b⟩))
          rw [(Prod.mk.inj hx).1]
          simp only [List.map_cons, List.map_nil, Rows.uptoBulk, Rows.uptoBulkAll]
          rw [show x3.1 = _ from congrArg Prod.fst hy]
          simp only [List.map_cons, List.map_nil, Rows.uptoBulk, Rows.uptoBulkAll]
          show l1.length ≤ _
          omega
end
end Go.Am
