/-
  An open among the arguments, taken into the abstract heap.
-/
import Derived.Test.YtapokdcbhpdceaaO5
import Derived.Test.YtapokdcbhpdceaaAm22
import Derived.Test.YtapokdcbhpdceaaBulk
import Derived.KernelRfl
namespace Go.Am
open Go.Proofs
open Go.ChangeShapes Go.WideShapes
open Go.Proofs.Ytapokdcbhpdceaa (Rows.uptoBulk Rows.uptoBulkAll)

theorem co3 : Try.prog.cellsOf 3 = 1 := by kernel_rfl
theorem co4 : Try.prog.cellsOf 4 = 1 := by kernel_rfl
theorem co22 : Try.prog.cellsOf 22 = 1 := by kernel_rfl
theorem co23 : Try.prog.cellsOf 23 = 1 := by kernel_rfl
theorem co24 : Try.prog.cellsOf 24 = 1 := by kernel_rfl
theorem co25 : Try.prog.cellsOf 25 = 1 := by kernel_rfl
theorem co27 : Try.prog.cellsOf 27 = 11 := by kernel_rfl
theorem co77 : Try.prog.cellsOf 77 = 3 := by kernel_rfl
theorem co69 : Try.prog.cellsOf 69 = 2 := by kernel_rfl

section
variable {H' : Type} {enc : TypeId × Value → H'} {w : World} {base : Nat} {spare : Nat → Bool} {held : Bool}
theorem trod_bool {t : TypeId} {fuel : Nat} {cs : List Value} {x : DataW H' × List MemPlace} (ht : Try.prog.underlying t = some .bool) (h : DataW.trod enc Try.prog w base spare held fuel t cs = some x) : ∃ b, cs = [.bool b] := by
  cases fuel with
  | zero => simp [DataW.trod] at h
  | succ n =>
    unfold DataW.trod at h
    rw [ht] at h
    split at h <;> simp_all
theorem leaf_int {cs' : List Value} {y : DataW H' × List MemPlace} {n : Nat} (h : DataW.trod enc Try.prog w base spare held n 3 cs' = some y) : ∃ vs : List V, vs.length = 1 ∧ (∀ μ h, VRs μ h vs cs') ∧ ∃ x : Int, vs = [.int .i64 x] := by
  obtain ⟨n, rfl, _, _⟩ := DataW.trod_int Try.underlying3 h
  exact ⟨[.int .i64 n], rfl, fun μ h => .cons rfl .nil, n, rfl⟩
set_option maxRecDepth 100000
theorem leaf_add {cs' : List Value} {y : DataW H' × List MemPlace} {n : Nat} (h : DataW.trod enc Try.prog w base spare held n 77 cs' = some y) : ∃ vs : List V, vs.length = 3 ∧ (∀ μ h, VRs μ h vs cs') ∧ ∃ x : Add, vs = addC x := by
  obtain ⟨xs, m, _, _, hl, hxl, hf⟩ := DataW.trod_struct Try.underlying77 h
  rw [co77] at hl
  match cs', hl, xs, hxl with
  | [c0, c1, c2], _, [x0, x1, x2], _ =>
    have f0 := hf 0 _ rfl
    have f1 := hf 1 _ rfl
    have f2 := hf 2 _ rfl
    simp [co3, co4] at f0 f1 f2
    obtain ⟨n0, e0, _, _⟩ := DataW.trod_int Try.underlying3 f0
    obtain ⟨b1, e1⟩ := trod_bool Try.underlying4 f1
    obtain ⟨b2, e2⟩ := trod_bool Try.underlying4 f2
    simp at e0 e1 e2
    subst e0 e1 e2
    exact ⟨[.int .i64 n0, .bool b1, .bool b2], rfl, fun μ h => .cons rfl (.cons rfl (.cons rfl .nil)), ⟨n0, b1, b2⟩, rfl⟩
set_option maxRecDepth 100000
theorem leaf_rest {cs' : List Value} {y : DataW H' × List MemPlace} {n : Nat} (h : DataW.trod enc Try.prog w base spare held n 69 cs' = some y) : ∃ vs : List V, vs.length = 2 ∧ (∀ μ h, VRs μ h vs cs') ∧ ∃ x : Rest, vs = restC x := by
  obtain ⟨xs, m, _, _, hl, hxl, hf⟩ := DataW.trod_struct Try.underlying69 h
  rw [co69] at hl
  match cs', hl, xs, hxl with
  | [c0, c1], _, [x0, x1], _ =>
    have f0 := hf 0 _ rfl
    have f1 := hf 1 _ rfl
    simp [co3, co4] at f0 f1
    obtain ⟨n0, e0, _, _⟩ := DataW.trod_int Try.underlying3 f0
    obtain ⟨b1, e1⟩ := trod_bool Try.underlying4 f1
    simp at e0 e1
    subst e0 e1
    exact ⟨[.int .i64 n0, .bool b1], rfl, fun μ h => .cons rfl (.cons rfl .nil), ⟨n0, b1⟩, rfl⟩

/-- A slice among the cells of an argument begins at a cell. -/
theorem spot_of {t e : TypeId} {b : Nat} {c : Value} (ht : Try.prog.underlying t = some (.slice e)) (h : Cell.okWide Try.prog w .any b t c) : ∀ a len cap, c = .slice (some a) len cap → a.spot = none := by
  rintro a len cap rfl
  simp only [Cell.okWide, ht, Cell.ok] at h
  exact h.2.2.2.1

set_option maxRecDepth 100000
theorem open_in {W0 : World} {μ : Nat → Pl} {h : H} (r : Rel W0 μ h w) (ro : h.Ro) {v : Value} {d : DataW H'} {ps : List MemPlace} {b : Nat} (hok : Value.okWide Try.prog w .any b 27 v) (ht : DataW.Trod enc Try.prog w base spare held 27 v d ps) :
    ∃ (μ' : Nat → Pl) (h' : H) (o : Opn) (f a k : V), Rel W0 μ' h' w ∧ h'.Ro ∧ Ext μ h μ' h' ∧ (∀ i o, h.get i = some o → h'.get i = some o) ∧ VR μ' h' (opnV o f a k) v ∧ OpnAt h'.get o f a k ∧ o.Ok ∧
      o.fams.length + o.adds.length + o.kept.length ≤ Rows.uptoBulk d := by
  unfold Value.okWide at hok
  rw [Try.underlying27] at hok
  obtain ⟨cs, rfl, hsz, ts, hts, _, hrow⟩ := hok
  obtain ⟨fuel, ht⟩ := ht
  have ht' : DataW.trod enc Try.prog w base spare held fuel 27 cs.toList = some (d, ps) := ht
  obtain ⟨xs, m, _, hx, hl, hxl, hf⟩ := DataW.trod_struct Try.underlying27 ht'
  have htsv : ts = [22, 3, 22, 23, 4, 4, 24, 4, 4, 3, 25] := by
    have : Try.prog.cellTypes Try.prog.depth 27 = some [22, 3, 22, 23, 4, 4, 24, 4, 4, 3, 25] := by kernel_rfl
    rw [hts] at this; exact Option.some.inj this
  subst htsv
  rw [co27] at hl
  obtain ⟨l, rfl⟩ : ∃ l : List Value, cs = l.toArray := ⟨cs.toList, by simp⟩
  simp only [List.getElem?_toArray] at hrow hl hf
  match l, hl, xs, hxl with
  | [c0, c1, c2, c3, c4, c5, c6, c7, c8, c9, c10], _, [x0, x1, x2, x3, x4, x5, x6, x7, x8, x9, x10], _ =>
    have f0 := hf 0 _ rfl
    have f1 := hf 1 _ rfl
    have f2 := hf 2 _ rfl
    have f3 := hf 3 _ rfl
    have f4 := hf 4 _ rfl
    have f5 := hf 5 _ rfl
    have f6 := hf 6 _ rfl
    have f7 := hf 7 _ rfl
    have f8 := hf 8 _ rfl
    have f9 := hf 9 _ rfl
    have f10 := hf 10 _ rfl
    simp [co3, co4, co22, co23, co24, co25] at f0 f1 f2 f3 f4 f5 f6 f7 f8 f9 f10
    have k3 := spot_of Try.underlying23 (by obtain ⟨u, hu, h⟩ := hrow 3 c3 rfl; simp at hu; subst hu; exact h)
    have k6 := spot_of Try.underlying24 (by obtain ⟨u, hu, h⟩ := hrow 6 c6 rfl; simp at hu; subst hu; exact h)
    have k10 := spot_of Try.underlying25 (by obtain ⟨u, hu, h⟩ := hrow 10 c10 rfl; simp at hu; subst hu; exact h)
    clear hf hrow
    obtain ⟨n0, e0, _, w0⟩ := DataW.trod_int Try.underlying22 f0
    obtain ⟨n1, e1, _, w1⟩ := DataW.trod_int Try.underlying3 f1
    obtain ⟨n2, e2, _, w2⟩ := DataW.trod_int Try.underlying22 f2
    obtain ⟨b4, e4⟩ := trod_bool Try.underlying4 f4
    obtain ⟨b5, e5⟩ := trod_bool Try.underlying4 f5
    obtain ⟨b7, e7⟩ := trod_bool Try.underlying4 f7
    obtain ⟨b8, e8⟩ := trod_bool Try.underlying4 f8
    obtain ⟨n9, e9, _, w9⟩ := DataW.trod_int Try.underlying3 f9
    simp at e0 e1 e2 e4 e5 e7 e8 e9
    subst e0 e1 e2 e4 e5 e7 e8 e9
    obtain ⟨μ1, h1, v1, es1, r1, ro1, x1', g1, vr1, s1, q1, z1⟩ := slice_in r ro Try.underlying23 co3 (by omega) f3 k3 (fun vs => ∃ x : Int, vs = [.int .i64 x]) (fun _ _ _ h => leaf_int h)
    obtain ⟨μ2, h2, v2, es2, r2, ro2, x2', g2, vr2, s2, q2, z2⟩ := slice_in r1 ro1 Try.underlying24 co77 (by omega) f6 k6 (fun vs => ∃ x : Add, vs = addC x) (fun _ _ _ h => leaf_add h)
    obtain ⟨μ3, h3, v3, es3, r3, ro3, x3', g3, vr3, s3, q3, z3⟩ := slice_in r2 ro2 Try.underlying25 co69 (by omega) f10 k10 (fun vs => ∃ x : Rest, vs = restC x) (fun _ _ _ h => leaf_rest h)
    obtain ⟨l1, rfl⟩ := map_of_all q1
    obtain ⟨l2, rfl⟩ := map_of_all q2
    obtain ⟨l3, rfl⟩ := map_of_all q3
    refine ⟨μ3, h3, ⟨n0, n1, n2, l1, b4, b5, l2, b7, b8, n9, l3⟩, v1, v2, v3, r3, ro3, (x1'.trans x2').trans x3', fun i o e => g3 _ _ (g2 _ _ (g1 _ _ e)), ?_, ?_, ?_, ?_⟩
    · exact ⟨_, rfl, .cons rfl (.cons rfl (.cons rfl (.cons ((vr1.ext x2').ext x3') (.cons rfl (.cons rfl (.cons (vr2.ext x3') (.cons rfl (.cons rfl (.cons rfl (.cons vr3 .nil))))))))))⟩
    · exact ⟨(s1.mono g2).mono g3, s2.mono g3, s3⟩
    · simp [Lit.wf, IntKind.min, IntKind.max, IntKind.signed, IntKind.bits] at w0 w2
      exact ⟨by simp; omega, by simp; omega, by simp; omega, by simp; omega⟩
    · have bd : ∀ (x : DataW H') (n : Nat), ((x = .nil ∧ n = 0) ∨ ∃ el sp : List (DataW H'), x = .slice el sp ∧ el.length = n) → n ≤ Rows.uptoBulk x := by
        rintro x n (⟨rfl, rfl⟩ | ⟨el, sp, rfl, rfl⟩)
        · omega
        · have := Go.Proofs.Ytapokdcbhpdceaa.bulks.slice_le el sp; omega
      have t1 := bd x3.1 l1.length (z1.elim (fun ⟨a, b⟩ => .inl ⟨a, by simpa using b⟩) (fun ⟨el, sp, a, b⟩ => .inr ⟨el, sp, a, by simpa using b⟩))
      have t2 := bd x6.1 l2.length (z2.elim (fun ⟨a, b⟩ => .inl ⟨a, by simpa using b⟩) (fun ⟨el, sp, a, b⟩ => .inr ⟨el, sp, a, by simpa using b⟩))
      have t3 := bd x10.1 l3.length (z3.elim (fun ⟨a, b⟩ => .inl ⟨a, by simpa using b⟩) (fun ⟨el, sp, a, b⟩ => .inr ⟨el, sp, a, by simpa using b⟩))
      rw [(Prod.mk.inj hx).1]
      simp only [List.map_cons, List.map_nil, Rows.uptoBulk, Rows.uptoBulkAll]
      show l1.length + l2.length + l3.length ≤ _
      omega
end
end Go.Am
