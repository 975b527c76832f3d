/-
  Lists of communities among the arguments.
-/
import Derived.Test.YtfbmffkgphgoaaaDoorC4
import Derived.Test.YtfbmffkgphgoaaaDoorAm33
import Derived.Test.YtfbmffkgphgoaaaDoorAm22
import Derived.KernelRfl
namespace Go.Am
open Go.Proofs
open Go.ChangeShapes Go.WideShapes

set_option maxRecDepth 100000
theorem p_of {vs : List V} (h : Lfs [.int .u32] vs) : ∃ n : {n : Nat // fitP n}, vs = cP n.1 := by
  cases h with
  | cons k t =>
    cases t
    obtain ⟨n, rfl, hn⟩ := Lf.nat k rfl
    exact ⟨⟨n, hn⟩, rfl⟩
theorem x_of {vs : List V} (h : Lfs [.int .u64] vs) : ∃ n : {n : Nat // fitX n}, vs = cX n.1 := by
  cases h with
  | cons k t =>
    cases t
    obtain ⟨n, rfl, hn⟩ := Lf.nat k rfl
    exact ⟨⟨n, hn⟩, rfl⟩
theorem l_of {vs : List V} (h : Lfs [.int .u32, .int .u32, .int .u32] vs) : ∃ n : {n : Lg // fitL n}, vs = cL n.1 := by
  cases h with
  | cons k t =>
    cases t with
    | cons k2 t2 =>
      cases t2 with
      | cons k3 t3 =>
        cases t3
        obtain ⟨n, rfl, hn⟩ := Lf.nat k rfl
        obtain ⟨n2, rfl, hn2⟩ := Lf.nat k2 rfl
        obtain ⟨n3, rfl, hn3⟩ := Lf.nat k3 rfl
        exact ⟨⟨(n, n2, n3), ⟨hn, hn2, hn3⟩⟩, rfl⟩
theorem map_sub {α : Type} {fit : α → Prop} {c : α → List V} {ess : List (List V)} (h : ∀ e ∈ ess, ∃ n : {n : α // fit n}, e = c n.1) : ∃ l : List α, ess = l.map c ∧ ∀ n ∈ l, fit n := by
  obtain ⟨l, rfl⟩ := map_of_all (f := fun n : {n : α // fit n} => c n.1) (fun e he => h e he)
  exact ⟨l.map (·.1), by rw [List.map_map]; rfl, fun n hn => by obtain ⟨y, _, rfl⟩ := List.mem_map.1 hn; exact y.2⟩
theorem spot_of {w : World} {t e : TypeId} {b : Nat} {c : Value} (ht : Tryd.prog.underlying t = some (.slice e)) (h : Cell.okWide Tryd.prog w .any b t c) : ∀ a len cap, c = .slice (some a) len cap → a.spot = none := by
  rintro a len cap rfl
  simp only [Cell.okWide, ht, Cell.ok] at h
  exact h.2.2.2.1
theorem co22 : Tryd.prog.cellsOf 22 = 1 := by kernel_rfl
theorem co23 : Tryd.prog.cellsOf 23 = 1 := by kernel_rfl
theorem co24 : Tryd.prog.cellsOf 24 = 1 := by kernel_rfl
theorem co26 : Tryd.prog.cellsOf 26 = 3 := by kernel_rfl
section
variable {H' : Type} {enc : TypeId × Value → H'} {w : World} {base : Nat} {spare : Nat → Bool} {held : Bool}
theorem lists_in {W0 : World} {μ : Nat → Pl} {h : H} (r : Rel W0 μ h w) (ro : h.Ro) {v : Value} {d : DataW H'} {ps : List MemPlace} {b : Nat} (hok : Value.okWide Tryd.prog w .any b 26 v) (ht : DataW.Trod enc Tryd.prog w base spare held 26 v d ps) :
    ∃ (μ' : Nat → Pl) (h' : H) (p x q : V) (lp lx : List Nat) (ll : List Lg), Rel W0 μ' h' w ∧ VR μ' h' (.agg [p, x, q]) v ∧ (Sls h'.get 1 p (lp.map cP) ∧ CapOk p ∧ ∀ n ∈ lp, fitP n) ∧ (Sls h'.get 1 x (lx.map cX) ∧ CapOk x ∧ ∀ n ∈ lx, fitX n) ∧ (Sls h'.get 3 q (ll.map cL) ∧ CapOk q ∧ ∀ n ∈ ll, fitL n) := by
  unfold Value.okWide at hok
  rw [Tryd.underlying26] at hok
  obtain ⟨cs, rfl, hsz, ts, hts, _, hrow⟩ := hok
  obtain ⟨fuel, ht⟩ := ht
  have ht' : DataW.trod enc Tryd.prog w base spare held fuel 26 cs.toList = some (d, ps) := ht
  obtain ⟨xs, m, _, hx, hl, hxl, hf⟩ := DataW.trod_struct Tryd.underlying26 ht'
  have htsv : ts = [22, 23, 24] := by
    have : Tryd.prog.cellTypes Tryd.prog.depth 26 = some [22, 23, 24] := by kernel_rfl
    rw [hts] at this; exact Option.some.inj this
  subst htsv
  rw [co26] at hl
  obtain ⟨l, rfl⟩ : ∃ l : List Value, cs = l.toArray := ⟨cs.toList, by simp⟩
  simp only [List.getElem?_toArray] at hrow hl hf
  match l, hl, xs, hxl with
  | [c0, c1, c2], _, [x0, x1, x2], _ =>
    have f0 := hf 0 _ rfl
    have f1 := hf 1 _ rfl
    have f2 := hf 2 _ rfl
    simp [co22, co23, co24] at f0 f1 f2
    have k0 := spot_of Tryd.underlying22 (by obtain ⟨u, hu, h⟩ := hrow 0 c0 rfl; simp at hu; subst hu; exact h)
    have k1 := spot_of Tryd.underlying23 (by obtain ⟨u, hu, h⟩ := hrow 1 c1 rfl; simp at hu; subst hu; exact h)
    have k2 := spot_of Tryd.underlying24 (by obtain ⟨u, hu, h⟩ := hrow 2 c2 rfl; simp at hu; subst hu; exact h)
    clear hf hrow
    obtain ⟨μ1, h1, v1, es1, r1, ro1, x1', g1, vr1, s1, q1, z1⟩ := slice_in r ro Tryd.underlying22 (sz := 1) (by kernel_rfl) (by omega) f0 k0 (Lfs [.int .u32]) (fun cs' y m hy => by
      obtain ⟨vs, k, q, _⟩ := leaf_of 5 34 [.int .u32] (by kernel_rfl) _ _ _ hy
      exact ⟨vs, k.length, q, k⟩)
    obtain ⟨μ2, h2, v2, es2, r2, ro2, x2', g2, vr2, s2, q2, z2⟩ := slice_in r1 ro1 Tryd.underlying23 (sz := 1) (by kernel_rfl) (by omega) f1 k1 (Lfs [.int .u64]) (fun cs' y m hy => by
      obtain ⟨vs, k, q, _⟩ := leaf_of 5 39 [.int .u64] (by kernel_rfl) _ _ _ hy
      exact ⟨vs, k.length, q, k⟩)
    obtain ⟨μ3, h3, v3, es3, r3, ro3, x3', g3, vr3, s3, q3, z3⟩ := slice_in r2 ro2 Tryd.underlying24 (sz := 3) (by kernel_rfl) (by omega) f2 k2 (Lfs [.int .u32, .int .u32, .int .u32]) (fun cs' y m hy => by
      obtain ⟨vs, k, q, _⟩ := leaf_of 5 64 [.int .u32, .int .u32, .int .u32] (by kernel_rfl) _ _ _ hy
      exact ⟨vs, k.length, q, k⟩)
    obtain ⟨l1, rfl, i1⟩ := map_sub (c := cP) (fit := fitP) (fun e he => p_of (q1 e he))
    obtain ⟨l2, rfl, i2⟩ := map_sub (c := cX) (fit := fitX) (fun e he => x_of (q2 e he))
    obtain ⟨l3, rfl, i3⟩ := map_sub (c := cL) (fit := fitL) (fun e he => l_of (q3 e he))
    have w1 := (vr1.ext x2').ext x3'
    have w2 := vr2.ext x3'
    exact ⟨μ3, h3, v1, v2, v3, l1, l2, l3, r3, ⟨_, rfl, .cons w1 (.cons w2 (.cons vr3 .nil))⟩, ⟨(s1.mono g2).mono g3, CapOk.of_vr w1, i1⟩, ⟨s2.mono g3, CapOk.of_vr w2, i2⟩, ⟨s3, CapOk.of_vr vr3, i3⟩⟩
end
end Go.Am
