/-
  'heraldlaw10.OpenAgrees' answers true wherever the open that comes in is of bulk at most 1048576; the argument reads as it did.
-/
import Derived.Test.YtapokdcbhpdceaaRows
import Derived.Test.YtapokdcbhpdceaaO25
import Derived.Test.YtapokdcbhpdceaaO10
import Derived.Test.YtapokdcbhpdceaaAm16
import Derived.Test.YtapokdcbhpdceaaAm23
import Derived.JoinedCond
import Derived.KernelRfl
namespace Go.Proofs.Ytapokdcbhpdceaa
open Go.ChangeShapes Go.WideShapes Go.ChangeAt Go.RowKit

theorem openAgrees_own : ownKnob Try.prog.godebug = none := by kernel_rfl
theorem agrees_kids : Kids Try.prog (· < Try.prog.types.size) := kids_rows (by kernel_rfl) (by kernel_rfl)
theorem agrees_full : ∀ t e, t < Try.prog.types.size → Try.prog.underlying t = some (.slice e) → 0 < Try.prog.cellsOf e := slices_full_of Try.prog (by kernel_rfl)
theorem agrees_65 : 65 < Try.prog.types.size := Nat.le_of_ble_eq_true (by kernel_rfl)
theorem agrees_27 : 27 < Try.prog.types.size := Nat.le_of_ble_eq_true (by kernel_rfl)

section
variable {H' : Type} {enc : TypeId × Value → H'} {w : World} {base : Nat} {spare : Nat → Bool} {held : Bool}
theorem plain_int {t : TypeId} {k : IntKind} {fuel : Nat} {cs : List Value} {x : DataW H' × List MemPlace} (ht : Try.prog.underlying t = some (.int k)) (h : DataW.trod enc Try.prog w base spare held fuel t cs = some x) : ∃ n : Int, cs = [.int k n] := by
  obtain ⟨n, e, _, _⟩ := DataW.trod_int ht h
  exact ⟨n, e⟩
set_option maxRecDepth 100000 in
theorem pair_in {v : Value} {d : DataW H'} {ps : List MemPlace} {b : Nat} (hok : Value.okWide Try.prog w .any b 65 v) (ht : DataW.Trod enc Try.prog w base spare held 65 v d ps) : ∃ x y : Int, v = .agg #[.int .u32 x, .int .u32 y] := by
  unfold Value.okWide at hok
  rw [Try.underlying65] at hok
  obtain ⟨cs, rfl, hsz, ts, hts, _, hrow⟩ := hok
  obtain ⟨fuel, ht⟩ := ht
  have ht' : DataW.trod enc Try.prog w base spare held fuel 65 cs.toList = some (d, ps) := ht
  obtain ⟨xs, m, _, hx, hl, hxl, hf⟩ := DataW.trod_array Try.underlying65 ht'
  rw [show Try.prog.cellsOf 65 = 2 by kernel_rfl] at hl
  obtain ⟨l, rfl⟩ : ∃ l : List Value, cs = l.toArray := ⟨cs.toList, by simp⟩
  simp only [List.size_toArray] at hl hf
  match l, hl, xs, hxl with
  | [c0, c1], _, [x0, x1], _ =>
    have f0 := hf 0 (by omega)
    have f1 := hf 1 (by omega)
    simp [Am.co22] at f0 f1
    obtain ⟨n0, e0⟩ := plain_int Try.underlying22 f0
    obtain ⟨n1, e1⟩ := plain_int Try.underlying22 f1
    simp at e0 e1
    subst e0 e1
    exact ⟨n0, n1, rfl⟩
end

set_option maxRecDepth 100000 in
theorem openAgrees_contract (H : Type) (enc : TypeId × Value → H) (W : World) (base : Nat) (args : Array Value) (ds gs : List (DataW H)) (before : List MemPlace)
    (hval : ∀ (j : Nat) t v, Try.f9.params[j]? = some t → args[j]? = some v → Value.okWide Try.prog W .any base t v)
    (hW : DataW.Whole enc Try.prog Try.f9.params.toList Rows.openAgreesSpec.vars false W args.toList ds gs before) (hk : Rows.uptoSmall H (ds ++ gs) = true) :
    Calls Try.prog 9 args W fun e W' => ∃ v, e = .returned v ∧ Rows.openAgreesSpec.post enc Try.prog Try.f9 false true false false W args v W' := by
  have hW' := hW
  obtain ⟨p, q, hA0, hV, rfl, hfz, hnd⟩ := hW
  have hA : DataW.TrodAll enc Try.prog W 0 (fun _ => true) true Try.f9.params.toList args.toList ds p := hA0
  have hA1 := hA
  rw [Try.params9] at hA hval
  obtain ⟨v0, vs0, d0, ds0, p0, q0, hargs, rfl, rfl, h0, r0⟩ := trodAll_cons hA
  obtain ⟨v1, vs1, d1, ds1, p1, q1, rfl, rfl, rfl, h1, r1⟩ := trodAll_cons r0
  obtain ⟨v2, vs2, d2, ds2, p2, q2, rfl, rfl, rfl, h2, r2⟩ := trodAll_cons r1
  obtain ⟨rfl, rfl, rfl⟩ := trodAll_nil r2
  obtain rfl : args = #[v0, v1, v2] := by cases args; simp_all
  obtain ⟨rfl, rfl⟩ := trodVars_none hV
  have hlt : ∀ p ∈ p0 ++ (p1 ++ (p2 ++ ([] : List MemPlace))), p.block < W.heap.size := fun p hp => hW'.lt p (by simpa using hp)
  obtain ⟨μ, h, o, f, a, k, r, ro, _, _, vr, ho, _, hb0⟩ := Am.open_in (Am.Rel.empty W) (fun _ _ e => by cases e) (hval 0 27 v0 rfl rfl) h0
  obtain ⟨μ', h', o', f', a', k', r', _, x', g', vr', ho', _, hb1⟩ := Am.open_in r ro (hval 1 27 v1 rfl rfl) h1
  have hoo : Am.OpnAt h'.get o f a k := ⟨ho.fams.mono g', ho.adds.mono g', ho.kept.mono g'⟩
  obtain ⟨x, y, hv2⟩ := pair_in (hval 2 65 v2 rfl rfl) h2
  have hn : Rows.uptoBulk d0 + Rows.uptoBulk d1 ≤ 1048576 := by
    have h : Rows.uptoBulkAll ([d0, d1, d2] ++ ([] : List (DataW H))) ≤ 1048576 := of_decide_eq_true hk
    simp only [List.append_nil, Rows.uptoBulkAll] at h
    omega
  refine ((Am.openAgrees_ct hoo ho' (x0 := x) (x1 := y) (by omega) (by omega) (by omega) (by omega) (by omega) (by omega)).calls r' (.cons (vr.ext x') (.cons vr' (.cons ⟨_, hv2, .cons rfl (.cons rfl .nil)⟩ .nil)))).mono ?_
  rintro e W' ⟨cv, rfl, hv, hbel⟩
  have hv' : cv = .bool true := hv
  subst hv'
  refine ⟨_, rfl, Am.post_of_below (pa := p0 ++ (p1 ++ (p2 ++ []))) (pv := []) hW' (fun _ _ _ => trodAll_cons_mk (shut_bool Try.underlying4 _) trodAll_mk0) (fun sp hs => ?_) (fun _ _ => rfl) rfl hbel (ok_one (by kernel_rfl) rfl (okWide_bool_mk Try.underlying4 _))⟩
  exact Am.trodAll_again agrees_kids agrees_full hbel (by rw [Try.params9]; intro t ht; simp only [List.mem_cons, List.not_mem_nil, or_false] at ht; rcases ht with rfl | rfl | rfl <;> first | exact agrees_27 | exact agrees_65) hA1 hlt (fun p hp => hs p (by simpa using hp))

set_option maxRecDepth 100000 in
theorem openAgrees_lifted (os : Os) (started : os.Started) (H : Type) (enc : TypeId × Value → H) (F : Stop.Interp) :
    ReturnsInHanded {} Try.checked os 9 .any ((Rows.OpenSpec.upto Rows.openAgreesSpec).pre6 enc Try.prog Try.f9 Rows.openAgreesUptoRow.domain false) (((Rows.OpenSpec.upto Rows.openAgreesSpec).at F).post enc Try.prog Try.f9 false true false false) := by
  refine returnsInHanded_of_cond (C := Try.checked) (s := Rows.OpenSpec.upto Rows.openAgreesSpec) (k := Rows.uptoSmall) rfl openAgrees_own started (by kernel_rfl) Try.func9
    (OpenSpec.witness (enc := enc) (C := Try.checked) (s := Rows.OpenSpec.upto Rows.openAgreesSpec) (k := Rows.uptoSmall) rfl false ⟨#[], #[.agg #[.int .u32 0, .int .i64 0, .int .u32 0, .slice none 0 0, .bool false, .bool false, .slice none 0 0, .bool false, .bool false, .int .i64 0, .slice none 0 0], .agg #[.int .u32 0, .int .i64 0, .int .u32 0, .slice none 0 0, .bool false, .bool false, .slice none 0 0, .bool false, .bool false, .int .i64 0, .slice none 0 0], .agg #[.int .u32 0, .int .u32 0]], []⟩ 8 (by kernel_rfl) (by kernel_rfl) (by kernel_rfl)
      (x := ([.agg [.lit (.int .u32 0), .lit (.int .i64 0), .lit (.int .u32 0), .nil, .lit (.bool false), .lit (.bool false), .nil, .lit (.bool false), .lit (.bool false), .lit (.int .i64 0), .nil], .agg [.lit (.int .u32 0), .lit (.int .i64 0), .lit (.int .u32 0), .nil, .lit (.bool false), .lit (.bool false), .nil, .lit (.bool false), .lit (.bool false), .lit (.int .i64 0), .nil], .agg [.lit (.int .u32 0), .lit (.int .u32 0)]], [], [])) (by kernel_rfl) rfl (by kernel_rfl)) ?_
  intro W base args ds gs before hval hW _ hk _
  exact openAgrees_contract H enc W base args ds gs before hval hW hk

/-- THE STATEMENT. -/
theorem openAgrees_holds : Rows.OpenAgreesUptoSaid :=
  OpenClaim.holds_of_cond 9 Try.f9 rfl rfl rfl rfl rfl rfl rfl ⟨rfl, rfl, rfl, rfl, rfl⟩ rfl rfl rfl rfl rfl (by kernel_rfl) Try.func9 (by kernel_rfl)
    (of_decide_eq_true (by kernel_rfl)) (by unfold Func.isWrapper; first | (rw [if_pos (by decide +kernel)]; kernel_rfl) | (rw [if_neg (by decide +kernel)]; exact ⟨rfl, rfl⟩))
    (fun os started H enc _ F => openAgrees_lifted os started H enc F)
#print axioms openAgrees_holds
end Go.Proofs.Ytapokdcbhpdceaa
