/-
  'heraldlaw10.OpenTurned' answers true whatever the opens that come in; the arguments read as they did.
-/
import Derived.Test.YtapokdcbhpdceaaRows
import Derived.Test.YtapokdcbhpdceaaO13
import Derived.Test.YtapokdcbhpdceaaO10
import Derived.Test.YtapokdcbhpdceaaAm16
import Derived.Test.YtapokdcbhpdceaaAm23
import Derived.KernelRfl
namespace Go.Proofs.Ytapokdcbhpdceaa
open Go.ChangeShapes Go.WideShapes Go.ChangeAt Go.RowKit

theorem openTurned_own : ownKnob Try.prog.godebug = none := by kernel_rfl
theorem turned_kids : Kids Try.prog (· < Try.prog.types.size) := kids_rows (by kernel_rfl) (by kernel_rfl)
theorem turned_full : ∀ t e, t < Try.prog.types.size → Try.prog.underlying t = some (.slice e) → 0 < Try.prog.cellsOf e := slices_full_of Try.prog (by kernel_rfl)
theorem turned_27 : 27 < Try.prog.types.size := Nat.le_of_ble_eq_true (by kernel_rfl)

set_option maxRecDepth 100000 in
theorem openTurned_contract (H : Type) (enc : TypeId × Value → H) (W : World) (base : Nat) (args : Array Value) (ds gs : List (DataW H)) (before : List MemPlace)
    (hval : ∀ (j : Nat) t v, Try.f7.params[j]? = some t → args[j]? = some v → Value.okWide Try.prog W .any base t v)
    (hW : DataW.Whole enc Try.prog Try.f7.params.toList Rows.openTurnedSpec.vars false W args.toList ds gs before) :
    Calls Try.prog 7 args W fun e W' => ∃ v, e = .returned v ∧ Rows.openTurnedSpec.post enc Try.prog Try.f7 false true false false W args v W' := by
  have hW' := hW
  obtain ⟨p, q, hA0, hV, rfl, hfz, hnd⟩ := hW
  have hA : DataW.TrodAll enc Try.prog W 0 (fun _ => true) true Try.f7.params.toList args.toList ds p := hA0
  have hA1 := hA
  rw [Try.params7] at hA hval
  obtain ⟨v0, vs0, d0, ds0, p0, q0, hargs, rfl, rfl, h0, r0⟩ := trodAll_cons hA
  obtain ⟨v1, vs1, d1, ds1, p1, q1, rfl, rfl, rfl, h1, r1⟩ := trodAll_cons r0
  obtain ⟨rfl, rfl, rfl⟩ := trodAll_nil r1
  obtain rfl : args = #[v0, v1] := by cases args; simp_all
  obtain ⟨rfl, rfl⟩ := trodVars_none hV
  have hlt : ∀ p ∈ p0 ++ (p1 ++ ([] : List MemPlace)), p.block < W.heap.size := fun p hp => hW'.lt p (by simpa using hp)
  obtain ⟨μ, h, o, f, a, k, r, ro, _, _, vr, ho, _, _⟩ := Am.open_in (Am.Rel.empty W) (fun _ _ e => by cases e) (hval 0 27 v0 rfl rfl) h0
  obtain ⟨μ', h', o', f', a', k', r', _, x', g', vr', ho', _, _⟩ := Am.open_in r ro (hval 1 27 v1 rfl rfl) h1
  have hoo : Am.OpnAt h'.get o f a k := ⟨ho.fams.mono g', ho.adds.mono g', ho.kept.mono g'⟩
  refine ((Am.openTurned_ct hoo ho').calls r' (.cons (vr.ext x') (.cons vr' .nil))).mono ?_
  rintro e W' ⟨cv, rfl, hv, hbel⟩
  have hv' : cv = .bool true := hv
  subst hv'
  refine ⟨_, rfl, Am.post_of_below (pa := p0 ++ (p1 ++ [])) (pv := []) hW' (fun _ _ _ => trodAll_cons_mk (shut_bool Try.underlying4 _) trodAll_mk0) (fun sp hs => ?_) (fun _ _ => rfl) rfl hbel (ok_one (by kernel_rfl) rfl (okWide_bool_mk Try.underlying4 _))⟩
  exact Am.trodAll_again turned_kids turned_full hbel (by rw [Try.params7]; intro t ht; simp only [List.mem_cons, List.not_mem_nil, or_false, or_self] at ht; subst ht; exact turned_27) hA1 hlt (fun p hp => hs p (by simpa using hp))

set_option maxRecDepth 100000 in
theorem openTurned_lifted (os : Os) (started : os.Started) (H : Type) (enc : TypeId × Value → H) :
    ReturnsInHanded {} Try.checked os 7 .any (Rows.openTurnedSpec.pre6 enc Try.prog Try.f7 Rows.openTurnedRow.domain false) (Rows.openTurnedSpec.post enc Try.prog Try.f7 false true false false) := by
  refine returnsInHanded_of_change (C := Try.checked) openTurned_own started (by kernel_rfl) Try.func7
    (ChangeSpec.witness6 (enc := enc) (C := Try.checked) false ⟨#[], #[.agg #[.int .u32 0, .int .i64 0, .int .u32 0, .slice none 0 0, .bool false, .bool false, .slice none 0 0, .bool false, .bool false, .int .i64 0, .slice none 0 0], .agg #[.int .u32 0, .int .i64 0, .int .u32 0, .slice none 0 0, .bool false, .bool false, .slice none 0 0, .bool false, .bool false, .int .i64 0, .slice none 0 0]], []⟩ 8 (by kernel_rfl) (by kernel_rfl) (by kernel_rfl) (by kernel_rfl)) ?_
  intro W base args ds gs before hval hW _ _
  exact openTurned_contract H enc W base args ds gs before hval hW

/-- THE STATEMENT. -/
theorem openTurned_holds : Rows.OpenTurnedSaid :=
  OpenClaim.holds_of_wide 7 Try.f7 rfl rfl rfl rfl rfl rfl rfl ⟨rfl, rfl, rfl, rfl, rfl⟩ rfl rfl rfl rfl rfl (by kernel_rfl) Try.func7 (by kernel_rfl)
    (of_decide_eq_true (by kernel_rfl)) (by unfold Func.isWrapper; first | (rw [if_pos (by decide +kernel)]; kernel_rfl) | (rw [if_neg (by decide +kernel)]; exact ⟨rfl, rfl⟩))
    (fun os started H enc _ => openTurned_lifted os started H enc)
#print axioms openTurned_holds
end Go.Proofs.Ytapokdcbhpdceaa
