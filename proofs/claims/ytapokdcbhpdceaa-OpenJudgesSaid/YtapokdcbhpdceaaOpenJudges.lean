/-
  'heraldlaw10.OpenJudges' answers true whatever the bytes that come in; the argument reads as it did.
-/
import Derived.Test.YtapokdcbhpdceaaRows
import Derived.Test.YtapokdcbhpdceaaJ1
import Derived.ShutString
import Derived.Test.YtapokdcbhpdceaaAm16
import Derived.Test.YtapokdcbhpdceaaAm23
import Derived.KernelRfl
namespace Go.Proofs.Ytapokdcbhpdceaa
open Go.ChangeShapes Go.WideShapes Go.ChangeAt Go.RowKit

theorem openJudges_own : ownKnob Try.prog.godebug = none := by kernel_rfl
theorem judges_kids : Kids Try.prog (· < Try.prog.types.size) := kids_rows (by kernel_rfl) (by kernel_rfl)
theorem judges_full : ∀ t e, t < Try.prog.types.size → Try.prog.underlying t = some (.slice e) → 0 < Try.prog.cellsOf e := slices_full_of Try.prog (by kernel_rfl)
theorem judges_9 : 9 < Try.prog.types.size := Nat.le_of_ble_eq_true (by kernel_rfl)

set_option maxRecDepth 100000 in
theorem openJudges_contract (H : Type) (enc : TypeId × Value → H) (W : World) (base : Nat) (args : Array Value) (ds gs : List (DataW H)) (before : List MemPlace)
    (hval : ∀ (j : Nat) t v, Try.f4.params[j]? = some t → args[j]? = some v → Value.okWide Try.prog W .any base t v)
    (hW : DataW.Whole enc Try.prog Try.f4.params.toList Rows.openJudgesSpec.vars false W args.toList ds gs before) :
    Calls Try.prog 4 args W fun e W' => ∃ v, e = .returned v ∧ Rows.openJudgesSpec.post enc Try.prog Try.f4 false true false false W args v W' := by
  have hW' := hW
  obtain ⟨p, q, hA0, hV, rfl, hfz, hnd⟩ := hW
  have hA : DataW.TrodAll enc Try.prog W 0 (fun _ => true) true Try.f4.params.toList args.toList ds p := hA0
  have hA1 := hA
  rw [Try.params4] at hA hval
  obtain ⟨v0, vs0, d0, ds0, p0, q0, hargs, rfl, rfl, h0, r0⟩ := trodAll_cons hA
  obtain ⟨rfl, rfl, rfl⟩ := trodAll_nil r0
  obtain rfl : args = #[v0] := by cases args; simp_all
  obtain ⟨rfl, rfl⟩ := trodVars_none hV
  have hlt : ∀ p ∈ p0 ++ ([] : List MemPlace), p.block < W.heap.size := fun p hp => hW'.lt p (by simpa using hp)
  obtain ⟨str, rfl⟩ := okWide_string Try.underlying9 (hval 0 9 v0 rfl rfl)
  refine ((Am.openJudges_ct (s := str.data.toList)).calls (Am.Rel.empty W) (.cons (by simp [Am.VR]) .nil)).mono ?_
  rintro e W' ⟨cv, rfl, hv, hbel⟩
  have hv' : cv = .bool true := hv
  subst hv'
  refine ⟨_, rfl, Am.post_of_below (pa := p0 ++ []) (pv := []) hW' (fun _ _ _ => trodAll_cons_mk (shut_bool Try.underlying4 _) trodAll_mk0) (fun sp hs => ?_) (fun _ _ => rfl) rfl hbel (ok_one (by kernel_rfl) rfl (okWide_bool_mk Try.underlying4 _))⟩
  exact Am.trodAll_again judges_kids judges_full hbel (by rw [Try.params4]; intro t ht; simp only [List.mem_cons, List.not_mem_nil, or_false, or_self] at ht; subst ht; exact judges_9) hA1 hlt (fun p hp => hs p (by simpa using hp))

set_option maxRecDepth 100000 in
theorem openJudges_lifted (os : Os) (started : os.Started) (H : Type) (enc : TypeId × Value → H) :
    ReturnsInHanded {} Try.checked os 4 .any (Rows.openJudgesSpec.pre6 enc Try.prog Try.f4 Rows.openJudgesRow.domain false) (Rows.openJudgesSpec.post enc Try.prog Try.f4 false true false false) := by
  refine returnsInHanded_of_change (C := Try.checked) openJudges_own started (by kernel_rfl) Try.func4
    (ChangeSpec.witness6 (enc := enc) (C := Try.checked) false ⟨#[], #[.string ⟨#[]⟩], []⟩ 8 (by kernel_rfl) (by kernel_rfl) (by kernel_rfl) (by kernel_rfl)) ?_
  intro W base args ds gs before hval hW _ _
  exact openJudges_contract H enc W base args ds gs before hval hW

/-- THE STATEMENT. -/
theorem openJudges_holds : Rows.OpenJudgesSaid :=
  OpenClaim.holds_of_wide 4 Try.f4 rfl rfl rfl rfl rfl rfl rfl ⟨rfl, rfl, rfl, rfl, rfl⟩ rfl rfl rfl rfl rfl (by kernel_rfl) Try.func4 (by kernel_rfl)
    (of_decide_eq_true (by kernel_rfl)) (by unfold Func.isWrapper; first | (rw [if_pos (by decide +kernel)]; kernel_rfl) | (rw [if_neg (by decide +kernel)]; exact ⟨rfl, rfl⟩))
    (fun os started H enc _ => openJudges_lifted os started H enc)
#print axioms openJudges_holds
end Go.Proofs.Ytapokdcbhpdceaa
