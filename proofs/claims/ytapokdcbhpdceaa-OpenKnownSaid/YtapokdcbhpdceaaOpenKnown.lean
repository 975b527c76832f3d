/-
  'heraldlawOpenKnown' answers true: the closed statement, by a run of the function's code in the kernel and the soundness of that run. No conditions.
-/
import Derived.Test.YtapokdcbhpdceaaRows
import Derived.Test.YtapokdcbhpdceaaOkTab
import Derived.KernelRfl
namespace Go.Proofs.Ytapokdcbhpdceaa
open Go.ChangeShapes Go.WideShapes Go.ChangeAt Go.RowKit

theorem openKnown_own : ownKnob Try.prog.godebug = none := by kernel_rfl

theorem openKnown_run : Am.saysTrue (Am.runF Am.S.tab 100000 60 10 [] ⟨0, .nil⟩) = true := by kernel_rfl

theorem openKnown_walk (w : World) : Calls Try.prog 10 #[] w fun e w' => e = .returned (.bool true) ∧ Below w.heap.size w w' :=
  Am.closed_walk (Am.acalls_true Am.S.tab_ok openKnown_run) w

set_option maxRecDepth 100000 in
theorem openKnown_lifted (os : Os) (started : os.Started) (H : Type) (enc : TypeId × Value → H) :
    ReturnsInHanded {} Try.checked os 10 .any (Rows.openKnownSpec.pre6 enc Try.prog Try.f10 Rows.openKnownRow.domain false) (Rows.openKnownSpec.post enc Try.prog Try.f10 false true false false) := by
  refine returnsInHanded_of_change (C := Try.checked) openKnown_own started (by kernel_rfl) Try.func10
    (ChangeSpec.witness6 (enc := enc) (C := Try.checked) false ⟨#[], #[], []⟩ 8 (by kernel_rfl) (by kernel_rfl) (by kernel_rfl) (by kernel_rfl)) ?_
  intro W base args ds gs before hval0 hW hcnd _
  have hW' := hW
  obtain ⟨p, q, hA0, hV, rfl, hfz, hnd⟩ := hW
  have hA : DataW.TrodAll enc Try.prog W 0 (fun _ => true) true Try.f10.params.toList args.toList ds p := hA0
  rw [Try.params10] at hA
  obtain ⟨rfl, rfl, rfl⟩ := trodAll_none hA
  obtain ⟨rfl, rfl⟩ := trodVars_none hV
  simp only [List.append_nil] at hW'
  refine (openKnown_walk W).mono fun e W' ⟨he, hb⟩ => ?_
  subst he
  exact ⟨_, rfl, Am.post_of_below (pa := []) (pv := []) hW' (fun _ _ _ => (trodAll_cons_mk (shut_bool Try.underlying4 _) trodAll_mk0)) (fun sp _ => rfl) (fun _ _ => rfl) rfl hb
    (ok_one (by kernel_rfl) rfl (okWide_bool_mk Try.underlying4 _))⟩

/-- THE STATEMENT. -/
theorem openKnown_holds : Rows.OpenKnownSaid :=
  OpenClaim.holds_of_wide 10 Try.f10 rfl rfl rfl rfl rfl rfl rfl ⟨rfl, rfl, rfl, rfl, rfl⟩ rfl rfl rfl rfl rfl (by kernel_rfl) Try.func10 (by kernel_rfl)
    (of_decide_eq_true (by kernel_rfl)) (by unfold Func.isWrapper; first | (rw [if_pos (by decide +kernel)]; kernel_rfl) | (rw [if_neg (by decide +kernel)]; exact ⟨rfl, rfl⟩))
    (fun os started H enc _ => openKnown_lifted os started H enc)
#print axioms openKnown_holds
end Go.Proofs.Ytapokdcbhpdceaa
