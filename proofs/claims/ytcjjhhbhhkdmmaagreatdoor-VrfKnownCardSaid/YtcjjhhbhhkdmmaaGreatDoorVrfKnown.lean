/-
  'heraldlaw27.VrfKnown' answers true: the closed statement, by a run of its code in the kernel. The row's listed package variables are laid as the program's text lays them (the card ties them); the run reads none of them.
-/
import Derived.Test.YtcjjhhbhhkdmmaaGreatDoorCards
import Derived.Test.YtcjjhhbhhkdmmaaGreatDoorTie
import Derived.Test.YtcjjhhbhhkdmmaaGreatDoorLw
import Derived.Test.YtcjjhhbhhkdmmaaGreatDoorKM
import Derived.Test.YtcjjhhbhhkdmmaaGreatDoorAm16
import Derived.ProofKit
import Derived.OpenShut
import Derived.SevenTiedAt
import Derived.KernelRfl
namespace Go.Proofs.YtcjjhhbhhkdmmaaGreatDoor
open Go.ChangeShapes Go.WideShapes Go.ChangeAt Go.RowKit

theorem vrfKnown_own : ownKnob Tryz.prog.godebug = none := by kernel_rfl

theorem glob_none2 (W : World) : Am.GlobOk W := fun g cs e => by simp [Am.GT] at e
set_option maxRecDepth 100000 in
theorem vrfKnown_contract (H : Type) (enc : TypeId × Value → H) (W : World) (args : Array Value) (ds gs : List (DataW H)) (before : List MemPlace)
    (hW : DataW.Whole enc Tryz.prog Tryz.f6.params.toList Rows.vrfKnownSpec.vars false W args.toList ds gs before) (hL : laidMetH Tryz.prog Rows.vrfKnownRow.laid W) :
    Calls Tryz.prog 6 args W fun e W' => ∃ v, e = .returned v ∧ Rows.vrfKnownSpec.post enc Tryz.prog Tryz.f6 false true false false W args v W' := by
  have hW' := hW
  obtain ⟨p, q, hA0, hV, rfl, hfz, hnd⟩ := hW
  have hA : DataW.TrodAll enc Tryz.prog W 0 (fun _ => true) true Tryz.f6.params.toList args.toList ds p := hA0
  rw [Tryz.params6] at hA
  obtain ⟨rfl, rfl, rfl⟩ := trodAll_none hA
  obtain ⟨rfl, rfl⟩ := trodVars_none hV
  simp only [List.append_nil] at hW'
  refine (Am.closed_walk (Am.vrfKnown_ct _ _ rfl) W (glob_none2 W)).mono fun e W' ⟨he, hb⟩ => ?_
  subst he
  exact ⟨_, rfl, Am.post_of_below (pa := []) (pv := []) hW' (fun _ _ _ => (trodAll_cons_mk (shut_bool Tryz.underlying4 _) trodAll_mk0)) (fun sp _ => rfl) (fun _ _ => rfl) rfl hb
    (ok_one (by kernel_rfl) rfl (okWide_bool_mk Tryz.underlying4 _))⟩

theorem vrfKnown_reads (os : Os) {H : Type} (enc : TypeId × Value → H) : ∃ places, DataW.whole enc Tryz.prog ((laidWorld os).forCall (fun _ _ => 0) ⟨#[], #[], []⟩).memory Tryz.f6.params.toList Rows.vrfKnownSpec.vars false (#[] : Array Value).toList 8 = some ([], [], places) :=
  ⟨[], by kernel_rfl⟩

set_option maxRecDepth 100000 in
theorem vrfKnown_lifted (os : Os) (started : os.Started) (H : Type) (enc : TypeId × Value → H) (F : Stop.Interp) :
    ReturnsInHanded {} Tryz.checked os 6 .any ((OpenSpec.ofChange Rows.vrfKnownSpec).preRow enc Tryz.prog Tryz.f6 Rows.vrfKnownRow.domain false Rows.vrfKnownRow.laid) (((OpenSpec.ofChange Rows.vrfKnownSpec).at F).post enc Tryz.prog Tryz.f6 false true false false) := by
  obtain ⟨places, hx⟩ := vrfKnown_reads os enc
  refine returnsInHanded_of_row (C := Tryz.checked) (s := OpenSpec.ofChange Rows.vrfKnownSpec) vrfKnown_own started (by kernel_rfl) Tryz.func6
    (witness_row_at (enc := enc) (C := Tryz.checked) false (laidWorld os) #[] rfl (by kernel_rfl) (by kernel_rfl) (by kernel_rfl)
      (OpenSpec.preRow_of_cond 8 hx (by kernel_rfl) (fun k hk => by cases hk) (by kernel_rfl) (vrfKnownRow_met os _))) ?_
  intro W base args ds gs before hval hW _ _ _ hL _ _
  exact vrfKnown_contract H enc W args ds gs before hW hL

set_option maxHeartbeats 4000000 in
theorem vrfKnown_closed : joinedFacts Tryz.pinned.checked.prog 6 Tryz.f6 (OpenSpec.ofChange Rows.vrfKnownSpec).bare Rows.vrfKnownRow = true := by
  unfold joinedFacts
  simp only [Bool.and_eq_true]
  repeat' (first | refine And.intro ?_ ?_ | decide +kernel)
theorem vrfKnown_inst : Tryz.f6.isInstance Tryz.pinned.checked.prog Rows.vrfKnownRow.origin Rows.vrfKnownRow.targs := by decide +kernel
theorem vrfKnown_said : Rows.VrfKnownSaid :=
  OpenClaim.holds_of_cond 6 Tryz.f6 rfl rfl rfl rfl rfl rfl rfl ⟨rfl, rfl, rfl, rfl, rfl⟩ rfl rfl rfl rfl rfl (by kernel_rfl) Tryz.func6 vrfKnown_closed
    vrfKnown_inst (by unfold Func.isWrapper; first | (rw [if_pos (by decide +kernel)]; kernel_rfl) | (rw [if_neg (by decide +kernel)]; exact ⟨rfl, rfl⟩))
    (fun os started H enc _ F => by rw [OpenClaim.pre_eq_preRow]; exact vrfKnown_lifted os started H enc F)

theorem vrfKnown_plain (f : FuncId) (fn : Func) (hf : Tryz.pinned.checked.prog.funcNamed "herald/heraldlaw27.VrfKnown" = some f) (hfn : Tryz.pinned.checked.prog.funcs[f]? = some fn) :
    true = Tryz.pinned.checked.prog.looks [] ∧ ∀ (j : Nat) t, fn.params[j]? = some t → Tryz.pinned.checked.prog.wantsStandIn t = false := by
  obtain rfl : f = 6 := Option.some.inj ((show Tryz.prog.funcNamed "herald/heraldlaw27.VrfKnown" = some 6 by kernel_rfl).symm.trans hf) |>.symm
  obtain rfl : fn = Tryz.f6 := (Option.some.inj (Tryz.func6.symm.trans hfn)).symm
  refine ⟨by kernel_rfl, fun j t ht => ?_⟩
  rw [Tryz.params6] at ht
  simp at ht

/-- THE CARD. -/
theorem vrfKnown_holds : Rows.VrfKnownCardSaid :=
  Claim7.holds_tied_plain_at .later [] _ _ _ _ vrfKnown_said (fun _ h => by cases h) (by kernel_rfl) (fun _ h => by cases h) vrfKnown_row_tie rfl ⟨rfl, rfl⟩ (by kernel_rfl) rfl vrfKnown_plain (by kernel_rfl)
#print axioms vrfKnown_holds
end Go.Proofs.YtcjjhhbhhkdmmaaGreatDoor
