/-
  'heraldlaw31.PaceKnown' answers true: the closed statement, by a run of its code in the kernel. The row's listed package variables are laid as the program's text lays them (the card ties them); the run reads some of them.
-/
import Derived.Test.YtpgcodeckphanaaGreatDoorCards
import Derived.Test.YtpgcodeckphanaaGreatDoorTie
import Derived.Test.YtpgcodeckphanaaGreatDoorHLw
import Derived.Test.YtpgcodeckphanaaGreatDoorHGl
import Derived.Test.YtpgcodeckphanaaGreatDoorHMD
import Derived.Test.YtpgcodeckphanaaGreatDoorHAm16
import Derived.ProofKit
import Derived.OpenShut
import Derived.SevenTiedAt
import Derived.KernelRfl
namespace Go.Proofs.YtpgcodeckphanaaGreatDoor
open Go.ChangeShapes Go.WideShapes Go.ChangeAt Go.RowKit

theorem paceKnown_own : ownKnob Tryz.prog.godebug = none := by kernel_rfl

set_option maxRecDepth 100000 in
theorem paceKnown_contract (H : Type) (enc : TypeId × Value → H) (W : World) (args : Array Value) (ds gs : List (DataW H)) (before : List MemPlace)
    (hW : DataW.Whole enc Tryz.prog Tryz.f10.params.toList Rows.paceKnownSpec.vars false W args.toList ds gs before) (hL : laidMetH Tryz.prog Rows.paceKnownRow.laid W) :
    Calls Tryz.prog 10 args W fun e W' => ∃ v, e = .returned v ∧ Rows.paceKnownSpec.post enc Tryz.prog Tryz.f10 false true false false W args v W' := by
  have hW' := hW
  obtain ⟨p, q, hA0, hV, rfl, hfz, hnd⟩ := hW
  have hA : DataW.TrodAll enc Tryz.prog W 0 (fun _ => true) true Tryz.f10.params.toList args.toList ds p := hA0
  rw [Tryz.params10] at hA
  obtain ⟨rfl, rfl, rfl⟩ := trodAll_none hA
  obtain ⟨rfl, rfl⟩ := trodVars_none hV
  simp only [List.append_nil] at hW'
  refine (Am.zna (Am.zqn _ _ rfl) W (glob_ok hL)).mono fun e W' ⟨he, hb⟩ => ?_
  subst he
  exact ⟨_, rfl, Am.zlw (pa := []) (pv := []) hW' (fun _ _ _ => (trodAll_cons_mk (shut_bool Tryz.underlying4 _) trodAll_mk0)) (fun sp _ => rfl) (fun _ _ => rfl) rfl hb
    (ok_one (by kernel_rfl) rfl (okWide_bool_mk Tryz.underlying4 _))⟩

theorem paceKnown_reads (os : Os) {H : Type} (enc : TypeId × Value → H) : ∃ places, DataW.whole enc Tryz.prog ((laidWorld os).forCall (fun _ _ => 0) ⟨#[], #[], []⟩).memory Tryz.f10.params.toList Rows.paceKnownSpec.vars false (#[] : Array Value).toList 8 = some ([], [], places) :=
  ⟨[], by kernel_rfl⟩

set_option maxRecDepth 100000 in
theorem paceKnown_lifted (os : Os) (started : os.Started) (H : Type) (enc : TypeId × Value → H) (F : Stop.Interp) :
    ReturnsInHanded {} Tryz.checked os 10 .any ((OpenSpec.ofChange Rows.paceKnownSpec).preRow enc Tryz.prog Tryz.f10 Rows.paceKnownRow.domain false Rows.paceKnownRow.laid) (((OpenSpec.ofChange Rows.paceKnownSpec).at F).post enc Tryz.prog Tryz.f10 false true false false) := by
  obtain ⟨places, hx⟩ := paceKnown_reads os enc
  refine returnsInHanded_of_row (C := Tryz.checked) (s := OpenSpec.ofChange Rows.paceKnownSpec) paceKnown_own started (by kernel_rfl) Tryz.func10
    (witness_row_at (enc := enc) (C := Tryz.checked) false (laidWorld os) #[] rfl (by kernel_rfl) (by kernel_rfl) (by kernel_rfl)
      (OpenSpec.preRow_of_cond 8 hx (by kernel_rfl) (fun k hk => by cases hk) (by kernel_rfl) (paceKnownRow_met os _))) ?_
  intro W base args ds gs before hval hW _ _ _ hL _ _
  exact paceKnown_contract H enc W args ds gs before hW hL

set_option maxHeartbeats 4000000 in
theorem paceKnown_closed : joinedFacts Tryz.pinned.checked.prog 10 Tryz.f10 (OpenSpec.ofChange Rows.paceKnownSpec).bare Rows.paceKnownRow = true := by
  unfold joinedFacts
  simp only [Bool.and_eq_true]
  repeat' (first | refine And.intro ?_ ?_ | decide +kernel)
theorem paceKnown_inst : Tryz.f10.isInstance Tryz.pinned.checked.prog Rows.paceKnownRow.origin Rows.paceKnownRow.targs := by decide +kernel
theorem paceKnown_said : Rows.PaceKnownSaid :=
  OpenClaim.holds_of_cond 10 Tryz.f10 rfl rfl rfl rfl rfl rfl rfl ⟨rfl, rfl, rfl, rfl, rfl⟩ rfl rfl rfl rfl rfl (by kernel_rfl) Tryz.func10 paceKnown_closed
    paceKnown_inst (by unfold Func.isWrapper; first | (rw [if_pos (by decide +kernel)]; kernel_rfl) | (rw [if_neg (by decide +kernel)]; exact ⟨rfl, rfl⟩))
    (fun os started H enc _ F => by rw [OpenClaim.pre_eq_preRow]; exact paceKnown_lifted os started H enc F)

theorem paceKnown_plain (f : FuncId) (fn : Func) (hf : Tryz.pinned.checked.prog.funcNamed "herald/heraldlaw31.PaceKnown" = some f) (hfn : Tryz.pinned.checked.prog.funcs[f]? = some fn) :
    true = Tryz.pinned.checked.prog.looks [] ∧ ∀ (j : Nat) t, fn.params[j]? = some t → Tryz.pinned.checked.prog.wantsStandIn t = false := by
  obtain rfl : f = 10 := Option.some.inj ((show Tryz.prog.funcNamed "herald/heraldlaw31.PaceKnown" = some 10 by kernel_rfl).symm.trans hf) |>.symm
  obtain rfl : fn = Tryz.f10 := (Option.some.inj (Tryz.func10.symm.trans hfn)).symm
  refine ⟨by kernel_rfl, fun j t ht => ?_⟩
  rw [Tryz.params10] at ht
  simp at ht

/-- THE CARD. -/
theorem paceKnown_holds : Rows.PaceKnownCardSaid :=
  Claim7.holds_tied_plain_at .later [] _ _ _ _ paceKnown_said (fun _ h => by cases h) (by kernel_rfl) (fun _ h => by cases h) paceKnown_row_tie rfl ⟨rfl, rfl⟩ (by kernel_rfl) rfl paceKnown_plain (by kernel_rfl)
#print axioms paceKnown_holds
end Go.Proofs.YtpgcodeckphanaaGreatDoor
