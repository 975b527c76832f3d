/-
  'heraldlaw29.AdjoutKnown' answers true: the closed statement, by a run of its code in the kernel. The row's listed package variables are laid as the program's text lays them (the card ties them); the run reads some of them.
-/
import Derived.Test.YtpgcodeckphanaaGreatDoorCards
import Derived.Test.YtpgcodeckphanaaGreatDoorTie
import Derived.Test.YtpgcodeckphanaaGreatDoorELw
import Derived.Test.YtpgcodeckphanaaGreatDoorEGl
import Derived.Test.YtpgcodeckphanaaGreatDoorEMD
import Derived.Test.YtpgcodeckphanaaGreatDoorEAm16
import Derived.ProofKit
import Derived.OpenShut
import Derived.SevenTiedAt
import Derived.KernelRfl
namespace Go.Proofs.YtpgcodeckphanaaGreatDoor
open Go.ChangeShapes Go.WideShapes Go.ChangeAt Go.RowKit

theorem adjoutKnown_own : ownKnob Tryz.prog.godebug = none := by kernel_rfl

set_option maxRecDepth 100000 in
theorem adjoutKnown_contract (H : Type) (enc : TypeId × Value → H) (W : World) (args : Array Value) (ds gs : List (DataW H)) (before : List MemPlace)
    (hW : DataW.Whole enc Tryz.prog Tryz.f5.params.toList Rows.adjoutKnownSpec.vars false W args.toList ds gs before) (hL : laidMetH Tryz.prog Rows.adjoutKnownRow.laid W) :
    Calls Tryz.prog 5 args W fun e W' => ∃ v, e = .returned v ∧ Rows.adjoutKnownSpec.post enc Tryz.prog Tryz.f5 false true false false W args v W' := by
  have hW' := hW
  obtain ⟨p, q, hA0, hV, rfl, hfz, hnd⟩ := hW
  have hA : DataW.TrodAll enc Tryz.prog W 0 (fun _ => true) true Tryz.f5.params.toList args.toList ds p := hA0
  rw [Tryz.params5] at hA
  obtain ⟨rfl, rfl, rfl⟩ := trodAll_none hA
  obtain ⟨rfl, rfl⟩ := trodVars_none hV
  simp only [List.append_nil] at hW'
  refine (Am.zmu (Am.znD _ _ rfl) W (glob_ok hL)).mono fun e W' ⟨he, hb⟩ => ?_
  subst he
  exact ⟨_, rfl, Am.zlA (pa := []) (pv := []) hW' (fun _ _ _ => (trodAll_cons_mk (shut_bool Tryz.underlying4 _) trodAll_mk0)) (fun sp _ => rfl) (fun _ _ => rfl) rfl hb
    (ok_one (by kernel_rfl) rfl (okWide_bool_mk Tryz.underlying4 _))⟩

theorem adjoutKnown_reads (os : Os) {H : Type} (enc : TypeId × Value → H) : ∃ places, DataW.whole enc Tryz.prog ((laidWorld os).forCall (fun _ _ => 0) ⟨#[], #[], []⟩).memory Tryz.f5.params.toList Rows.adjoutKnownSpec.vars false (#[] : Array Value).toList 8 = some ([], [], places) :=
  ⟨[], by kernel_rfl⟩

set_option maxRecDepth 100000 in
theorem adjoutKnown_lifted (os : Os) (started : os.Started) (H : Type) (enc : TypeId × Value → H) (F : Stop.Interp) :
    ReturnsInHanded {} Tryz.checked os 5 .any ((OpenSpec.ofChange Rows.adjoutKnownSpec).preRow enc Tryz.prog Tryz.f5 Rows.adjoutKnownRow.domain false Rows.adjoutKnownRow.laid) (((OpenSpec.ofChange Rows.adjoutKnownSpec).at F).post enc Tryz.prog Tryz.f5 false true false false) := by
  obtain ⟨places, hx⟩ := adjoutKnown_reads os enc
  refine returnsInHanded_of_row (C := Tryz.checked) (s := OpenSpec.ofChange Rows.adjoutKnownSpec) adjoutKnown_own started (by kernel_rfl) Tryz.func5
    (witness_row_at (enc := enc) (C := Tryz.checked) false (laidWorld os) #[] rfl (by kernel_rfl) (by kernel_rfl) (by kernel_rfl)
      (OpenSpec.preRow_of_cond 8 hx (by kernel_rfl) (fun k hk => by cases hk) (by kernel_rfl) (adjoutKnownRow_met os _))) ?_
  intro W base args ds gs before hval hW _ _ _ hL _ _
  exact adjoutKnown_contract H enc W args ds gs before hW hL

set_option maxHeartbeats 4000000 in
theorem adjoutKnown_closed : joinedFacts Tryz.pinned.checked.prog 5 Tryz.f5 (OpenSpec.ofChange Rows.adjoutKnownSpec).bare Rows.adjoutKnownRow = true := by
  unfold joinedFacts
  simp only [Bool.and_eq_true]
  repeat' (first | refine And.intro ?_ ?_ | decide +kernel)
theorem adjoutKnown_inst : Tryz.f5.isInstance Tryz.pinned.checked.prog Rows.adjoutKnownRow.origin Rows.adjoutKnownRow.targs := by decide +kernel
theorem adjoutKnown_said : Rows.AdjoutKnownSaid :=
  OpenClaim.holds_of_cond 5 Tryz.f5 rfl rfl rfl rfl rfl rfl rfl ⟨rfl, rfl, rfl, rfl, rfl⟩ rfl rfl rfl rfl rfl (by kernel_rfl) Tryz.func5 adjoutKnown_closed
    adjoutKnown_inst (by unfold Func.isWrapper; first | (rw [if_pos (by decide +kernel)]; kernel_rfl) | (rw [if_neg (by decide +kernel)]; exact ⟨rfl, rfl⟩))
    (fun os started H enc _ F => by rw [OpenClaim.pre_eq_preRow]; exact adjoutKnown_lifted os started H enc F)

theorem adjoutKnown_plain (f : FuncId) (fn : Func) (hf : Tryz.pinned.checked.prog.funcNamed "herald/heraldlaw29.AdjoutKnown" = some f) (hfn : Tryz.pinned.checked.prog.funcs[f]? = some fn) :
    true = Tryz.pinned.checked.prog.looks [] ∧ ∀ (j : Nat) t, fn.params[j]? = some t → Tryz.pinned.checked.prog.wantsStandIn t = false := by
  obtain rfl : f = 5 := Option.some.inj ((show Tryz.prog.funcNamed "herald/heraldlaw29.AdjoutKnown" = some 5 by kernel_rfl).symm.trans hf) |>.symm
  obtain rfl : fn = Tryz.f5 := (Option.some.inj (Tryz.func5.symm.trans hfn)).symm
  refine ⟨by kernel_rfl, fun j t ht => ?_⟩
  rw [Tryz.params5] at ht
  simp at ht

/-- THE CARD. -/
theorem adjoutKnown_holds : Rows.AdjoutKnownCardSaid :=
  Claim7.holds_tied_plain_at .later [] _ _ _ _ adjoutKnown_said (fun _ h => by cases h) (by kernel_rfl) (fun _ h => by cases h) adjoutKnown_row_tie rfl ⟨rfl, rfl⟩ (by kernel_rfl) rfl adjoutKnown_plain (by kernel_rfl)
#print axioms adjoutKnown_holds
end Go.Proofs.YtpgcodeckphanaaGreatDoor
