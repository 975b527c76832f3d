/-
  'heraldlaw05.CommKnown' answers true: the closed statement, by a run of its code in the kernel. The row's listed package variables are laid as the program's text lays them (the card ties them); the run reads some of them.
-/
import Derived.Test.YtfbmffkgphgoaaaGreatDoorCards
import Derived.Test.YtfbmffkgphgoaaaGreatDoorTie
import Derived.Test.YtfbmffkgphgoaaaGreatDoorKLw
import Derived.Test.YtfbmffkgphgoaaaGreatDoorKGl
import Derived.Test.YtfbmffkgphgoaaaGreatDoorKKM
import Derived.Test.YtfbmffkgphgoaaaGreatDoorKAm16
import Derived.ProofKit
import Derived.OpenShut
import Derived.SevenTiedAt
import Derived.KernelRfl
namespace Go.Proofs.YtfbmffkgphgoaaaGreatDoor
open Go.ChangeShapes Go.WideShapes Go.ChangeAt Go.RowKit

theorem commKnown_own : ownKnob Tryz.prog.godebug = none := by kernel_rfl

set_option maxRecDepth 100000 in
theorem commKnown_contract (H : Type) (enc : TypeId × Value → H) (W : World) (args : Array Value) (ds gs : List (DataW H)) (before : List MemPlace)
    (hW : DataW.Whole enc Tryz.prog Tryz.f5.params.toList Rows.commKnownSpec.vars false W args.toList ds gs before) (hL : laidMetH Tryz.prog Rows.commKnownRow.laid W) :
    Calls Tryz.prog 5 args W fun e W' => ∃ v, e = .returned v ∧ Rows.commKnownSpec.post enc Tryz.prog Tryz.f5 false true false false W args v W' := by
  have hW' := hW
  obtain ⟨p, q, hA0, hV, rfl, hfz, hnd⟩ := hW
  have hA : DataW.TrodAll enc Tryz.prog W 0 (fun _ => true) true Tryz.f5.params.toList args.toList ds p := hA0
  rw [Tryz.params5] at hA
  obtain ⟨rfl, rfl, rfl⟩ := trodAll_none hA
  obtain ⟨rfl, rfl⟩ := trodVars_none hV
  simp only [List.append_nil] at hW'
  refine (Am.closed_walk (Am.cknown_ct _ _ rfl) W (glob_ok hL)).mono fun e W' ⟨he, hb⟩ => ?_
  subst he
  exact ⟨_, rfl, Am.post_of_below (pa := []) (pv := []) hW' (fun _ _ _ => (trodAll_cons_mk (shut_bool Tryz.underlying4 _) trodAll_mk0)) (fun sp _ => rfl) (fun _ _ => rfl) rfl hb
    (ok_one (by kernel_rfl) rfl (okWide_bool_mk Tryz.underlying4 _))⟩

theorem commKnown_reads (os : Os) {H : Type} (enc : TypeId × Value → H) : ∃ places, DataW.whole enc Tryz.prog ((laidWorld os).forCall (fun _ _ => 0) ⟨#[], #[], []⟩).memory Tryz.f5.params.toList Rows.commKnownSpec.vars false (#[] : Array Value).toList 8 = some ([], [], places) :=
  ⟨[], by kernel_rfl⟩

set_option maxRecDepth 100000 in
theorem commKnown_lifted (os : Os) (started : os.Started) (H : Type) (enc : TypeId × Value → H) (F : Stop.Interp) :
    ReturnsInHanded {} Tryz.checked os 5 .any ((OpenSpec.ofChange Rows.commKnownSpec).preRow enc Tryz.prog Tryz.f5 Rows.commKnownRow.domain false Rows.commKnownRow.laid) (((OpenSpec.ofChange Rows.commKnownSpec).at F).post enc Tryz.prog Tryz.f5 false true false false) := by
  obtain ⟨places, hx⟩ := commKnown_reads os enc
  refine returnsInHanded_of_row (C := Tryz.checked) (s := OpenSpec.ofChange Rows.commKnownSpec) commKnown_own started (by kernel_rfl) Tryz.func5
    (witness_row_at (enc := enc) (C := Tryz.checked) false (laidWorld os) #[] rfl (by kernel_rfl) (by kernel_rfl) (by kernel_rfl)
      (OpenSpec.preRow_of_cond 8 hx (by kernel_rfl) (fun k hk => by cases hk) (by kernel_rfl) (commKnownRow_met os _))) ?_
  intro W base args ds gs before hval hW _ _ _ hL _ _
  exact commKnown_contract H enc W args ds gs before hW hL

set_option maxHeartbeats 4000000 in
theorem commKnown_closed : joinedFacts Tryz.pinned.checked.prog 5 Tryz.f5 (OpenSpec.ofChange Rows.commKnownSpec).bare Rows.commKnownRow = true := by
  unfold joinedFacts
  simp only [Bool.and_eq_true]
  repeat' (first | refine And.intro ?_ ?_ | decide +kernel)
theorem commKnown_inst : Tryz.f5.isInstance Tryz.pinned.checked.prog Rows.commKnownRow.origin Rows.commKnownRow.targs := by decide +kernel
theorem commKnown_said : Rows.CommKnownSaid :=
  OpenClaim.holds_of_cond 5 Tryz.f5 rfl rfl rfl rfl rfl rfl rfl ⟨rfl, rfl, rfl, rfl, rfl⟩ rfl rfl rfl rfl rfl (by kernel_rfl) Tryz.func5 commKnown_closed
    commKnown_inst (by unfold Func.isWrapper; first | (rw [if_pos (by decide +kernel)]; kernel_rfl) | (rw [if_neg (by decide +kernel)]; exact ⟨rfl, rfl⟩))
    (fun os started H enc _ F => by rw [OpenClaim.pre_eq_preRow]; exact commKnown_lifted os started H enc F)

theorem commKnown_plain (f : FuncId) (fn : Func) (hf : Tryz.pinned.checked.prog.funcNamed "herald/heraldlaw05.CommKnown" = some f) (hfn : Tryz.pinned.checked.prog.funcs[f]? = some fn) :
    true = Tryz.pinned.checked.prog.looks [] ∧ ∀ (j : Nat) t, fn.params[j]? = some t → Tryz.pinned.checked.prog.wantsStandIn t = false := by
  obtain rfl : f = 5 := Option.some.inj ((show Tryz.prog.funcNamed "herald/heraldlaw05.CommKnown" = some 5 by kernel_rfl).symm.trans hf) |>.symm
  obtain rfl : fn = Tryz.f5 := (Option.some.inj (Tryz.func5.symm.trans hfn)).symm
  refine ⟨by kernel_rfl, fun j t ht => ?_⟩
  rw [Tryz.params5] at ht
  simp at ht

/-- THE CARD. -/
theorem commKnown_holds : Rows.CommKnownCardSaid :=
  Claim7.holds_tied_plain_at .later [] _ _ _ _ commKnown_said (fun _ h => by cases h) (by kernel_rfl) (fun _ h => by cases h) commKnown_row_tie rfl ⟨rfl, rfl⟩ (by kernel_rfl) rfl commKnown_plain (by kernel_rfl)
#print axioms commKnown_holds
end Go.Proofs.YtfbmffkgphgoaaaGreatDoor
