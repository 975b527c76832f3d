/-
  'heraldlaw29.AdjoutTrue' answers true whatever comes in; the arguments read as they did. The row's listed package variables are laid as the program's text lays them (the card ties them).
-/
import Derived.Test.YtpgcodeckphanaaGreatDoorCards
import Derived.Test.YtpgcodeckphanaaGreatDoorTie
import Derived.Test.YtpgcodeckphanaaGreatDoorILw
import Derived.Test.YtpgcodeckphanaaGreatDoorIGl
import Derived.Test.YtpgcodeckphanaaGreatDoorIMD
import Derived.Test.YtpgcodeckphanaaGreatDoorIAm33
import Derived.Test.YtpgcodeckphanaaGreatDoorIAm16
import Derived.Test.YtpgcodeckphanaaGreatDoorIAmL
import Derived.ChangeMaps5
import Derived.ProofKit
import Derived.OpenShut
import Derived.SevenTiedAt
import Derived.KernelRfl
namespace Go.Proofs.YtpgcodeckphanaaGreatDoor
open Go.ChangeShapes Go.WideShapes Go.ChangeAt Go.RowKit

theorem adjoutTrue_own : ownKnob Tryz.prog.godebug = none := by kernel_rfl
theorem adjoutTrue_kids : Kids Tryz.prog (· < Tryz.prog.types.size) := kids_rows (by kernel_rfl) (by kernel_rfl)
theorem adjoutTrue_full : ∀ t e, t < Tryz.prog.types.size → Tryz.prog.underlying t = some (.slice e) → 0 < Tryz.prog.cellsOf e := slices_full_of Tryz.prog (by kernel_rfl)
theorem adjoutTrue_size : 22 < Tryz.prog.types.size := Nat.le_of_ble_eq_true (by kernel_rfl)

set_option maxRecDepth 100000 in
theorem adjoutTrue_contract (H : Type) (enc : TypeId × Value → H) (W : World) (base : Nat) (args : Array Value) (ds gs : List (DataW H)) (before : List MemPlace)
    (hval : ∀ (j : Nat) t v, Tryz.f3.params[j]? = some t → args[j]? = some v → Value.okWide Tryz.prog W .any base t v)
    (hW : DataW.Whole enc Tryz.prog Tryz.f3.params.toList Rows.adjoutTrueSpec.vars false W args.toList ds gs before) (hL : laidMetH Tryz.prog Rows.adjoutTrueRow.laid W)
    (hw : (DataW.weightsEach Tryz.prog (Tryz.f3.params.toList ++ (OpenSpec.ofChange Rows.adjoutTrueSpec).bare.plain.varTypes Tryz.prog) (ds ++ gs)).all (· ≤ reachBytes) = true) :
    Calls Tryz.prog 3 args W fun e W' => ∃ v, e = .returned v ∧ Rows.adjoutTrueSpec.post enc Tryz.prog Tryz.f3 false true false false W args v W' := by
  have hW' := hW
  obtain ⟨p, q, hA0, hV, rfl, hfz, hnd⟩ := hW
  have hA : DataW.TrodAll enc Tryz.prog W 0 (fun _ => true) true Tryz.f3.params.toList args.toList ds p := hA0
  have hA1 := hA
  rw [Tryz.params3] at hA hval
  obtain ⟨v0, vs0, d0, ds0, p0, q0, hargs, rfl, rfl, h0, r0⟩ := trodAll_cons hA
  obtain ⟨rfl, rfl, rfl⟩ := trodAll_nil r0
  obtain rfl : args = #[v0] := by cases args; simp_all
  obtain ⟨rfl, rfl⟩ := trodVars_none hV
  have hlt : ∀ p ∈ p0 ++ [], p.block < W.heap.size := fun p hp => hW'.lt p (by simpa using hp)
  obtain ⟨μ, h, sl0, es0, r, ro0, _, _, vr0, hs0, hq0, _⟩ := Am.zpf (n := 5) (l := Am.sqL) (Am.Rel.empty W (glob_ok hL)) (fun _ _ e => by cases e) Tryz.underlying22 (by kernel_rfl) (by kernel_rfl) (by decide) (hval 0 22 v0 rfl rfl) h0
  obtain ⟨l0, rfl, fl0⟩ := Am.zqv hq0
  refine ((Am.zrI hs0 fl0).calls r (.cons vr0 .nil)).mono ?_
  rintro e W' ⟨cv, rfl, hv, hbel⟩
  have hv' : cv = .bool true := hv
  subst hv'
  refine ⟨_, rfl, Am.zlU (pa := p0 ++ []) (pv := []) hW' (fun _ _ _ => trodAll_cons_mk (shut_bool Tryz.underlying4 _) trodAll_mk0) (fun sp hs => ?_) (fun _ _ => rfl) rfl hbel (ok_one (by kernel_rfl) rfl (okWide_bool_mk Tryz.underlying4 _))⟩
  exact Am.zfN adjoutTrue_kids adjoutTrue_full hbel (by rw [Tryz.params3]; intro t ht; simp only [List.mem_cons, List.not_mem_nil, or_false] at ht; have h9 := adjoutTrue_size; rcases ht with rfl; exact h9) hA1 hlt (fun p hp => hs p (by simpa using hp))

theorem adjoutTrue_reads (os : Os) {H : Type} (enc : TypeId × Value → H) : ∃ places, DataW.whole enc Tryz.prog ((laidWorld os).forCall (fun _ _ => 0) ⟨#[], #[.slice none 0 0], []⟩).memory Tryz.f3.params.toList Rows.adjoutTrueSpec.vars false (#[.slice none 0 0] : Array Value).toList 8 = some ([.nil], [], places) :=
  ⟨[], by kernel_rfl⟩

set_option maxRecDepth 100000 in
theorem adjoutTrue_lifted (os : Os) (started : os.Started) (H : Type) (enc : TypeId × Value → H) (F : Stop.Interp) :
    ReturnsInHanded {} Tryz.checked os 3 .any ((OpenSpec.ofChange Rows.adjoutTrueSpec).preRow enc Tryz.prog Tryz.f3 Rows.adjoutTrueRow.domain false Rows.adjoutTrueRow.laid) (((OpenSpec.ofChange Rows.adjoutTrueSpec).at F).post enc Tryz.prog Tryz.f3 false true false false) := by
  obtain ⟨places, hx⟩ := adjoutTrue_reads os enc
  refine returnsInHanded_of_row (C := Tryz.checked) (s := OpenSpec.ofChange Rows.adjoutTrueSpec) adjoutTrue_own started (by kernel_rfl) Tryz.func3
    (witness_row_at (enc := enc) (C := Tryz.checked) false (laidWorld os) #[.slice none 0 0] rfl (by kernel_rfl) (by kernel_rfl) (by kernel_rfl)
      (OpenSpec.preRow_of_cond 8 hx (by kernel_rfl) (fun k hk => by cases hk) (by kernel_rfl) (adjoutTrueRow_met os _))) ?_
  intro W base args ds gs before hval hW _ _ hw hL _ _
  exact adjoutTrue_contract H enc W base args ds gs before hval hW hL hw

theorem adjoutTrue_said : Rows.AdjoutTrueSaid :=
  OpenClaim.holds_of_cond 3 Tryz.f3 rfl rfl rfl rfl rfl rfl rfl ⟨rfl, rfl, rfl, rfl, rfl⟩ rfl rfl rfl rfl rfl (by kernel_rfl) Tryz.func3 (by kernel_rfl)
    (of_decide_eq_true (by kernel_rfl)) (by unfold Func.isWrapper; first | (rw [if_pos (by decide +kernel)]; kernel_rfl) | (rw [if_neg (by decide +kernel)]; exact ⟨rfl, rfl⟩))
    (fun os started H enc _ F => by rw [OpenClaim.pre_eq_preRow]; exact adjoutTrue_lifted os started H enc F)

theorem adjoutTrue_plain (f : FuncId) (fn : Func) (hf : Tryz.pinned.checked.prog.funcNamed "herald/heraldlaw29.AdjoutTrue" = some f) (hfn : Tryz.pinned.checked.prog.funcs[f]? = some fn) :
    true = Tryz.pinned.checked.prog.looks [] ∧ ∀ (j : Nat) t, fn.params[j]? = some t → Tryz.pinned.checked.prog.wantsStandIn t = false := by
  obtain rfl : f = 3 := Option.some.inj ((show Tryz.prog.funcNamed "herald/heraldlaw29.AdjoutTrue" = some 3 by kernel_rfl).symm.trans hf) |>.symm
  obtain rfl : fn = Tryz.f3 := (Option.some.inj (Tryz.func3.symm.trans hfn)).symm
  refine ⟨by kernel_rfl, fun j t ht => ?_⟩
  rw [Tryz.params3] at ht
  have hm := Array.mem_of_getElem? ht
  simp at hm
  rcases hm with rfl
  · exact (show Tryz.prog.wantsStandIn 22 = false by kernel_rfl)

/-- THE CARD. -/
theorem adjoutTrue_holds : Rows.AdjoutTrueCardSaid :=
  Claim7.holds_tied_plain_at .later [] _ _ _ _ adjoutTrue_said (fun _ h => by cases h) (by kernel_rfl) (fun _ h => by cases h) adjoutTrue_row_tie rfl ⟨rfl, rfl⟩ (by kernel_rfl) rfl adjoutTrue_plain (by kernel_rfl)
#print axioms adjoutTrue_holds
end Go.Proofs.YtpgcodeckphanaaGreatDoor
