/-
  'heraldlaw31.PaceKeeps' answers true whatever comes in; the arguments read as they did. The row's listed package variables are laid as the program's text lays them (the card ties them).
-/
import Derived.Test.YtpgcodeckphanaaGreatDoorCards
import Derived.Test.YtpgcodeckphanaaGreatDoorTie
import Derived.Test.YtpgcodeckphanaaGreatDoorKLw
import Derived.Test.YtpgcodeckphanaaGreatDoorKGl
import Derived.Test.YtpgcodeckphanaaGreatDoorKMD
import Derived.Test.YtpgcodeckphanaaGreatDoorKAm33
import Derived.Test.YtpgcodeckphanaaGreatDoorKAm16
import Derived.Test.YtpgcodeckphanaaGreatDoorKAmL
import Derived.ChangeMaps5
import Derived.ProofKit
import Derived.OpenShut
import Derived.SevenTiedAt
import Derived.KernelRfl
namespace Go.Proofs.YtpgcodeckphanaaGreatDoor
open Go.ChangeShapes Go.WideShapes Go.ChangeAt Go.RowKit

theorem paceKeeps_own : ownKnob Tryz.prog.godebug = none := by kernel_rfl
theorem paceKeeps_kids : Kids Tryz.prog (· < Tryz.prog.types.size) := kids_rows (by kernel_rfl) (by kernel_rfl)
theorem paceKeeps_full : ∀ t e, t < Tryz.prog.types.size → Tryz.prog.underlying t = some (.slice e) → 0 < Tryz.prog.cellsOf e := slices_full_of Tryz.prog (by kernel_rfl)
theorem paceKeeps_size : 70 < Tryz.prog.types.size := Nat.le_of_ble_eq_true (by kernel_rfl)

set_option maxRecDepth 100000 in
theorem paceKeeps_contract (H : Type) (enc : TypeId × Value → H) (W : World) (base : Nat) (args : Array Value) (ds gs : List (DataW H)) (before : List MemPlace)
    (hval : ∀ (j : Nat) t v, Tryz.f7.params[j]? = some t → args[j]? = some v → Value.okWide Tryz.prog W .any base t v)
    (hW : DataW.Whole enc Tryz.prog Tryz.f7.params.toList Rows.paceKeepsSpec.vars false W args.toList ds gs before) (hL : laidMetH Tryz.prog Rows.paceKeepsRow.laid W)
    (hw : (DataW.weightsEach Tryz.prog (Tryz.f7.params.toList ++ (OpenSpec.ofChange Rows.paceKeepsSpec).bare.plain.varTypes Tryz.prog) (ds ++ gs)).all (· ≤ reachBytes) = true) :
    Calls Tryz.prog 7 args W fun e W' => ∃ v, e = .returned v ∧ Rows.paceKeepsSpec.post enc Tryz.prog Tryz.f7 false true false false W args v W' := by
  have hW' := hW
  obtain ⟨p, q, hA0, hV, rfl, hfz, hnd⟩ := hW
  have hA : DataW.TrodAll enc Tryz.prog W 0 (fun _ => true) true Tryz.f7.params.toList args.toList ds p := hA0
  have hA1 := hA
  rw [Tryz.params7] at hA hval
  obtain ⟨v0, vs0, d0, ds0, p0, q0, hargs, rfl, rfl, h0, r0⟩ := trodAll_cons hA
  obtain ⟨v1, vs1, d1, ds1, p1, q1, rfl, rfl, rfl, h1, r1⟩ := trodAll_cons r0
  obtain ⟨rfl, rfl, rfl⟩ := trodAll_nil r1
  obtain rfl : args = #[v0, v1] := by cases args; simp_all
  obtain ⟨rfl, rfl⟩ := trodVars_none hV
  have hlt : ∀ p ∈ p0 ++ (p1 ++ []), p.block < W.heap.size := fun p hp => hW'.lt p (by simpa using hp)
  obtain ⟨x0, rfl, rfl, rfl, hx0⟩ := open_int Tryz.underlying5 (hval 0 5 v0 rfl rfl) h0
  obtain ⟨n0, rfl, hn0⟩ : ∃ n : Nat, x0 = n ∧ n < 256 := ⟨x0.toNat, by simp [Lit.wf, IntKind.min, IntKind.max, IntKind.bits, IntKind.signed] at hx0; omega, by simp [Lit.wf, IntKind.min, IntKind.max, IntKind.bits, IntKind.signed] at hx0; omega⟩
  obtain ⟨μ, h, sl1, es1, r, ro1, _, _, vr1, hs1, hq1, _⟩ := Am.zoi (n := 5) (l := Am.stpL) (Am.Rel.empty W (glob_ok hL)) (fun _ _ e => by cases e) Tryz.underlying70 (by kernel_rfl) (by kernel_rfl) (by decide) (hval 1 70 v1 rfl rfl) h1
  obtain ⟨l1, rfl, fl1⟩ := Am.zmt hq1
  refine ((Am.zpE hs1 fl1 hn0).calls r (.cons rfl (.cons vr1 .nil))).mono ?_
  rintro e W' ⟨cv, rfl, hv, hbel⟩
  have hv' : cv = .bool true := hv
  subst hv'
  refine ⟨_, rfl, Am.zkt (pa := [] ++ (p1 ++ [])) (pv := []) hW' (fun _ _ _ => trodAll_cons_mk (shut_bool Tryz.underlying4 _) trodAll_mk0) (fun sp hs => ?_) (fun _ _ => rfl) rfl hbel (ok_one (by kernel_rfl) rfl (okWide_bool_mk Tryz.underlying4 _))⟩
  exact Am.zfT paceKeeps_kids paceKeeps_full hbel (by rw [Tryz.params7]; intro t ht; simp only [List.mem_cons, List.not_mem_nil, or_false] at ht; have h9 := paceKeeps_size; rcases ht with rfl | rfl; exact Nat.lt_trans (by decide) h9; exact h9) hA1 hlt (fun p hp => hs p (by simpa using hp))

theorem paceKeeps_reads (os : Os) {H : Type} (enc : TypeId × Value → H) : ∃ places, DataW.whole enc Tryz.prog ((laidWorld os).forCall (fun _ _ => 0) ⟨#[], #[.int .u8 0, .slice none 0 0], []⟩).memory Tryz.f7.params.toList Rows.paceKeepsSpec.vars false (#[.int .u8 0, .slice none 0 0] : Array Value).toList 8 = some ([.lit (.int .u8 0), .nil], [], places) :=
  ⟨[], by kernel_rfl⟩

set_option maxRecDepth 100000 in
theorem paceKeeps_lifted (os : Os) (started : os.Started) (H : Type) (enc : TypeId × Value → H) (F : Stop.Interp) :
    ReturnsInHanded {} Tryz.checked os 7 .any ((OpenSpec.ofChange Rows.paceKeepsSpec).preRow enc Tryz.prog Tryz.f7 Rows.paceKeepsRow.domain false Rows.paceKeepsRow.laid) (((OpenSpec.ofChange Rows.paceKeepsSpec).at F).post enc Tryz.prog Tryz.f7 false true false false) := by
  obtain ⟨places, hx⟩ := paceKeeps_reads os enc
  refine returnsInHanded_of_row (C := Tryz.checked) (s := OpenSpec.ofChange Rows.paceKeepsSpec) paceKeeps_own started (by kernel_rfl) Tryz.func7
    (witness_row_at (enc := enc) (C := Tryz.checked) false (laidWorld os) #[.int .u8 0, .slice none 0 0] rfl (by kernel_rfl) (by kernel_rfl) (by kernel_rfl)
      (OpenSpec.preRow_of_cond 8 hx (by kernel_rfl) (fun k hk => by cases hk) (by kernel_rfl) (paceKeepsRow_met os _))) ?_
  intro W base args ds gs before hval hW _ _ hw hL _ _
  exact paceKeeps_contract H enc W base args ds gs before hval hW hL hw

theorem paceKeeps_said : Rows.PaceKeepsSaid :=
  OpenClaim.holds_of_cond 7 Tryz.f7 rfl rfl rfl rfl rfl rfl rfl ⟨rfl, rfl, rfl, rfl, rfl⟩ rfl rfl rfl rfl rfl (by kernel_rfl) Tryz.func7 (by kernel_rfl)
    (of_decide_eq_true (by kernel_rfl)) (by unfold Func.isWrapper; first | (rw [if_pos (by decide +kernel)]; kernel_rfl) | (rw [if_neg (by decide +kernel)]; exact ⟨rfl, rfl⟩))
    (fun os started H enc _ F => by rw [OpenClaim.pre_eq_preRow]; exact paceKeeps_lifted os started H enc F)

theorem paceKeeps_plain (f : FuncId) (fn : Func) (hf : Tryz.pinned.checked.prog.funcNamed "herald/heraldlaw31.PaceKeeps" = some f) (hfn : Tryz.pinned.checked.prog.funcs[f]? = some fn) :
    true = Tryz.pinned.checked.prog.looks [] ∧ ∀ (j : Nat) t, fn.params[j]? = some t → Tryz.pinned.checked.prog.wantsStandIn t = false := by
  obtain rfl : f = 7 := Option.some.inj ((show Tryz.prog.funcNamed "herald/heraldlaw31.PaceKeeps" = some 7 by kernel_rfl).symm.trans hf) |>.symm
  obtain rfl : fn = Tryz.f7 := (Option.some.inj (Tryz.func7.symm.trans hfn)).symm
  refine ⟨by kernel_rfl, fun j t ht => ?_⟩
  rw [Tryz.params7] at ht
  have hm := Array.mem_of_getElem? ht
  simp at hm
  rcases hm with rfl | rfl
  · exact (show Tryz.prog.wantsStandIn 5 = false by kernel_rfl)
  · exact (show Tryz.prog.wantsStandIn 70 = false by kernel_rfl)

/-- THE CARD. -/
theorem paceKeeps_holds : Rows.PaceKeepsCardSaid :=
  Claim7.holds_tied_plain_at .later [] _ _ _ _ paceKeeps_said (fun _ h => by cases h) (by kernel_rfl) (fun _ h => by cases h) paceKeeps_row_tie rfl ⟨rfl, rfl⟩ (by kernel_rfl) rfl paceKeeps_plain (by kernel_rfl)
#print axioms paceKeeps_holds
end Go.Proofs.YtpgcodeckphanaaGreatDoor
