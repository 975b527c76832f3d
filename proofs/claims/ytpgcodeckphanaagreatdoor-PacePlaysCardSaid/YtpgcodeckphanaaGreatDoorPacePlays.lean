/-
  'heraldlaw31.PacePlays' answers true whatever comes in; the arguments read as they did. The row's listed package variables are laid as the program's text lays them (the card ties them).
-/
import Derived.Test.YtpgcodeckphanaaGreatDoorCards
import Derived.Test.YtpgcodeckphanaaGreatDoorTie
import Derived.Test.YtpgcodeckphanaaGreatDoorGLw
import Derived.Test.YtpgcodeckphanaaGreatDoorGGl
import Derived.Test.YtpgcodeckphanaaGreatDoorGMD
import Derived.Test.YtpgcodeckphanaaGreatDoorGAm33
import Derived.Test.YtpgcodeckphanaaGreatDoorGAm16
import Derived.Test.YtpgcodeckphanaaGreatDoorGAmL
import Derived.ChangeMaps5
import Derived.ProofKit
import Derived.OpenShut
import Derived.SevenTiedAt
import Derived.KernelRfl
namespace Go.Proofs.YtpgcodeckphanaaGreatDoor
open Go.ChangeShapes Go.WideShapes Go.ChangeAt Go.RowKit

theorem pacePlays_own : ownKnob Tryz.prog.godebug = none := by kernel_rfl
theorem pacePlays_kids : Kids Tryz.prog (· < Tryz.prog.types.size) := kids_rows (by kernel_rfl) (by kernel_rfl)
theorem pacePlays_full : ∀ t e, t < Tryz.prog.types.size → Tryz.prog.underlying t = some (.slice e) → 0 < Tryz.prog.cellsOf e := slices_full_of Tryz.prog (by kernel_rfl)
theorem pacePlays_size : 84 < Tryz.prog.types.size := Nat.le_of_ble_eq_true (by kernel_rfl)

set_option maxRecDepth 100000 in
theorem pacePlays_contract (H : Type) (enc : TypeId × Value → H) (W : World) (base : Nat) (args : Array Value) (ds gs : List (DataW H)) (before : List MemPlace)
    (hval : ∀ (j : Nat) t v, Tryz.f9.params[j]? = some t → args[j]? = some v → Value.okWide Tryz.prog W .any base t v)
    (hW : DataW.Whole enc Tryz.prog Tryz.f9.params.toList Rows.pacePlaysSpec.vars false W args.toList ds gs before) (hL : laidMetH Tryz.prog Rows.pacePlaysRow.laid W)
    (hw : (DataW.weightsEach Tryz.prog (Tryz.f9.params.toList ++ (OpenSpec.ofChange Rows.pacePlaysSpec).bare.plain.varTypes Tryz.prog) (ds ++ gs)).all (· ≤ reachBytes) = true) :
    Calls Tryz.prog 9 args W fun e W' => ∃ v, e = .returned v ∧ Rows.pacePlaysSpec.post enc Tryz.prog Tryz.f9 false true false false W args v W' := by
  have hW' := hW
  obtain ⟨p, q, hA0, hV, rfl, hfz, hnd⟩ := hW
  have hA : DataW.TrodAll enc Tryz.prog W 0 (fun _ => true) true Tryz.f9.params.toList args.toList ds p := hA0
  have hA1 := hA
  rw [Tryz.params9] at hA hval
  obtain ⟨v0, vs0, d0, ds0, p0, q0, hargs, rfl, rfl, h0, r0⟩ := trodAll_cons hA
  obtain ⟨v1, vs1, d1, ds1, p1, q1, rfl, rfl, rfl, h1, r1⟩ := trodAll_cons r0
  obtain ⟨rfl, rfl, rfl⟩ := trodAll_nil r1
  obtain rfl : args = #[v0, v1] := by cases args; simp_all
  obtain ⟨rfl, rfl⟩ := trodVars_none hV
  have hlt : ∀ p ∈ p0 ++ (p1 ++ []), p.block < W.heap.size := fun p hp => hW'.lt p (by simpa using hp)
  obtain ⟨x0, rfl, rfl, rfl, hx0⟩ := open_int Tryz.underlying3 (hval 0 3 v0 rfl rfl) h0
  obtain ⟨μ1D, h1D, sl1D, r1D, ro1D, ex1D, ge1D, vr1, ok1D⟩ := Am.zsd (n := 12) (d0 := Am.zrJ) (Am.Rel.empty W (glob_ok hL)) (fun _ _ e => by cases e) Tryz.underlying84 (by kernel_rfl) (hval 1 84 v1 rfl rfl) h1 (Am.zi5 hw 1 _ _ (by rw [Tryz.params9]; rfl) rfl)
  obtain ⟨l1, es1, f1⟩ := Am.zq8 ok1D
  refine ((Am.zrm f1.1 f1.2).calls r1D (.cons rfl (.cons vr1 .nil))).mono ?_
  rintro e W' ⟨cv, rfl, hv, hbel⟩
  have hv' : cv = .bool true := hv
  subst hv'
  refine ⟨_, rfl, Am.zlx (pa := [] ++ (p1 ++ [])) (pv := []) hW' (fun _ _ _ => trodAll_cons_mk (shut_bool Tryz.underlying4 _) trodAll_mk0) (fun sp hs => ?_) (fun _ _ => rfl) rfl hbel (ok_one (by kernel_rfl) rfl (okWide_bool_mk Tryz.underlying4 _))⟩
  exact Am.zgb pacePlays_kids pacePlays_full hbel (by rw [Tryz.params9]; intro t ht; simp only [List.mem_cons, List.not_mem_nil, or_false] at ht; have h9 := pacePlays_size; rcases ht with rfl | rfl; exact Nat.lt_trans (by decide) h9; exact h9) hA1 hlt (fun p hp => hs p (by simpa using hp))

theorem pacePlays_reads (os : Os) {H : Type} (enc : TypeId × Value → H) : ∃ places, DataW.whole enc Tryz.prog ((laidWorld os).forCall (fun _ _ => 0) ⟨#[], #[.int .i64 0, .slice none 0 0], []⟩).memory Tryz.f9.params.toList Rows.pacePlaysSpec.vars false (#[.int .i64 0, .slice none 0 0] : Array Value).toList 8 = some ([.lit (.int .i64 0), .nil], [], places) :=
  ⟨[], by kernel_rfl⟩

set_option maxRecDepth 100000 in
theorem pacePlays_lifted (os : Os) (started : os.Started) (H : Type) (enc : TypeId × Value → H) (F : Stop.Interp) :
    ReturnsInHanded {} Tryz.checked os 9 .any ((OpenSpec.ofChange Rows.pacePlaysSpec).preRow enc Tryz.prog Tryz.f9 Rows.pacePlaysRow.domain false Rows.pacePlaysRow.laid) (((OpenSpec.ofChange Rows.pacePlaysSpec).at F).post enc Tryz.prog Tryz.f9 false true false false) := by
  obtain ⟨places, hx⟩ := pacePlays_reads os enc
  refine returnsInHanded_of_row (C := Tryz.checked) (s := OpenSpec.ofChange Rows.pacePlaysSpec) pacePlays_own started (by kernel_rfl) Tryz.func9
    (witness_row_at (enc := enc) (C := Tryz.checked) false (laidWorld os) #[.int .i64 0, .slice none 0 0] rfl (by kernel_rfl) (by kernel_rfl) (by kernel_rfl)
      (OpenSpec.preRow_of_cond 8 hx (by kernel_rfl) (fun k hk => by cases hk) (by kernel_rfl) (pacePlaysRow_met os _))) ?_
  intro W base args ds gs before hval hW _ _ hw hL _ _
  exact pacePlays_contract H enc W base args ds gs before hval hW hL hw

theorem pacePlays_said : Rows.PacePlaysSaid :=
  OpenClaim.holds_of_cond 9 Tryz.f9 rfl rfl rfl rfl rfl rfl rfl ⟨rfl, rfl, rfl, rfl, rfl⟩ rfl rfl rfl rfl rfl (by kernel_rfl) Tryz.func9 (by kernel_rfl)
    (of_decide_eq_true (by kernel_rfl)) (by unfold Func.isWrapper; first | (rw [if_pos (by decide +kernel)]; kernel_rfl) | (rw [if_neg (by decide +kernel)]; exact ⟨rfl, rfl⟩))
    (fun os started H enc _ F => by rw [OpenClaim.pre_eq_preRow]; exact pacePlays_lifted os started H enc F)

theorem pacePlays_plain (f : FuncId) (fn : Func) (hf : Tryz.pinned.checked.prog.funcNamed "herald/heraldlaw31.PacePlays" = some f) (hfn : Tryz.pinned.checked.prog.funcs[f]? = some fn) :
    true = Tryz.pinned.checked.prog.looks [] ∧ ∀ (j : Nat) t, fn.params[j]? = some t → Tryz.pinned.checked.prog.wantsStandIn t = false := by
  obtain rfl : f = 9 := Option.some.inj ((show Tryz.prog.funcNamed "herald/heraldlaw31.PacePlays" = some 9 by kernel_rfl).symm.trans hf) |>.symm
  obtain rfl : fn = Tryz.f9 := (Option.some.inj (Tryz.func9.symm.trans hfn)).symm
  refine ⟨by kernel_rfl, fun j t ht => ?_⟩
  rw [Tryz.params9] at ht
  have hm := Array.mem_of_getElem? ht
  simp at hm
  rcases hm with rfl | rfl
  · exact (show Tryz.prog.wantsStandIn 3 = false by kernel_rfl)
  · exact (show Tryz.prog.wantsStandIn 84 = false by kernel_rfl)

/-- THE CARD. -/
theorem pacePlays_holds : Rows.PacePlaysCardSaid :=
  Claim7.holds_tied_plain_at .later [] _ _ _ _ pacePlays_said (fun _ h => by cases h) (by kernel_rfl) (fun _ h => by cases h) pacePlays_row_tie rfl ⟨rfl, rfl⟩ (by kernel_rfl) rfl pacePlays_plain (by kernel_rfl)
#print axioms pacePlays_holds
end Go.Proofs.YtpgcodeckphanaaGreatDoor
