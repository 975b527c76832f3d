/-
  'heraldlaw05.CommLays' answers true whatever comes in; the arguments read as they did. The row's listed package variables are laid as the program's text lays them (the card ties them).
-/
import Derived.Test.YtfbmffkgphgoaaaDoorCards
import Derived.Test.YtfbmffkgphgoaaaDoorTie
import Derived.Test.YtfbmffkgphgoaaaDoorLw
import Derived.Test.YtfbmffkgphgoaaaDoorGl
import Derived.Test.YtfbmffkgphgoaaaDoorC4
import Derived.Test.YtfbmffkgphgoaaaDoorC5
import Derived.Test.YtfbmffkgphgoaaaDoorAm33
import Derived.Test.YtfbmffkgphgoaaaDoorAm16
import Derived.Test.YtfbmffkgphgoaaaDoorAm23
import Derived.ProofKit
import Derived.OpenShut
import Derived.SevenTiedAt
import Derived.KernelRfl
namespace Go.Proofs.YtfbmffkgphgoaaaDoor
open Go.ChangeShapes Go.WideShapes Go.ChangeAt Go.RowKit

theorem commLays_own : ownKnob Tryd.prog.godebug = none := by kernel_rfl
theorem commLays_kids : Kids Tryd.prog (· < Tryd.prog.types.size) := kids_rows (by kernel_rfl) (by kernel_rfl)
theorem commLays_full : ∀ t e, t < Tryd.prog.types.size → Tryd.prog.underlying t = some (.slice e) → 0 < Tryd.prog.cellsOf e := slices_full_of Tryd.prog (by kernel_rfl)
theorem commLays_size : 26 < Tryd.prog.types.size := Nat.le_of_ble_eq_true (by kernel_rfl)

set_option maxRecDepth 100000 in
theorem commLays_contract (H : Type) (enc : TypeId × Value → H) (W : World) (base : Nat) (args : Array Value) (ds gs : List (DataW H)) (before : List MemPlace)
    (hval : ∀ (j : Nat) t v, Tryd.f3.params[j]? = some t → args[j]? = some v → Value.okWide Tryd.prog W .any base t v)
    (hW : DataW.Whole enc Tryd.prog Tryd.f3.params.toList Rows.commLaysSpec.vars false W args.toList ds gs before) (hL : laidMetH Tryd.prog Rows.commLaysRow.laid W) :
    Calls Tryd.prog 3 args W fun e W' => ∃ v, e = .returned v ∧ Rows.commLaysSpec.post enc Tryd.prog Tryd.f3 false true false false W args v W' := by
  have hW' := hW
  obtain ⟨p, q, hA0, hV, rfl, hfz, hnd⟩ := hW
  have hA : DataW.TrodAll enc Tryd.prog W 0 (fun _ => true) true Tryd.f3.params.toList args.toList ds p := hA0
  have hA1 := hA
  rw [Tryd.params3] at hA hval
  obtain ⟨v0, vs0, d0, ds0, p0, q0, hargs, rfl, rfl, h0, r0⟩ := trodAll_cons hA
  obtain ⟨rfl, rfl, rfl⟩ := trodAll_nil r0
  obtain rfl : args = #[v0] := by cases args; simp_all
  obtain ⟨rfl, rfl⟩ := trodVars_none hV
  have hlt : ∀ p ∈ p0 ++ [], p.block < W.heap.size := fun p hp => hW'.lt p (by simpa using hp)
  obtain ⟨μ, h, a0, b0, c0, lp0, lx0, ll0, r, vr0, ⟨sa0, ca0, fa0⟩, ⟨sb0, cb0, fb0⟩, ⟨sc0, cc0, fc0⟩⟩ := Am.lists_in (Am.Rel.empty W (glob_ok hL)) (fun _ _ e => by cases e) (hval 0 26 v0 rfl rfl) h0
  refine ((Am.clays_ct sa0 ca0 sb0 cb0 sc0 cc0 fa0 fb0 fc0).calls r (.cons vr0 .nil)).mono ?_
  rintro e W' ⟨cv, rfl, hv, hbel⟩
  have hv' : cv = .bool true := hv
  subst hv'
  refine ⟨_, rfl, Am.post_of_below (pa := p0 ++ []) (pv := []) hW' (fun _ _ _ => trodAll_cons_mk (shut_bool Tryd.underlying4 _) trodAll_mk0) (fun sp hs => ?_) (fun _ _ => rfl) rfl hbel (ok_one (by kernel_rfl) rfl (okWide_bool_mk Tryd.underlying4 _))⟩
  exact Am.trodAll_again commLays_kids commLays_full hbel (by rw [Tryd.params3]; intro t ht; simp only [List.mem_cons, List.not_mem_nil, or_false] at ht; have h9 := commLays_size; rcases ht with rfl; exact h9) hA1 hlt (fun p hp => hs p (by simpa using hp))

theorem commLays_reads (os : Os) {H : Type} (enc : TypeId × Value → H) : ∃ places, DataW.whole enc Tryd.prog ((laidWorld os).forCall (fun _ _ => 0) ⟨#[], #[.agg #[.slice none 0 0, .slice none 0 0, .slice none 0 0]], []⟩).memory Tryd.f3.params.toList Rows.commLaysSpec.vars false (#[.agg #[.slice none 0 0, .slice none 0 0, .slice none 0 0]] : Array Value).toList 8 = some ([.agg [.nil, .nil, .nil]], [], places) :=
  ⟨[], by kernel_rfl⟩

set_option maxRecDepth 100000 in
theorem commLays_lifted (os : Os) (started : os.Started) (H : Type) (enc : TypeId × Value → H) (F : Stop.Interp) :
    ReturnsInHanded {} Tryd.checked os 3 .any ((OpenSpec.ofChange Rows.commLaysSpec).preRow enc Tryd.prog Tryd.f3 Rows.commLaysRow.domain false Rows.commLaysRow.laid) (((OpenSpec.ofChange Rows.commLaysSpec).at F).post enc Tryd.prog Tryd.f3 false true false false) := by
  obtain ⟨places, hx⟩ := commLays_reads os enc
  refine returnsInHanded_of_row (C := Tryd.checked) (s := OpenSpec.ofChange Rows.commLaysSpec) commLays_own started (by kernel_rfl) Tryd.func3
    (witness_row_at (enc := enc) (C := Tryd.checked) false (laidWorld os) #[.agg #[.slice none 0 0, .slice none 0 0, .slice none 0 0]] rfl (by kernel_rfl) (by kernel_rfl) (by kernel_rfl)
      (OpenSpec.preRow_of_cond 8 hx (by kernel_rfl) (fun k hk => by cases hk) (by kernel_rfl) (commLaysRow_met os _))) ?_
  intro W base args ds gs before hval hW _ _ _ hL _ _
  exact commLays_contract H enc W base args ds gs before hval hW hL

theorem commLays_said : Rows.CommLaysSaid :=
  OpenClaim.holds_of_cond 3 Tryd.f3 rfl rfl rfl rfl rfl rfl rfl ⟨rfl, rfl, rfl, rfl, rfl⟩ rfl rfl rfl rfl rfl (by kernel_rfl) Tryd.func3 (by kernel_rfl)
    (of_decide_eq_true (by kernel_rfl)) (by unfold Func.isWrapper; first | (rw [if_pos (by decide +kernel)]; kernel_rfl) | (rw [if_neg (by decide +kernel)]; exact ⟨rfl, rfl⟩))
    (fun os started H enc _ F => by rw [OpenClaim.pre_eq_preRow]; exact commLays_lifted os started H enc F)

theorem commLays_plain (f : FuncId) (fn : Func) (hf : Tryd.pinned.checked.prog.funcNamed "herald/heraldlaw05.CommLays" = some f) (hfn : Tryd.pinned.checked.prog.funcs[f]? = some fn) :
    true = Tryd.pinned.checked.prog.looks [] ∧ ∀ (j : Nat) t, fn.params[j]? = some t → Tryd.pinned.checked.prog.wantsStandIn t = false := by
  obtain rfl : f = 3 := Option.some.inj ((show Tryd.prog.funcNamed "herald/heraldlaw05.CommLays" = some 3 by kernel_rfl).symm.trans hf) |>.symm
  obtain rfl : fn = Tryd.f3 := (Option.some.inj (Tryd.func3.symm.trans hfn)).symm
  refine ⟨by kernel_rfl, fun j t ht => ?_⟩
  rw [Tryd.params3] at ht
  have hm := Array.mem_of_getElem? ht
  simp at hm
  rcases hm with rfl
  · exact (show Tryd.prog.wantsStandIn 26 = false by kernel_rfl)

/-- THE CARD. -/
theorem commLays_holds : Rows.CommLaysCardSaid :=
  Claim7.holds_tied_plain_at .later [] _ _ _ _ commLays_said (fun _ h => by cases h) (by kernel_rfl) (fun _ h => by cases h) commLays_row_tie rfl ⟨rfl, rfl⟩ (by kernel_rfl) rfl commLays_plain (by kernel_rfl)
#print axioms commLays_holds
end Go.Proofs.YtfbmffkgphgoaaaDoor
