/-
  'heraldlaw03.TriePlays' answers true whatever comes in; the arguments read as they did. The row's listed package variables are laid as the program's text lays them (the card ties them).
-/
import Derived.Test.YtjejnanjelooiaaDoorCards
import Derived.Test.YtjejnanjelooiaaDoorTie
import Derived.Test.YtjejnanjelooiaaDoorVLw
import Derived.Test.YtjejnanjelooiaaDoorVGl
import Derived.Test.YtjejnanjelooiaaDoorVMC
import Derived.Test.YtjejnanjelooiaaDoorVAm33
import Derived.Test.YtjejnanjelooiaaDoorVAm16
import Derived.Test.YtjejnanjelooiaaDoorVAm23
import Derived.ChangeMaps5
import Derived.ProofKit
import Derived.OpenShut
import Derived.SevenTiedAt
import Derived.KernelRfl
namespace Go.Proofs.YtjejnanjelooiaaDoor
open Go.ChangeShapes Go.WideShapes Go.ChangeAt Go.RowKit

theorem triePlays_own : ownKnob Tryd.prog.godebug = none := by kernel_rfl
theorem triePlays_kids : Kids Tryd.prog (· < Tryd.prog.types.size) := kids_rows (by kernel_rfl) (by kernel_rfl)
theorem triePlays_full : ∀ t e, t < Tryd.prog.types.size → Tryd.prog.underlying t = some (.slice e) → 0 < Tryd.prog.cellsOf e := slices_full_of Tryd.prog (by kernel_rfl)
theorem triePlays_size : 51 < Tryd.prog.types.size := Nat.le_of_ble_eq_true (by kernel_rfl)

set_option maxRecDepth 100000 in
theorem triePlays_contract (H : Type) (enc : TypeId × Value → H) (W : World) (base : Nat) (args : Array Value) (ds gs : List (DataW H)) (before : List MemPlace)
    (hval : ∀ (j : Nat) t v, Tryd.f6.params[j]? = some t → args[j]? = some v → Value.okWide Tryd.prog W .any base t v)
    (hW : DataW.Whole enc Tryd.prog Tryd.f6.params.toList Rows.triePlaysSpec.vars false W args.toList ds gs before) (hL : laidMetH Tryd.prog Rows.triePlaysRow.laid W)
    (hw : (DataW.weightsEach Tryd.prog (Tryd.f6.params.toList ++ (OpenSpec.ofChange Rows.triePlaysSpec).bare.plain.varTypes Tryd.prog) (ds ++ gs)).all (· ≤ reachBytes) = true) :
    Calls Tryd.prog 6 args W fun e W' => ∃ v, e = .returned v ∧ Rows.triePlaysSpec.post enc Tryd.prog Tryd.f6 false true false false W args v W' := by
  have hW' := hW
  obtain ⟨p, q, hA0, hV, rfl, hfz, hnd⟩ := hW
  have hA : DataW.TrodAll enc Tryd.prog W 0 (fun _ => true) true Tryd.f6.params.toList args.toList ds p := hA0
  have hA1 := hA
  rw [Tryd.params6] at hA hval
  obtain ⟨v0, vs0, d0, ds0, p0, q0, hargs, rfl, rfl, h0, r0⟩ := trodAll_cons hA
  obtain ⟨rfl, rfl, rfl⟩ := trodAll_nil r0
  obtain rfl : args = #[v0] := by cases args; simp_all
  obtain ⟨rfl, rfl⟩ := trodVars_none hV
  have hlt : ∀ p ∈ p0 ++ [], p.block < W.heap.size := fun p hp => hW'.lt p (by simpa using hp)
  obtain ⟨μ, h, sl0, es0, r, ro0, _, _, vr0, hs0, hq0, _⟩ := Am.slice_arg (n := 5) (l := Am.actLs) (Am.Rel.empty W (glob_ok hL)) (fun _ _ e => by cases e) Tryd.underlying51 (by kernel_rfl) (by kernel_rfl) (by decide) (hval 0 51 v0 rfl rfl) h0
  obtain ⟨l0, rfl, fl0⟩ := Am.acts_of hq0
  refine ((Am.tplayslaw_ct hs0).calls r (.cons vr0 .nil)).mono ?_
  rintro e W' ⟨cv, rfl, hv, hbel⟩
  have hv' : cv = .bool true := hv
  subst hv'
  refine ⟨_, rfl, Am.post_of_below (pa := p0 ++ []) (pv := []) hW' (fun _ _ _ => trodAll_cons_mk (shut_bool Tryd.underlying4 _) trodAll_mk0) (fun sp hs => ?_) (fun _ _ => rfl) rfl hbel (ok_one (by kernel_rfl) rfl (okWide_bool_mk Tryd.underlying4 _))⟩
  exact Am.trodAll_again triePlays_kids triePlays_full hbel (by rw [Tryd.params6]; intro t ht; simp only [List.mem_cons, List.not_mem_nil, or_false] at ht; have h9 := triePlays_size; rcases ht with rfl; exact h9) hA1 hlt (fun p hp => hs p (by simpa using hp))

theorem triePlays_reads (os : Os) {H : Type} (enc : TypeId × Value → H) : ∃ places, DataW.whole enc Tryd.prog ((laidWorld os).forCall (fun _ _ => 0) ⟨#[], #[.slice none 0 0], []⟩).memory Tryd.f6.params.toList Rows.triePlaysSpec.vars false (#[.slice none 0 0] : Array Value).toList 8 = some ([.nil], [], places) :=
  ⟨[], by kernel_rfl⟩

set_option maxRecDepth 100000 in
theorem triePlays_lifted (os : Os) (started : os.Started) (H : Type) (enc : TypeId × Value → H) (F : Stop.Interp) :
    ReturnsInHanded {} Tryd.checked os 6 .any ((OpenSpec.ofChange Rows.triePlaysSpec).preRow enc Tryd.prog Tryd.f6 Rows.triePlaysRow.domain false Rows.triePlaysRow.laid) (((OpenSpec.ofChange Rows.triePlaysSpec).at F).post enc Tryd.prog Tryd.f6 false true false false) := by
  obtain ⟨places, hx⟩ := triePlays_reads os enc
  refine returnsInHanded_of_row (C := Tryd.checked) (s := OpenSpec.ofChange Rows.triePlaysSpec) triePlays_own started (by kernel_rfl) Tryd.func6
    (witness_row_at (enc := enc) (C := Tryd.checked) false (laidWorld os) #[.slice none 0 0] rfl (by kernel_rfl) (by kernel_rfl) (by kernel_rfl)
      (OpenSpec.preRow_of_cond 8 hx (by kernel_rfl) (fun k hk => by cases hk) (by kernel_rfl) (triePlaysRow_met os _))) ?_
  intro W base args ds gs before hval hW _ _ hw hL _ _
  exact triePlays_contract H enc W base args ds gs before hval hW hL hw

theorem triePlays_said : Rows.TriePlaysSaid :=
  OpenClaim.holds_of_cond 6 Tryd.f6 rfl rfl rfl rfl rfl rfl rfl ⟨rfl, rfl, rfl, rfl, rfl⟩ rfl rfl rfl rfl rfl (by kernel_rfl) Tryd.func6 (by kernel_rfl)
    (of_decide_eq_true (by kernel_rfl)) (by unfold Func.isWrapper; first | (rw [if_pos (by decide +kernel)]; kernel_rfl) | (rw [if_neg (by decide +kernel)]; exact ⟨rfl, rfl⟩))
    (fun os started H enc _ F => by rw [OpenClaim.pre_eq_preRow]; exact triePlays_lifted os started H enc F)

theorem triePlays_plain (f : FuncId) (fn : Func) (hf : Tryd.pinned.checked.prog.funcNamed "herald/heraldlaw03.TriePlays" = some f) (hfn : Tryd.pinned.checked.prog.funcs[f]? = some fn) :
    true = Tryd.pinned.checked.prog.looks [] ∧ ∀ (j : Nat) t, fn.params[j]? = some t → Tryd.pinned.checked.prog.wantsStandIn t = false := by
  obtain rfl : f = 6 := Option.some.inj ((show Tryd.prog.funcNamed "herald/heraldlaw03.TriePlays" = some 6 by kernel_rfl).symm.trans hf) |>.symm
  obtain rfl : fn = Tryd.f6 := (Option.some.inj (Tryd.func6.symm.trans hfn)).symm
  refine ⟨by kernel_rfl, fun j t ht => ?_⟩
  rw [Tryd.params6] at ht
  have hm := Array.mem_of_getElem? ht
  simp at hm
  rcases hm with rfl
  · exact (show Tryd.prog.wantsStandIn 51 = false by kernel_rfl)

/-- THE CARD. -/
theorem triePlays_holds : Rows.TriePlaysCardSaid :=
  Claim7.holds_tied_plain_at .later [] _ _ _ _ triePlays_said (fun _ h => by cases h) (by kernel_rfl) (fun _ h => by cases h) triePlays_row_tie rfl ⟨rfl, rfl⟩ (by kernel_rfl) rfl triePlays_plain (by kernel_rfl)
#print axioms triePlays_holds
end Go.Proofs.YtjejnanjelooiaaDoor
