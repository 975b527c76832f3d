/-
  'heraldlaw27.VrfApart' answers true whatever comes in; the arguments read as they did. The row's listed package variables are laid as the program's text lays them (the card ties them).
-/
import Derived.Test.YtjahfjcfjnnnjaaGreatDoorCards
import Derived.Test.YtjahfjcfjnnnjaaGreatDoorTie
import Derived.Test.YtjahfjcfjnnnjaaGreatDoorVLw
import Derived.Test.YtjahfjcfjnnnjaaGreatDoorVGl
import Derived.Test.YtjahfjcfjnnnjaaGreatDoorVMD
import Derived.Test.YtjahfjcfjnnnjaaGreatDoorVAm45
import Derived.Test.YtjahfjcfjnnnjaaGreatDoorVAm33
import Derived.Test.YtjahfjcfjnnnjaaGreatDoorVAm16
import Derived.Test.YtjahfjcfjnnnjaaGreatDoorVAm23
import Derived.ChangeMaps5
import Derived.ProofKit
import Derived.OpenShut
import Derived.SevenTiedAt
import Derived.KernelRfl
namespace Go.Proofs.YtjahfjcfjnnnjaaGreatDoor
open Go.ChangeShapes Go.WideShapes Go.ChangeAt Go.RowKit

theorem vrfApart_own : ownKnob Tryz.prog.godebug = none := by kernel_rfl
theorem vrfApart_kids : Kids Tryz.prog (· < Tryz.prog.types.size) := kids_rows (by kernel_rfl) (by kernel_rfl)
theorem vrfApart_full : ∀ t e, t < Tryz.prog.types.size → Tryz.prog.underlying t = some (.slice e) → 0 < Tryz.prog.cellsOf e := slices_full_of Tryz.prog (by kernel_rfl)
theorem vrfApart_size : 55 < Tryz.prog.types.size := Nat.le_of_ble_eq_true (by kernel_rfl)

set_option maxRecDepth 100000 in
theorem vrfApart_contract (H : Type) (enc : TypeId × Value → H) (W : World) (base : Nat) (args : Array Value) (ds gs : List (DataW H)) (before : List MemPlace)
    (hval : ∀ (j : Nat) t v, Tryz.f5.params[j]? = some t → args[j]? = some v → Value.okWide Tryz.prog W .any base t v)
    (hW : DataW.Whole enc Tryz.prog Tryz.f5.params.toList Rows.vrfApartSpec.vars false W args.toList ds gs before) (hL : laidMetH Tryz.prog Rows.vrfApartRow.laid W)
    (hw : (DataW.weightsEach Tryz.prog (Tryz.f5.params.toList ++ (OpenSpec.ofChange Rows.vrfApartSpec).bare.plain.varTypes Tryz.prog) (ds ++ gs)).all (· ≤ reachBytes) = true) :
    Calls Tryz.prog 5 args W fun e W' => ∃ v, e = .returned v ∧ Rows.vrfApartSpec.post enc Tryz.prog Tryz.f5 false true false false W args v W' := by
  have hW' := hW
  obtain ⟨p, q, hA0, hV, rfl, hfz, hnd⟩ := hW
  have hA : DataW.TrodAll enc Tryz.prog W 0 (fun _ => true) true Tryz.f5.params.toList args.toList ds p := hA0
  have hA1 := hA
  rw [Tryz.params5] at hA hval
  obtain ⟨v0, vs0, d0, ds0, p0, q0, hargs, rfl, rfl, h0, r0⟩ := trodAll_cons hA
  obtain ⟨v1, vs1, d1, ds1, p1, q1, rfl, rfl, rfl, h1, r1⟩ := trodAll_cons r0
  obtain ⟨v2, vs2, d2, ds2, p2, q2, rfl, rfl, rfl, h2, r2⟩ := trodAll_cons r1
  obtain ⟨rfl, rfl, rfl⟩ := trodAll_nil r2
  obtain rfl : args = #[v0, v1, v2] := by cases args; simp_all
  obtain ⟨rfl, rfl⟩ := trodVars_none hV
  have hlt : ∀ p ∈ p0 ++ (p1 ++ (p2 ++ [])), p.block < W.heap.size := fun p hp => hW'.lt p (by simpa using hp)
  obtain ⟨μ0D, h0D, vs0D, r0D, ro0D, ex0D, ge0D, vr0, ok0D⟩ := Am.deep_st (n := 8) (l := Am.spoL) (Am.Rel.empty W (glob_ok hL)) (fun _ _ e => by cases e) Tryz.underlying55 (by kernel_rfl) (hval 0 55 v0 rfl rfl) h0 (Am.weights_at hw 0 _ _ (by rw [Tryz.params5]; rfl) rfl)
  obtain ⟨a0, b0, c0, s0, rfl, sp0⟩ := Am.spo_of ok0D
  obtain ⟨μ1D, h1D, vs1D, r1D, ro1D, ex1D, ge1D, vr1, ok1D⟩ := Am.deep_st (n := 8) (l := Am.spoL) r0D ro0D Tryz.underlying55 (by kernel_rfl) (hval 1 55 v1 rfl rfl) h1 (Am.weights_at hw 1 _ _ (by rw [Tryz.params5]; rfl) rfl)
  obtain ⟨a1, b1, c1, s1, rfl, sp1⟩ := Am.spo_of ok1D
  replace vr0 := vr0.ext ex1D
  replace sp0 := sp0.mono ge1D
  obtain ⟨b2, rfl, rfl, rfl⟩ := open_bool Tryz.underlying4 (hval 2 4 v2 rfl rfl) h2
  refine ((Am.law_ct (six := b2) sp0 sp1).calls r1D (.cons vr0 (.cons vr1 (.cons rfl .nil)))).mono ?_
  rintro e W' ⟨cv, rfl, hv, hbel⟩
  have hv' : cv = .bool true := hv
  subst hv'
  refine ⟨_, rfl, Am.post_of_below (pa := p0 ++ (p1 ++ ([] ++ []))) (pv := []) hW' (fun _ _ _ => trodAll_cons_mk (shut_bool Tryz.underlying4 _) trodAll_mk0) (fun sp hs => ?_) (fun _ _ => rfl) rfl hbel (ok_one (by kernel_rfl) rfl (okWide_bool_mk Tryz.underlying4 _))⟩
  exact Am.trodAll_again vrfApart_kids vrfApart_full hbel (by rw [Tryz.params5]; intro t ht; simp only [List.mem_cons, List.not_mem_nil, or_false] at ht; have h9 := vrfApart_size; rcases ht with rfl | rfl | rfl; exact h9; exact h9; exact Nat.lt_trans (by decide) h9) hA1 hlt (fun p hp => hs p (by simpa using hp))

theorem vrfApart_reads (os : Os) {H : Type} (enc : TypeId × Value → H) : ∃ places, DataW.whole enc Tryz.prog ((laidWorld os).forCall (fun _ _ => 0) ⟨#[], #[.agg #[.slice none 0 0,.slice none 0 0,.slice none 0 0], .agg #[.slice none 0 0,.slice none 0 0,.slice none 0 0], .bool false], []⟩).memory Tryz.f5.params.toList Rows.vrfApartSpec.vars false (#[.agg #[.slice none 0 0,.slice none 0 0,.slice none 0 0], .agg #[.slice none 0 0,.slice none 0 0,.slice none 0 0], .bool false] : Array Value).toList 8 = some ([.agg [.nil,.nil,.nil], .agg [.nil,.nil,.nil], .lit (.bool false)], [], places) :=
  ⟨[], by kernel_rfl⟩

set_option maxRecDepth 100000 in
theorem vrfApart_lifted (os : Os) (started : os.Started) (H : Type) (enc : TypeId × Value → H) (F : Stop.Interp) :
    ReturnsInHanded {} Tryz.checked os 5 .any ((OpenSpec.ofChange Rows.vrfApartSpec).preRow enc Tryz.prog Tryz.f5 Rows.vrfApartRow.domain false Rows.vrfApartRow.laid) (((OpenSpec.ofChange Rows.vrfApartSpec).at F).post enc Tryz.prog Tryz.f5 false true false false) := by
  obtain ⟨places, hx⟩ := vrfApart_reads os enc
  refine returnsInHanded_of_row (C := Tryz.checked) (s := OpenSpec.ofChange Rows.vrfApartSpec) vrfApart_own started (by kernel_rfl) Tryz.func5
    (witness_row_at (enc := enc) (C := Tryz.checked) false (laidWorld os) #[.agg #[.slice none 0 0,.slice none 0 0,.slice none 0 0], .agg #[.slice none 0 0,.slice none 0 0,.slice none 0 0], .bool false] rfl (by kernel_rfl) (by kernel_rfl) (by kernel_rfl)
      (OpenSpec.preRow_of_cond 8 hx (by kernel_rfl) (fun k hk => by cases hk) (by kernel_rfl) (vrfApartRow_met os _))) ?_
  intro W base args ds gs before hval hW _ _ hw hL _ _
  exact vrfApart_contract H enc W base args ds gs before hval hW hL hw

theorem vrfApart_said : Rows.VrfApartSaid :=
  OpenClaim.holds_of_cond 5 Tryz.f5 rfl rfl rfl rfl rfl rfl rfl ⟨rfl, rfl, rfl, rfl, rfl⟩ rfl rfl rfl rfl rfl (by kernel_rfl) Tryz.func5 (by kernel_rfl)
    (of_decide_eq_true (by kernel_rfl)) (by unfold Func.isWrapper; first | (rw [if_pos (by decide +kernel)]; kernel_rfl) | (rw [if_neg (by decide +kernel)]; exact ⟨rfl, rfl⟩))
    (fun os started H enc _ F => by rw [OpenClaim.pre_eq_preRow]; exact vrfApart_lifted os started H enc F)

theorem vrfApart_plain (f : FuncId) (fn : Func) (hf : Tryz.pinned.checked.prog.funcNamed "herald/heraldlaw27.VrfApart" = some f) (hfn : Tryz.pinned.checked.prog.funcs[f]? = some fn) :
    true = Tryz.pinned.checked.prog.looks [] ∧ ∀ (j : Nat) t, fn.params[j]? = some t → Tryz.pinned.checked.prog.wantsStandIn t = false := by
  obtain rfl : f = 5 := Option.some.inj ((show Tryz.prog.funcNamed "herald/heraldlaw27.VrfApart" = some 5 by kernel_rfl).symm.trans hf) |>.symm
  obtain rfl : fn = Tryz.f5 := (Option.some.inj (Tryz.func5.symm.trans hfn)).symm
  refine ⟨by kernel_rfl, fun j t ht => ?_⟩
  rw [Tryz.params5] at ht
  have hm := Array.mem_of_getElem? ht
  simp at hm
  rcases hm with rfl | rfl
  · exact (show Tryz.prog.wantsStandIn 55 = false by kernel_rfl)
  · exact (show Tryz.prog.wantsStandIn 4 = false by kernel_rfl)

theorem vrfApart_holds : Rows.VrfApartCardSaid :=
  Claim7.holds_tied_plain_at .later [] _ _ _ _ vrfApart_said (fun _ h => by cases h) (by kernel_rfl) (fun _ h => by cases h) vrfApart_row_tie rfl ⟨rfl, rfl⟩ (by kernel_rfl) rfl vrfApart_plain (by kernel_rfl)
#print axioms vrfApart_holds
end Go.Proofs.YtjahfjcfjnnnjaaGreatDoor
