/-
  'heraldlaw33.RpcAsks' answers true whatever comes in; the arguments read as they did. The row's listed package variables are laid as the program's text lays them (the card ties them).
-/
import Derived.Test.YtanegkchnleccaaGreatDoorCards
import Derived.Test.YtanegkchnleccaaGreatDoorTie
import Derived.Test.YtanegkchnleccaaGreatDoorLw
import Derived.Test.YtanegkchnleccaaGreatDoorGl
import Derived.Test.YtanegkchnleccaaGreatDoorRP11
import Derived.Test.YtanegkchnleccaaGreatDoorRP12
import Derived.Test.YtanegkchnleccaaGreatDoorAm33
import Derived.Test.YtanegkchnleccaaGreatDoorAm16
import Derived.Test.YtanegkchnleccaaGreatDoorAm23
import Derived.ChangeMaps5
import Derived.ProofKit
import Derived.OpenShut
import Derived.SevenTiedAt
import Derived.KernelRfl
namespace Go.Proofs.YtanegkchnleccaaGreatDoor
open Go.ChangeShapes Go.WideShapes Go.ChangeAt Go.RowKit

theorem rpcAsks_own : ownKnob Tryz.prog.godebug = none := by kernel_rfl
theorem rpcAsks_kids : Kids Tryz.prog (· < Tryz.prog.types.size) := kids_rows (by kernel_rfl) (by kernel_rfl)
theorem rpcAsks_full : ∀ t e, t < Tryz.prog.types.size → Tryz.prog.underlying t = some (.slice e) → 0 < Tryz.prog.cellsOf e := slices_full_of Tryz.prog (by kernel_rfl)
theorem rpcAsks_size : 26 < Tryz.prog.types.size := Nat.le_of_ble_eq_true (by kernel_rfl)

set_option maxRecDepth 100000 in
theorem rpcAsks_contract (H : Type) (enc : TypeId × Value → H) (W : World) (base : Nat) (args : Array Value) (ds gs : List (DataW H)) (before : List MemPlace)
    (hval : ∀ (j : Nat) t v, Tryz.f3.params[j]? = some t → args[j]? = some v → Value.okWide Tryz.prog W .any base t v)
    (hW : DataW.Whole enc Tryz.prog Tryz.f3.params.toList Rows.rpcAsksSpec.vars false W args.toList ds gs before) (hL : laidMetH Tryz.prog Rows.rpcAsksRow.laid W)
    (hw : (DataW.weightsEach Tryz.prog (Tryz.f3.params.toList ++ (OpenSpec.ofChange Rows.rpcAsksSpec).bare.plain.varTypes Tryz.prog) (ds ++ gs)).all (· ≤ reachBytes) = true) :
    Calls Tryz.prog 3 args W fun e W' => ∃ v, e = .returned v ∧ Rows.rpcAsksSpec.post enc Tryz.prog Tryz.f3 false true false false W args v W' := by
  have hW' := hW
  obtain ⟨p, q, hA0, hV, rfl, hfz, hnd⟩ := hW
  have hA : DataW.TrodAll enc Tryz.prog W 0 (fun _ => true) true Tryz.f3.params.toList args.toList ds p := hA0
  have hA1 := hA
  rw [Tryz.params3] at hA hval
  obtain ⟨v0, vs0, d0, ds0, p0, q0, hargs, rfl, rfl, h0, r0⟩ := trodAll_cons hA
  obtain ⟨v1, vs1, d1, ds1, p1, q1, rfl, rfl, rfl, h1, r1⟩ := trodAll_cons r0
  obtain ⟨rfl, rfl, rfl⟩ := trodAll_nil r1
  obtain rfl : args = #[v0, v1] := by cases args; simp_all
  obtain ⟨rfl, rfl⟩ := trodVars_none hV
  have hlt : ∀ p ∈ p0 ++ (p1 ++ []), p.block < W.heap.size := fun p hp => hW'.lt p (by simpa using hp)
  obtain ⟨x0, lf0, e0⟩ := Am.flat_in Tryz.underlying26 (show Am.leaves Tryz.prog 6 26 = some Am.rqLs by kernel_rfl) (hval 0 26 v0 rfl rfl) h0
  obtain ⟨w0, f0, rfl⟩ := Am.rq_of lf0
  obtain ⟨s1, rfl, rfl, rfl, _⟩ := Go.ChangeMaps.open_string Tryz.underlying9 (hval 1 9 v1 rfl rfl) h1
  have hs1 : s1.data.toList.length ≤ reachBytes := by
    have h9 := hw
    rw [Tryz.params3] at h9
    simp [DataW.weightsEach, DataW.weights] at h9
    simpa using h9.2
  refine ((Am.rasks_ct (r := w0) (s := s1.data.toList) f0.1 f0.2 (Nat.lt_of_le_of_lt hs1 (by decide))).calls (Am.Rel.empty W (glob_ok hL)) (.cons (e0 _ _) (.cons (by simp [Am.VR]) .nil))).mono ?_
  rintro e W' ⟨cv, rfl, hv, hbel⟩
  have hv' : cv = .bool true := hv
  subst hv'
  refine ⟨_, rfl, Am.post_of_below (pa := p0 ++ ([] ++ [])) (pv := []) hW' (fun _ _ _ => trodAll_cons_mk (shut_bool Tryz.underlying4 _) trodAll_mk0) (fun sp hs => ?_) (fun _ _ => rfl) rfl hbel (ok_one (by kernel_rfl) rfl (okWide_bool_mk Tryz.underlying4 _))⟩
  exact Am.trodAll_again rpcAsks_kids rpcAsks_full hbel (by rw [Tryz.params3]; intro t ht; simp only [List.mem_cons, List.not_mem_nil, or_false] at ht; have h9 := rpcAsks_size; rcases ht with rfl | rfl; exact h9; exact Nat.lt_trans (by decide) h9) hA1 hlt (fun p hp => hs p (by simpa using hp))

theorem rpcAsks_reads (os : Os) {H : Type} (enc : TypeId × Value → H) : ∃ places, DataW.whole enc Tryz.prog ((laidWorld os).forCall (fun _ _ => 0) ⟨#[], #[.agg #[.int .i64 0, .string ⟨#[]⟩, .int .i64 0, .int .i64 0, .int .u64 0, .string ⟨#[]⟩, .int .i64 0], .string ⟨#[]⟩], []⟩).memory Tryz.f3.params.toList Rows.rpcAsksSpec.vars false (#[.agg #[.int .i64 0, .string ⟨#[]⟩, .int .i64 0, .int .i64 0, .int .u64 0, .string ⟨#[]⟩, .int .i64 0], .string ⟨#[]⟩] : Array Value).toList 8 = some ([.agg [.lit (.int .i64 0), .lit (.string []), .lit (.int .i64 0), .agg [.lit (.int .i64 0), .lit (.int .u64 0), .lit (.string []), .lit (.int .i64 0)]], .lit (.string [])], [], places) :=
  ⟨[], by kernel_rfl⟩

set_option maxRecDepth 100000 in
theorem rpcAsks_lifted (os : Os) (started : os.Started) (H : Type) (enc : TypeId × Value → H) (F : Stop.Interp) :
    ReturnsInHanded {} Tryz.checked os 3 .any ((OpenSpec.ofChange Rows.rpcAsksSpec).preRow enc Tryz.prog Tryz.f3 Rows.rpcAsksRow.domain false Rows.rpcAsksRow.laid) (((OpenSpec.ofChange Rows.rpcAsksSpec).at F).post enc Tryz.prog Tryz.f3 false true false false) := by
  obtain ⟨places, hx⟩ := rpcAsks_reads os enc
  refine returnsInHanded_of_row (C := Tryz.checked) (s := OpenSpec.ofChange Rows.rpcAsksSpec) rpcAsks_own started (by kernel_rfl) Tryz.func3
    (witness_row_at (enc := enc) (C := Tryz.checked) false (laidWorld os) #[.agg #[.int .i64 0, .string ⟨#[]⟩, .int .i64 0, .int .i64 0, .int .u64 0, .string ⟨#[]⟩, .int .i64 0], .string ⟨#[]⟩] rfl (by kernel_rfl) (by kernel_rfl) (by kernel_rfl)
      (OpenSpec.preRow_of_cond 8 hx (by kernel_rfl) (fun k hk => by cases hk) (by kernel_rfl) (rpcAsksRow_met os _))) ?_
  intro W base args ds gs before hval hW _ _ hw hL _ _
  exact rpcAsks_contract H enc W base args ds gs before hval hW hL hw

theorem rpcAsks_said : Rows.RpcAsksSaid :=
  OpenClaim.holds_of_cond 3 Tryz.f3 rfl rfl rfl rfl rfl rfl rfl ⟨rfl, rfl, rfl, rfl, rfl⟩ rfl rfl rfl rfl rfl (by kernel_rfl) Tryz.func3 (by kernel_rfl)
    (of_decide_eq_true (by kernel_rfl)) (by unfold Func.isWrapper; first | (rw [if_pos (by decide +kernel)]; kernel_rfl) | (rw [if_neg (by decide +kernel)]; exact ⟨rfl, rfl⟩))
    (fun os started H enc _ F => by rw [OpenClaim.pre_eq_preRow]; exact rpcAsks_lifted os started H enc F)

theorem rpcAsks_plain (f : FuncId) (fn : Func) (hf : Tryz.pinned.checked.prog.funcNamed "herald/heraldlaw33.RpcAsks" = some f) (hfn : Tryz.pinned.checked.prog.funcs[f]? = some fn) :
    true = Tryz.pinned.checked.prog.looks [] ∧ ∀ (j : Nat) t, fn.params[j]? = some t → Tryz.pinned.checked.prog.wantsStandIn t = false := by
  obtain rfl : f = 3 := Option.some.inj ((show Tryz.prog.funcNamed "herald/heraldlaw33.RpcAsks" = some 3 by kernel_rfl).symm.trans hf) |>.symm
  obtain rfl : fn = Tryz.f3 := (Option.some.inj (Tryz.func3.symm.trans hfn)).symm
  refine ⟨by kernel_rfl, fun j t ht => ?_⟩
  rw [Tryz.params3] at ht
  have hm := Array.mem_of_getElem? ht
  simp at hm
  rcases hm with rfl | rfl
  · exact (show Tryz.prog.wantsStandIn 26 = false by kernel_rfl)
  · exact (show Tryz.prog.wantsStandIn 9 = false by kernel_rfl)

/-- THE CARD. -/
theorem rpcAsks_holds : Rows.RpcAsksCardSaid :=
  Claim7.holds_tied_plain_at .later [] _ _ _ _ rpcAsks_said (fun _ h => by cases h) (by kernel_rfl) (fun _ h => by cases h) rpcAsks_row_tie rfl ⟨rfl, rfl⟩ (by kernel_rfl) rfl rpcAsks_plain (by kernel_rfl)
#print axioms rpcAsks_holds
end Go.Proofs.YtanegkchnleccaaGreatDoor
