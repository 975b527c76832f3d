/-
  'heraldlaw27.VrfMoves' answers true whatever comes in; the arguments read as they did. The row's listed package variables are laid as the program's text lays them (the card ties them).
-/
import Derived.Test.YtjahfjcfjnnnjaaGreatDoorCards
import Derived.Test.YtjahfjcfjnnnjaaGreatDoorTie
import Derived.Test.YtjahfjcfjnnnjaaGreatDoorMLw
import Derived.Test.YtjahfjcfjnnnjaaGreatDoorMGl
import Derived.Test.YtjahfjcfjnnnjaaGreatDoorMMD
import Derived.Test.YtjahfjcfjnnnjaaGreatDoorMAm45
import Derived.Test.YtjahfjcfjnnnjaaGreatDoorMAm33
import Derived.Test.YtjahfjcfjnnnjaaGreatDoorMAm16
import Derived.Test.YtjahfjcfjnnnjaaGreatDoorMAm23
import Derived.ChangeMaps5
import Derived.ProofKit
import Derived.OpenShut
import Derived.SevenTiedAt
import Derived.KernelRfl
namespace Go.Proofs.YtjahfjcfjnnnjaaGreatDoor
open Go.ChangeShapes Go.WideShapes Go.ChangeAt Go.RowKit

theorem vrfMoves_own : ownKnob Tryz.prog.godebug = none := by kernel_rfl
theorem vrfMoves_kids : Kids Tryz.prog (· < Tryz.prog.types.size) := kids_rows (by kernel_rfl) (by kernel_rfl)
theorem vrfMoves_full : ∀ t e, t < Tryz.prog.types.size → Tryz.prog.underlying t = some (.slice e) → 0 < Tryz.prog.cellsOf e := slices_full_of Tryz.prog (by kernel_rfl)
theorem vrfMoves_size : 37 < Tryz.prog.types.size := Nat.le_of_ble_eq_true (by kernel_rfl)

set_option maxRecDepth 100000 in
theorem vrfMoves_contract (H : Type) (enc : TypeId × Value → H) (W : World) (base : Nat) (args : Array Value) (ds gs : List (DataW H)) (before : List MemPlace)
    (hval : ∀ (j : Nat) t v, Tryz.f3.params[j]? = some t → args[j]? = some v → Value.okWide Tryz.prog W .any base t v)
    (hW : DataW.Whole enc Tryz.prog Tryz.f3.params.toList Rows.vrfMovesSpec.vars false W args.toList ds gs before) (hL : laidMetH Tryz.prog Rows.vrfMovesRow.laid W)
    (hw : (DataW.weightsEach Tryz.prog (Tryz.f3.params.toList ++ (OpenSpec.ofChange Rows.vrfMovesSpec).bare.plain.varTypes Tryz.prog) (ds ++ gs)).all (· ≤ reachBytes) = true) :
    Calls Tryz.prog 3 args W fun e W' => ∃ v, e = .returned v ∧ Rows.vrfMovesSpec.post enc Tryz.prog Tryz.f3 false true false false W args v W' := by
  have hW' := hW
  obtain ⟨p, q, hA0, hV, rfl, hfz, hnd⟩ := hW
  have hA : DataW.TrodAll enc Tryz.prog W 0 (fun _ => true) true Tryz.f3.params.toList args.toList ds p := hA0
  have hA1 := hA
  rw [Tryz.params3] at hA hval
  obtain ⟨v0, vs0, d0, ds0, p0, q0, hargs, rfl, rfl, h0, r0⟩ := trodAll_cons hA
  obtain ⟨v1, vs1, d1, ds1, p1, q1, rfl, rfl, rfl, h1, r1⟩ := trodAll_cons r0
  obtain ⟨v2, vs2, d2, ds2, p2, q2, rfl, rfl, rfl, h2, r2⟩ := trodAll_cons r1
  obtain ⟨rfl, rfl, rfl⟩ := trodAll_nil r2
  obtain rfl : args = #[v0, v1, v2] := by cases args; simp_all
  obtain ⟨rfl, rfl⟩ := trodVars_none hV
  have hlt : ∀ p ∈ p0 ++ (p1 ++ (p2 ++ [])), p.block < W.heap.size := fun p hp => hW'.lt p (by simpa using hp)
  obtain ⟨μ0D, h0D, vs0D, r0D, ro0D, ex0D, ge0D, vr0, ok0D⟩ := Am.zrD (n := 8) (l := Am.vrL) (Am.Rel.empty W (glob_ok hL)) (fun _ _ e => by cases e) Tryz.underlying25 (by kernel_rfl) (hval 0 25 v0 rfl rfl) h0 (Am.zi7 hw 0 _ _ (by rw [Tryz.params3]; rfl) rfl)
  obtain ⟨ya0, yb0, yv0, rfl, yf0⟩ := Am.zr1 ok0D
  obtain ⟨μ1D, h1D, vs1D, r1D, ro1D, ex1D, ge1D, vr1, ok1D⟩ := Am.zrD (n := 8) (l := Am.zrz) r0D ro0D Tryz.underlying37 (by kernel_rfl) (hval 1 37 v1 rfl rfl) h1 (Am.zi7 hw 1 _ _ (by rw [Tryz.params3]; rfl) rfl)
  obtain ⟨za1, zb1, zc1, zd1, ze1, zp1, rfl, zf1⟩ := Am.zrY ok1D
  replace vr0 := vr0.ext ex1D
  replace yf0 := yf0.mono ge1D
  obtain ⟨x2, rfl, rfl, rfl, hx2⟩ := open_int Tryz.underlying28 (hval 2 28 v2 rfl rfl) h2
  obtain ⟨n2, rfl, hn2⟩ : ∃ n : Nat, x2 = n ∧ n < 4294967296 := ⟨x2.toNat, by simp [Lit.wf, IntKind.min, IntKind.max, IntKind.bits, IntKind.signed] at hx2; omega, by simp [Lit.wf, IntKind.min, IntKind.max, IntKind.bits, IntKind.signed] at hx2; omega⟩
  refine ((Am.zoL (label := n2) yf0 zf1).calls r1D (.cons vr0 (.cons vr1 (.cons rfl .nil)))).mono ?_
  rintro e W' ⟨cv, rfl, hv, hbel⟩
  have hv' : cv = .bool true := hv
  subst hv'
  refine ⟨_, rfl, Am.zl0 (pa := p0 ++ (p1 ++ ([] ++ []))) (pv := []) hW' (fun _ _ _ => trodAll_cons_mk (shut_bool Tryz.underlying4 _) trodAll_mk0) (fun sp hs => ?_) (fun _ _ => rfl) rfl hbel (ok_one (by kernel_rfl) rfl (okWide_bool_mk Tryz.underlying4 _))⟩
  exact Am.zge vrfMoves_kids vrfMoves_full hbel (by rw [Tryz.params3]; intro t ht; simp only [List.mem_cons, List.not_mem_nil, or_false] at ht; have h9 := vrfMoves_size; rcases ht with rfl | rfl | rfl; exact Nat.lt_trans (by decide) h9; exact h9; exact Nat.lt_trans (by decide) h9) hA1 hlt (fun p hp => hs p (by simpa using hp))

theorem vrfMoves_reads (os : Os) {H : Type} (enc : TypeId × Value → H) : ∃ places, DataW.whole enc Tryz.prog ((laidWorld os).forCall (fun _ _ => 0) ⟨#[], #[.agg #[.string ⟨#[]⟩,.int .u64 0,.slice none 0 0,.slice none 0 0], .agg #[.int .i64 0,.int .u64 0,.string ⟨#[]⟩,.int .i64 0,.int .u32 0,.int .u32 0,.int .i64 0,.slice none 0 0,.string ⟨#[]⟩,.bool false,.int .u32 0,.bool false,.int .u32 0,.bool false,.int .u32 0,.int .u32 0,.slice none 0 0,.slice none 0 0,.slice none 0 0,.bool false,.int .u32 0,.slice none 0 0,.int .i64 0,.string ⟨#[]⟩,.int .u32 0,.int .u32 0,.string ⟨#[]⟩,.string ⟨#[]⟩,.bool false], .int .u32 0], []⟩).memory Tryz.f3.params.toList Rows.vrfMovesSpec.vars false (#[.agg #[.string ⟨#[]⟩,.int .u64 0,.slice none 0 0,.slice none 0 0], .agg #[.int .i64 0,.int .u64 0,.string ⟨#[]⟩,.int .i64 0,.int .u32 0,.int .u32 0,.int .i64 0,.slice none 0 0,.string ⟨#[]⟩,.bool false,.int .u32 0,.bool false,.int .u32 0,.bool false,.int .u32 0,.int .u32 0,.slice none 0 0,.slice none 0 0,.slice none 0 0,.bool false,.int .u32 0,.slice none 0 0,.int .i64 0,.string ⟨#[]⟩,.int .u32 0,.int .u32 0,.string ⟨#[]⟩,.string ⟨#[]⟩,.bool false], .int .u32 0] : Array Value).toList 8 = some ([.agg [.lit (.string []),.lit (.int .u64 0),.nil,.nil], .agg [.agg [.lit (.int .i64 0),.lit (.int .u64 0),.lit (.string []),.lit (.int .i64 0)],.lit (.int .u32 0),.lit (.int .u32 0),.agg [.lit (.int .i64 0),.nil,.lit (.string []),.lit (.bool false),.lit (.int .u32 0),.lit (.bool false),.lit (.int .u32 0),.lit (.bool false),.lit (.int .u32 0),.lit (.int .u32 0),.nil,.nil,.nil,.lit (.bool false),.lit (.int .u32 0),.nil],.agg [.lit (.int .i64 0),.lit (.string []),.lit (.int .u32 0),.lit (.int .u32 0),.lit (.string []),.lit (.string [])],.lit (.bool false)], .lit (.int .u32 0)], [], places) :=
  ⟨[], by kernel_rfl⟩

set_option maxRecDepth 100000 in
theorem vrfMoves_lifted (os : Os) (started : os.Started) (H : Type) (enc : TypeId × Value → H) (F : Stop.Interp) :
    ReturnsInHanded {} Tryz.checked os 3 .any ((OpenSpec.ofChange Rows.vrfMovesSpec).preRow enc Tryz.prog Tryz.f3 Rows.vrfMovesRow.domain false Rows.vrfMovesRow.laid) (((OpenSpec.ofChange Rows.vrfMovesSpec).at F).post enc Tryz.prog Tryz.f3 false true false false) := by
  obtain ⟨places, hx⟩ := vrfMoves_reads os enc
  refine returnsInHanded_of_row (C := Tryz.checked) (s := OpenSpec.ofChange Rows.vrfMovesSpec) vrfMoves_own started (by kernel_rfl) Tryz.func3
    (witness_row_at (enc := enc) (C := Tryz.checked) false (laidWorld os) #[.agg #[.string ⟨#[]⟩,.int .u64 0,.slice none 0 0,.slice none 0 0], .agg #[.int .i64 0,.int .u64 0,.string ⟨#[]⟩,.int .i64 0,.int .u32 0,.int .u32 0,.int .i64 0,.slice none 0 0,.string ⟨#[]⟩,.bool false,.int .u32 0,.bool false,.int .u32 0,.bool false,.int .u32 0,.int .u32 0,.slice none 0 0,.slice none 0 0,.slice none 0 0,.bool false,.int .u32 0,.slice none 0 0,.int .i64 0,.string ⟨#[]⟩,.int .u32 0,.int .u32 0,.string ⟨#[]⟩,.string ⟨#[]⟩,.bool false], .int .u32 0] rfl (by kernel_rfl) (by kernel_rfl) (by kernel_rfl)
      (OpenSpec.preRow_of_cond 8 hx (by kernel_rfl) (fun k hk => by cases hk) (by kernel_rfl) (vrfMovesRow_met os _))) ?_
  intro W base args ds gs before hval hW _ _ hw hL _ _
  exact vrfMoves_contract H enc W base args ds gs before hval hW hL hw

theorem vrfMoves_said : Rows.VrfMovesSaid :=
  OpenClaim.holds_of_cond 3 Tryz.f3 rfl rfl rfl rfl rfl rfl rfl ⟨rfl, rfl, rfl, rfl, rfl⟩ rfl rfl rfl rfl rfl (by kernel_rfl) Tryz.func3 (by kernel_rfl)
    (of_decide_eq_true (by kernel_rfl)) (by unfold Func.isWrapper; first | (rw [if_pos (by decide +kernel)]; kernel_rfl) | (rw [if_neg (by decide +kernel)]; exact ⟨rfl, rfl⟩))
    (fun os started H enc _ F => by rw [OpenClaim.pre_eq_preRow]; exact vrfMoves_lifted os started H enc F)

theorem vrfMoves_plain (f : FuncId) (fn : Func) (hf : Tryz.pinned.checked.prog.funcNamed "herald/heraldlaw27.VrfMoves" = some f) (hfn : Tryz.pinned.checked.prog.funcs[f]? = some fn) :
    true = Tryz.pinned.checked.prog.looks [] ∧ ∀ (j : Nat) t, fn.params[j]? = some t → Tryz.pinned.checked.prog.wantsStandIn t = false := by
  obtain rfl : f = 3 := Option.some.inj ((show Tryz.prog.funcNamed "herald/heraldlaw27.VrfMoves" = some 3 by kernel_rfl).symm.trans hf) |>.symm
  obtain rfl : fn = Tryz.f3 := (Option.some.inj (Tryz.func3.symm.trans hfn)).symm
  refine ⟨by kernel_rfl, fun j t ht => ?_⟩
  rw [Tryz.params3] at ht
  have hm := Array.mem_of_getElem? ht
  simp at hm
  rcases hm with rfl | rfl | rfl
  · exact (show Tryz.prog.wantsStandIn 25 = false by kernel_rfl)
  · exact (show Tryz.prog.wantsStandIn 37 = false by kernel_rfl)
  · exact (show Tryz.prog.wantsStandIn 28 = false by kernel_rfl)

/-- THE CARD. -/
theorem vrfMoves_holds : Rows.VrfMovesCardSaid :=
  Claim7.holds_tied_plain_at .later [] _ _ _ _ vrfMoves_said (fun _ h => by cases h) (by kernel_rfl) (fun _ h => by cases h) vrfMoves_row_tie rfl ⟨rfl, rfl⟩ (by kernel_rfl) rfl vrfMoves_plain (by kernel_rfl)
#print axioms vrfMoves_holds
end Go.Proofs.YtjahfjcfjnnnjaaGreatDoor
