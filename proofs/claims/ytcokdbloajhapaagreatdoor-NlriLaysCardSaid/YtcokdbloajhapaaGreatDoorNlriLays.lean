/-
  'heraldlaw07.NlriLays' answers true whatever list of told prefixes, family and mark come in; the arguments read as they did. The row's listed package variables are laid as the program's text lays them (the card ties them); the code that the law runs reads none of them.
-/
import Derived.Test.YtcokdbloajhapaaGreatDoorCards
import Derived.Test.YtcokdbloajhapaaGreatDoorTie
import Derived.Test.YtcokdbloajhapaaGreatDoorLw
import Derived.Test.YtcokdbloajhapaaGreatDoorLB
import Derived.Test.YtcokdbloajhapaaGreatDoorAm33
import Derived.Test.YtcokdbloajhapaaGreatDoorAm16
import Derived.Test.YtcokdbloajhapaaGreatDoorAm23
import Derived.ProofKit
import Derived.OpenShut
import Derived.SevenTiedAt
import Derived.KernelRfl
namespace Go.Proofs.YtcokdbloajhapaaGreatDoor
open Go.ChangeShapes Go.WideShapes Go.ChangeAt Go.RowKit

theorem nlriLays_own : ownKnob Tryz.prog.godebug = none := by kernel_rfl
theorem nlriLays_kids : Kids Tryz.prog (· < Tryz.prog.types.size) := kids_rows (by kernel_rfl) (by kernel_rfl)
theorem nlriLays_full : ∀ t e, t < Tryz.prog.types.size → Tryz.prog.underlying t = some (.slice e) → 0 < Tryz.prog.cellsOf e := slices_full_of Tryz.prog (by kernel_rfl)
theorem nlriLays_size : 37 < Tryz.prog.types.size := Nat.le_of_ble_eq_true (by kernel_rfl)
open Am in
def nlLs : List Lf := [.int .i64, .int .u64, .str, .int .i64, .int .u32, .int .u32]
theorem nl_leaves : Am.leaves Tryz.prog 5 27 = some nlLs := by kernel_rfl
theorem nl_of {vs : List Am.V} (h : Am.Lfs nlLs vs) : ∃ n : Am.Nl, Am.NlFits n ∧ vs = Am.nlC n := by
  unfold nlLs at h
  cases h with
  | cons k1 t1 => cases t1 with
    | cons k2 t2 => cases t2 with
      | cons k3 t3 => cases t3 with
        | cons k4 t4 => cases t4 with
          | cons k5 t5 => cases t5 with
            | cons k6 t6 =>
              cases t6
              obtain ⟨f, rfl, _⟩ := k1
              obtain ⟨rd, rfl, hrd⟩ := Am.Lf.nat k2 rfl
              obtain ⟨s, rfl, hs⟩ := k3
              obtain ⟨l, rfl, _⟩ := k4
              obtain ⟨i, rfl, hi⟩ := Am.Lf.nat k5 rfl
              obtain ⟨c, rfl, _⟩ := Am.Lf.nat k6 rfl
              exact ⟨⟨⟨f, rd, s, l⟩, i, c⟩, ⟨hi, hrd, by unfold maxLen at hs; simp only; omega⟩, rfl⟩
theorem nl_cells : Tryz.prog.cellsOf 27 = nlLs.length := by kernel_rfl
open Am in
def formLs : List Lf := [.int .i64, .bool]
theorem form_leaves : Am.leaves Tryz.prog 5 37 = some formLs := by kernel_rfl
theorem form_of {vs : List Am.V} (h : Am.Lfs formLs vs) : ∃ (f : Int) (b : Bool), vs = [.int .i64 f, .bool b] := by
  unfold formLs at h
  cases h with
  | cons k1 t1 => cases t1 with
    | cons k2 t2 =>
      cases t2
      obtain ⟨f, rfl, _⟩ := k1
      obtain ⟨b, rfl⟩ := k2
      exact ⟨f, b, rfl⟩
theorem glob_none2 (W : World) : Am.GlobOk W := fun g cs e => by simp [Am.GT] at e

set_option maxRecDepth 100000 in
theorem nlriLays_contract (H : Type) (enc : TypeId × Value → H) (W : World) (base : Nat) (args : Array Value) (ds gs : List (DataW H)) (before : List MemPlace)
    (hval : ∀ (j : Nat) t v, Tryz.f4.params[j]? = some t → args[j]? = some v → Value.okWide Tryz.prog W .any base t v)
    (hW : DataW.Whole enc Tryz.prog Tryz.f4.params.toList Rows.nlriLaysSpec.vars false W args.toList ds gs before) :
    Calls Tryz.prog 4 args W fun e W' => ∃ v, e = .returned v ∧ Rows.nlriLaysSpec.post enc Tryz.prog Tryz.f4 false true false false W args v W' := by
  have hW' := hW
  obtain ⟨p, q, hA0, hV, rfl, hfz, hnd⟩ := hW
  have hA : DataW.TrodAll enc Tryz.prog W 0 (fun _ => true) true Tryz.f4.params.toList args.toList ds p := hA0
  have hA1 := hA
  rw [Tryz.params4] at hA hval
  obtain ⟨v0, vs0, d0, ds0, p0, q0, hargs, rfl, rfl, h0, r0⟩ := trodAll_cons hA
  obtain ⟨v1, vs1, d1, ds1, p1, q1, rfl, rfl, rfl, h1, r1⟩ := trodAll_cons r0
  obtain ⟨rfl, rfl, rfl⟩ := trodAll_nil r1
  obtain rfl : args = #[v0, v1] := by cases args; simp_all
  obtain ⟨rfl, rfl⟩ := trodVars_none hV
  have hlt : ∀ p ∈ p0 ++ (p1 ++ []), p.block < W.heap.size := fun p hp => hW'.lt p (by simpa using hp)
  obtain ⟨x1, l1, e1⟩ := Am.flat_in Tryz.underlying37 form_leaves (hval 1 37 v1 rfl rfl) h1
  obtain ⟨fm, ad, rfl⟩ := form_of l1
  obtain ⟨μ, h, sl, ess, r, ro, _, _, vr, hs, hq, _⟩ := Am.slice_arg (Am.Rel.empty W (glob_none2 W)) (fun _ _ e => by cases e) Tryz.underlying35 nl_leaves nl_cells (by decide) (hval 0 35 v0 rfl rfl) h0
  obtain ⟨l, rfl⟩ := Am.map_of_all (f := fun n : {n : Am.Nl // Am.NlFits n} => Am.nlC n.1) (fun e he => by obtain ⟨n, hn, rfl⟩ := nl_of (hq e he); exact ⟨⟨n, hn⟩, rfl⟩)
  have hs' : Am.Sls h.get 6 sl ((l.map (·.1)).map Am.nlC) := by rw [List.map_map]; exact hs
  refine ((Am.lays_ct (fam := fm) (add := ad) hs' (Am.CapOk.of_vr vr) (fun n hn => by obtain ⟨y, _, rfl⟩ := List.mem_map.1 hn; exact y.2)).calls r (.cons vr (.cons (e1 _ _) .nil))).mono ?_
  rintro e W' ⟨cv, rfl, hv, hbel⟩
  have hv' : cv = .bool true := hv
  subst hv'
  refine ⟨_, rfl, Am.post_of_below (pa := p0 ++ (p1 ++ [])) (pv := []) hW' (fun _ _ _ => trodAll_cons_mk (shut_bool Tryz.underlying4 _) trodAll_mk0) (fun sp hs => ?_) (fun _ _ => rfl) rfl hbel (ok_one (by kernel_rfl) rfl (okWide_bool_mk Tryz.underlying4 _))⟩
  exact Am.trodAll_again nlriLays_kids nlriLays_full hbel (by rw [Tryz.params4]; intro t ht; simp only [List.mem_cons, List.not_mem_nil, or_false] at ht; have h9 := nlriLays_size; rcases ht with rfl | rfl; exact Nat.lt_trans (by decide) h9; exact h9) hA1 hlt (fun p hp => hs p (by simpa using hp))

theorem nlriLays_reads (os : Os) {H : Type} (enc : TypeId × Value → H) : ∃ places, DataW.whole enc Tryz.prog ((laidWorld os).forCall (fun _ _ => 0) ⟨#[], #[.slice none 0 0, .agg #[.int .i64 0, .bool false]], []⟩).memory Tryz.f4.params.toList Rows.nlriLaysSpec.vars false #[Value.slice none 0 0, .agg #[.int .i64 0, .bool false]].toList 8 = some ([.nil, .agg [.lit (.int .i64 0), .lit (.bool false)]], [], places) :=
  ⟨[], by kernel_rfl⟩

set_option maxRecDepth 100000 in
theorem nlriLays_lifted (os : Os) (started : os.Started) (H : Type) (enc : TypeId × Value → H) (F : Stop.Interp) :
    ReturnsInHanded {} Tryz.checked os 4 .any ((OpenSpec.ofChange Rows.nlriLaysSpec).preRow enc Tryz.prog Tryz.f4 Rows.nlriLaysRow.domain false Rows.nlriLaysRow.laid) (((OpenSpec.ofChange Rows.nlriLaysSpec).at F).post enc Tryz.prog Tryz.f4 false true false false) := by
  obtain ⟨places, hx⟩ := nlriLays_reads os enc
  refine returnsInHanded_of_row (C := Tryz.checked) (s := OpenSpec.ofChange Rows.nlriLaysSpec) nlriLays_own started (by kernel_rfl) Tryz.func4
    (witness_row_at (enc := enc) (C := Tryz.checked) false (laidWorld os) #[.slice none 0 0, .agg #[.int .i64 0, .bool false]] rfl (by kernel_rfl) (by kernel_rfl) (by kernel_rfl)
      (OpenSpec.preRow_of_cond 8 hx (by kernel_rfl) (fun k hk => by cases hk) (by kernel_rfl) (nlriLaysRow_met os _))) ?_
  intro W base args ds gs before hval hW _ _ _ hL _ _
  exact nlriLays_contract H enc W base args ds gs before hval hW

theorem nlriLays_said : Rows.NlriLaysSaid :=
  OpenClaim.holds_of_cond 4 Tryz.f4 rfl rfl rfl rfl rfl rfl rfl ⟨rfl, rfl, rfl, rfl, rfl⟩ rfl rfl rfl rfl rfl (by kernel_rfl) Tryz.func4 (by kernel_rfl)
    (of_decide_eq_true (by kernel_rfl)) (by unfold Func.isWrapper; first | (rw [if_pos (by decide +kernel)]; kernel_rfl) | (rw [if_neg (by decide +kernel)]; exact ⟨rfl, rfl⟩))
    (fun os started H enc _ F => by rw [OpenClaim.pre_eq_preRow]; exact nlriLays_lifted os started H enc F)

theorem nlriLays_plain (f : FuncId) (fn : Func) (hf : Tryz.pinned.checked.prog.funcNamed "herald/heraldlaw07.NlriLays" = some f) (hfn : Tryz.pinned.checked.prog.funcs[f]? = some fn) :
    true = Tryz.pinned.checked.prog.looks [] ∧ ∀ (j : Nat) t, fn.params[j]? = some t → Tryz.pinned.checked.prog.wantsStandIn t = false := by
  obtain rfl : f = 4 := Option.some.inj ((show Tryz.prog.funcNamed "herald/heraldlaw07.NlriLays" = some 4 by kernel_rfl).symm.trans hf) |>.symm
  obtain rfl : fn = Tryz.f4 := (Option.some.inj (Tryz.func4.symm.trans hfn)).symm
  refine ⟨by kernel_rfl, fun j t ht => ?_⟩
  rw [Tryz.params4] at ht
  have hm := Array.mem_of_getElem? ht
  simp at hm
  rcases hm with rfl | rfl
  · exact (show Tryz.prog.wantsStandIn 35 = false by kernel_rfl)
  · exact (show Tryz.prog.wantsStandIn 37 = false by kernel_rfl)

/-- THE CARD. -/
theorem nlriLays_holds : Rows.NlriLaysCardSaid :=
  Claim7.holds_tied_plain_at .later [] _ _ _ _ nlriLays_said (fun _ h => by cases h) (by kernel_rfl) (fun _ h => by cases h) nlriLays_row_tie rfl ⟨rfl, rfl⟩ (by kernel_rfl) rfl nlriLays_plain (by kernel_rfl)
#print axioms nlriLays_holds
end Go.Proofs.YtcokdbloajhapaaGreatDoor
