/-
  'heraldlaw07.NlriBack' answers true whatever told prefixes, family and mark come in; the arguments read as they did. The row's listed package variables are laid as the program's text lays them (the card ties them); the code that the law runs reads none of them.
-/
import Derived.Test.YtcokdbloajhapaaDoorCards
import Derived.Test.YtcokdbloajhapaaDoorTie
import Derived.Test.YtcokdbloajhapaaDoorLw
import Derived.Test.YtcokdbloajhapaaDoorMC
import Derived.Test.YtcokdbloajhapaaDoorAm33
import Derived.Test.YtcokdbloajhapaaDoorAm16
import Derived.Test.YtcokdbloajhapaaDoorAm23
import Derived.ProofKit
import Derived.OpenShut
import Derived.SevenTiedAt
import Derived.KernelRfl
namespace Go.Proofs.YtcokdbloajhapaaDoor
open Go.ChangeShapes Go.WideShapes Go.ChangeAt Go.RowKit

theorem nlriBack_own : ownKnob Tryd.prog.godebug = none := by kernel_rfl
theorem nlriBack_kids : Kids Tryd.prog (· < Tryd.prog.types.size) := kids_rows (by kernel_rfl) (by kernel_rfl)
theorem nlriBack_full : ∀ t e, t < Tryd.prog.types.size → Tryd.prog.underlying t = some (.slice e) → 0 < Tryd.prog.cellsOf e := slices_full_of Tryd.prog (by kernel_rfl)
theorem nlriBack_size : 37 < Tryd.prog.types.size := Nat.le_of_ble_eq_true (by kernel_rfl)
open Am in
def rawLs : List Lf := [.int .u64] ++ (List.replicate 16 (.int .u8) ++ [.int .u8, .int .u32, .int .u32])
theorem raw_leaves : Am.leaves Tryd.prog 5 41 = some rawLs := by kernel_rfl
theorem raw_cells : Tryd.prog.cellsOf 41 = rawLs.length := by kernel_rfl
theorem raw_of {vs : List Am.V} (h : Am.Lfs rawLs vs) : ∃ r : {r : Am.Raw // r.Ok}, vs = Am.rawC r.1 := by
  unfold rawLs at h
  obtain ⟨y, z, rfl, h1, h2⟩ := h.cut
  obtain ⟨y2, z2, rfl, h3, h4⟩ := h2.cut
  obtain ⟨bs, hb, rfl⟩ := h3.bytes
  cases h1 with
  | cons k1 t1 =>
    cases t1
    obtain ⟨rd, rfl, hrd⟩ := Am.Lf.nat k1 rfl
    cases h4 with
    | cons k2 t2 =>
      obtain ⟨ln, rfl, hln⟩ := Am.Lf.nat k2 rfl
      cases t2 with
      | cons k3 t3 =>
        obtain ⟨i, rfl, hi⟩ := Am.Lf.nat k3 rfl
        cases t3 with
        | cons k4 t4 =>
          obtain ⟨lb, rfl, hlb⟩ := Am.Lf.nat k4 rfl
          cases t4
          exact ⟨⟨⟨rd, bs, ln, i, lb⟩, ⟨hrd, hb, hln, hi, hlb⟩⟩, rfl⟩
theorem glob_none2 (W : World) : Am.GlobOk W := fun g cs e => by simp [Am.GT] at e

set_option maxRecDepth 100000 in
theorem nlriBack_contract (H : Type) (enc : TypeId × Value → H) (W : World) (base : Nat) (args : Array Value) (ds gs : List (DataW H)) (before : List MemPlace)
    (hval : ∀ (j : Nat) t v, Tryd.f4.params[j]? = some t → args[j]? = some v → Value.okWide Tryd.prog W .any base t v)
    (hW : DataW.Whole enc Tryd.prog Tryd.f4.params.toList Rows.nlriBackSpec.vars false W args.toList ds gs before) :
    Calls Tryd.prog 4 args W fun e W' => ∃ v, e = .returned v ∧ Rows.nlriBackSpec.post enc Tryd.prog Tryd.f4 false true false false W args v W' := by
  have hW' := hW
  obtain ⟨p, q, hA0, hV, rfl, hfz, hnd⟩ := hW
  have hA : DataW.TrodAll enc Tryd.prog W 0 (fun _ => true) true Tryd.f4.params.toList args.toList ds p := hA0
  have hA1 := hA
  rw [Tryd.params4] at hA hval
  obtain ⟨v0, vs0, d0, ds0, p0, q0, hargs, rfl, rfl, h0, r0⟩ := trodAll_cons hA
  obtain ⟨v1, vs1, d1, ds1, p1, q1, rfl, rfl, rfl, h1, r1⟩ := trodAll_cons r0
  obtain ⟨v2, vs2, d2, ds2, p2, q2, rfl, rfl, rfl, h2, r2⟩ := trodAll_cons r1
  obtain ⟨rfl, rfl, rfl⟩ := trodAll_nil r2
  obtain rfl : args = #[v0, v1, v2] := by cases args; simp_all
  obtain ⟨rfl, rfl⟩ := trodVars_none hV
  have hlt : ∀ p ∈ p0 ++ (p1 ++ (p2 ++ [])), p.block < W.heap.size := fun p hp => hW'.lt p (by simpa using hp)
  obtain ⟨x, rfl, rfl, rfl, hx⟩ := open_int Tryd.underlying5 (hval 1 5 v1 rfl rfl) h1
  obtain ⟨b, rfl, rfl, rfl⟩ := open_bool Tryd.underlying4 (hval 2 4 v2 rfl rfl) h2
  have hx' : 0 ≤ x ∧ x < 256 := by simp [Lit.wf, IntKind.min, IntKind.max, IntKind.bits, IntKind.signed] at hx; omega
  obtain ⟨μ, h, sl, ess, r, ro, _, _, vr, hs, hq, _⟩ := Am.slice_arg (Am.Rel.empty W (glob_none2 W)) (fun _ _ e => by cases e) Tryd.underlying37 raw_leaves raw_cells (by decide) (hval 0 37 v0 rfl rfl) h0
  obtain ⟨l, rfl⟩ := Am.map_of_all (f := fun r : {r : Am.Raw // r.Ok} => Am.rawC r.1) (fun e he => raw_of (hq e he))
  have hs' : Am.Sls h.get 20 sl ((l.map (·.1)).map Am.rawC) := by rw [List.map_map]; exact hs
  refine ((Am.back_ct (x := x) (add := b) hx'.1 hx'.2 hs' (fun r hr => by obtain ⟨y, _, rfl⟩ := List.mem_map.1 hr; exact y.2) (by have := hs.bound; simpa using this)).calls r (.cons vr (.cons rfl (.cons rfl .nil)))).mono ?_
  rintro e W' ⟨cv, rfl, hv, hbel⟩
  have hv' : cv = .bool true := hv
  subst hv'
  refine ⟨_, rfl, Am.post_of_below (pa := p0 ++ ([] ++ ([] ++ []))) (pv := []) hW' (fun _ _ _ => trodAll_cons_mk (shut_bool Tryd.underlying4 _) trodAll_mk0) (fun sp hs => ?_) (fun _ _ => rfl) rfl hbel (ok_one (by kernel_rfl) rfl (okWide_bool_mk Tryd.underlying4 _))⟩
  exact Am.trodAll_again nlriBack_kids nlriBack_full hbel (by rw [Tryd.params4]; intro t ht; simp only [List.mem_cons, List.not_mem_nil, or_false] at ht; have h9 := nlriBack_size; rcases ht with rfl | rfl | rfl; exact h9; exact Nat.lt_trans (by decide) h9; exact Nat.lt_trans (by decide) h9) hA1 hlt (fun p hp => hs p (by simpa using hp))

theorem nlriBack_reads (os : Os) {H : Type} (enc : TypeId × Value → H) : ∃ places, DataW.whole enc Tryd.prog ((laidWorld os).forCall (fun _ _ => 0) ⟨#[], #[.slice none 0 0, .int .u8 0, .bool false], []⟩).memory Tryd.f4.params.toList Rows.nlriBackSpec.vars false #[Value.slice none 0 0, .int .u8 0, .bool false].toList 8 = some ([.nil, .lit (.int .u8 0), .lit (.bool false)], [], places) :=
  ⟨[], by kernel_rfl⟩

set_option maxRecDepth 100000 in
theorem nlriBack_lifted (os : Os) (started : os.Started) (H : Type) (enc : TypeId × Value → H) (F : Stop.Interp) :
    ReturnsInHanded {} Tryd.checked os 4 .any ((OpenSpec.ofChange Rows.nlriBackSpec).preRow enc Tryd.prog Tryd.f4 Rows.nlriBackRow.domain false Rows.nlriBackRow.laid) (((OpenSpec.ofChange Rows.nlriBackSpec).at F).post enc Tryd.prog Tryd.f4 false true false false) := by
  obtain ⟨places, hx⟩ := nlriBack_reads os enc
  refine returnsInHanded_of_row (C := Tryd.checked) (s := OpenSpec.ofChange Rows.nlriBackSpec) nlriBack_own started (by kernel_rfl) Tryd.func4
    (witness_row_at (enc := enc) (C := Tryd.checked) false (laidWorld os) #[.slice none 0 0, .int .u8 0, .bool false] rfl (by kernel_rfl) (by kernel_rfl) (by kernel_rfl)
      (OpenSpec.preRow_of_cond 8 hx (by kernel_rfl) (fun k hk => by cases hk) (by kernel_rfl) (nlriBackRow_met os _))) ?_
  intro W base args ds gs before hval hW _ _ _ hL _ _
  exact nlriBack_contract H enc W base args ds gs before hval hW

theorem nlriBack_said : Rows.NlriBackSaid :=
  OpenClaim.holds_of_cond 4 Tryd.f4 rfl rfl rfl rfl rfl rfl rfl ⟨rfl, rfl, rfl, rfl, rfl⟩ rfl rfl rfl rfl rfl (by kernel_rfl) Tryd.func4 (by kernel_rfl)
    (of_decide_eq_true (by kernel_rfl)) (by unfold Func.isWrapper; first | (rw [if_pos (by decide +kernel)]; kernel_rfl) | (rw [if_neg (by decide +kernel)]; exact ⟨rfl, rfl⟩))
    (fun os started H enc _ F => by rw [OpenClaim.pre_eq_preRow]; exact nlriBack_lifted os started H enc F)

theorem nlriBack_plain (f : FuncId) (fn : Func) (hf : Tryd.pinned.checked.prog.funcNamed "herald/heraldlaw07.NlriBack" = some f) (hfn : Tryd.pinned.checked.prog.funcs[f]? = some fn) :
    true = Tryd.pinned.checked.prog.looks [] ∧ ∀ (j : Nat) t, fn.params[j]? = some t → Tryd.pinned.checked.prog.wantsStandIn t = false := by
  obtain rfl : f = 4 := Option.some.inj ((show Tryd.prog.funcNamed "herald/heraldlaw07.NlriBack" = some 4 by kernel_rfl).symm.trans hf) |>.symm
  obtain rfl : fn = Tryd.f4 := (Option.some.inj (Tryd.func4.symm.trans hfn)).symm
  refine ⟨by kernel_rfl, fun j t ht => ?_⟩
  rw [Tryd.params4] at ht
  have hm := Array.mem_of_getElem? ht
  simp at hm
  rcases hm with rfl | rfl | rfl
  · exact (show Tryd.prog.wantsStandIn 37 = false by kernel_rfl)
  · exact (show Tryd.prog.wantsStandIn 5 = false by kernel_rfl)
  · exact (show Tryd.prog.wantsStandIn 4 = false by kernel_rfl)

/-- THE CARD. -/
theorem nlriBack_holds : Rows.NlriBackCardSaid :=
  Claim7.holds_tied_plain_at .later [] _ _ _ _ nlriBack_said (fun _ h => by cases h) (by kernel_rfl) (fun _ h => by cases h) nlriBack_row_tie rfl ⟨rfl, rfl⟩ (by kernel_rfl) rfl nlriBack_plain (by kernel_rfl)
#print axioms nlriBack_holds
end Go.Proofs.YtcokdbloajhapaaDoor
