/-
  'heraldlaw03.TrieKnown' answers true: the closed statement, through the contracts of the trie. The row's listed package variables are laid as the program's text lays them (the card ties them); the runs of the texts read some of them.
-/
import Derived.Test.YtjejnanjelooiaaDoorCards
import Derived.Test.YtjejnanjelooiaaDoorTie
import Derived.Test.YtjejnanjelooiaaDoorWLw
import Derived.Test.YtjejnanjelooiaaDoorWGl
import Derived.Test.YtjejnanjelooiaaDoorWMC
import Derived.Test.YtjejnanjelooiaaDoorWAm16
import Derived.ProofKit
import Derived.OpenShut
import Derived.SevenTiedAt
import Derived.KernelRfl
namespace Go.Proofs.YtjejnanjelooiaaDoor
open Go.ChangeShapes Go.WideShapes Go.ChangeAt Go.RowKit

theorem trieKnown_own : ownKnob Tryd.prog.godebug = none := by kernel_rfl

set_option maxRecDepth 100000 in
theorem trieKnown_contract (H : Type) (enc : TypeId × Value → H) (W : World) (args : Array Value) (ds gs : List (DataW H)) (before : List MemPlace)
    (hW : DataW.Whole enc Tryd.prog Tryd.f7.params.toList Rows.trieKnownSpec.vars false W args.toList ds gs before) (hL : laidMetH Tryd.prog Rows.trieKnownRow.laid W) :
    Calls Tryd.prog 7 args W fun e W' => ∃ v, e = .returned v ∧ Rows.trieKnownSpec.post enc Tryd.prog Tryd.f7 false true false false W args v W' := by
  have hW' := hW
  obtain ⟨p, q, hA0, hV, rfl, hfz, hnd⟩ := hW
  have hA : DataW.TrodAll enc Tryd.prog W 0 (fun _ => true) true Tryd.f7.params.toList args.toList ds p := hA0
  rw [Tryd.params7] at hA
  obtain ⟨rfl, rfl, rfl⟩ := trodAll_none hA
  obtain ⟨rfl, rfl⟩ := trodVars_none hV
  simp only [List.append_nil] at hW'
  refine (Am.closed_walk (Am.tknown_ct _ _ rfl) W (glob_ok hL)).mono fun e W' ⟨he, hb⟩ => ?_
  subst he
  exact ⟨_, rfl, Am.post_of_below (pa := []) (pv := []) hW' (fun _ _ _ => (trodAll_cons_mk (shut_bool Tryd.underlying4 _) trodAll_mk0)) (fun sp _ => rfl) (fun _ _ => rfl) rfl hb
    (ok_one (by kernel_rfl) rfl (okWide_bool_mk Tryd.underlying4 _))⟩

theorem trieKnown_reads (os : Os) {H : Type} (enc : TypeId × Value → H) : ∃ places, DataW.whole enc Tryd.prog ((laidWorld os).forCall (fun _ _ => 0) ⟨#[], #[], []⟩).memory Tryd.f7.params.toList Rows.trieKnownSpec.vars false (#[] : Array Value).toList 8 = some ([], [], places) :=
  ⟨[], by kernel_rfl⟩

set_option maxRecDepth 100000 in
theorem trieKnown_lifted (os : Os) (started : os.Started) (H : Type) (enc : TypeId × Value → H) (F : Stop.Interp) :
    ReturnsInHanded {} Tryd.checked os 7 .any ((OpenSpec.ofChange Rows.trieKnownSpec).preRow enc Tryd.prog Tryd.f7 Rows.trieKnownRow.domain false Rows.trieKnownRow.laid) (((OpenSpec.ofChange Rows.trieKnownSpec).at F).post enc Tryd.prog Tryd.f7 false true false false) := by
  obtain ⟨places, hx⟩ := trieKnown_reads os enc
  refine returnsInHanded_of_row (C := Tryd.checked) (s := OpenSpec.ofChange Rows.trieKnownSpec) trieKnown_own started (by kernel_rfl) Tryd.func7
    (witness_row_at (enc := enc) (C := Tryd.checked) false (laidWorld os) #[] rfl (by kernel_rfl) (by kernel_rfl) (by kernel_rfl)
      (OpenSpec.preRow_of_cond 8 hx (by kernel_rfl) (fun k hk => by cases hk) (by kernel_rfl) (trieKnownRow_met os _))) ?_
  intro W base args ds gs before hval hW _ _ _ hL _ _
  exact trieKnown_contract H enc W args ds gs before hW hL

set_option maxHeartbeats 4000000 in
theorem trieKnown_closed : joinedFacts Tryd.pinned.checked.prog 7 Tryd.f7 (OpenSpec.ofChange Rows.trieKnownSpec).bare Rows.trieKnownRow = true := by
  unfold joinedFacts
  simp only [Bool.and_eq_true]
  repeat' (first | refine And.intro ?_ ?_ | decide +kernel)
theorem trieKnown_inst : Tryd.f7.isInstance Tryd.pinned.checked.prog Rows.trieKnownRow.origin Rows.trieKnownRow.targs := by decide +kernel
theorem trieKnown_said : Rows.TrieKnownSaid :=
  OpenClaim.holds_of_cond 7 Tryd.f7 rfl rfl rfl rfl rfl rfl rfl ⟨rfl, rfl, rfl, rfl, rfl⟩ rfl rfl rfl rfl rfl (by kernel_rfl) Tryd.func7 trieKnown_closed
    trieKnown_inst (by unfold Func.isWrapper; first | (rw [if_pos (by decide +kernel)]; kernel_rfl) | (rw [if_neg (by decide +kernel)]; exact ⟨rfl, rfl⟩))
    (fun os started H enc _ F => by rw [OpenClaim.pre_eq_preRow]; exact trieKnown_lifted os started H enc F)

theorem trieKnown_plain (f : FuncId) (fn : Func) (hf : Tryd.pinned.checked.prog.funcNamed "herald/heraldlaw03.TrieKnown" = some f) (hfn : Tryd.pinned.checked.prog.funcs[f]? = some fn) :
    true = Tryd.pinned.checked.prog.looks [] ∧ ∀ (j : Nat) t, fn.params[j]? = some t → Tryd.pinned.checked.prog.wantsStandIn t = false := by
  obtain rfl : f = 7 := Option.some.inj ((show Tryd.prog.funcNamed "herald/heraldlaw03.TrieKnown" = some 7 by kernel_rfl).symm.trans hf) |>.symm
  obtain rfl : fn = Tryd.f7 := (Option.some.inj (Tryd.func7.symm.trans hfn)).symm
  refine ⟨by kernel_rfl, fun j t ht => ?_⟩
  rw [Tryd.params7] at ht
  simp at ht

/-- THE CARD. -/
theorem trieKnown_holds : Rows.TrieKnownCardSaid :=
  Claim7.holds_tied_plain_at .later [] _ _ _ _ trieKnown_said (fun _ h => by cases h) (by kernel_rfl) (fun _ h => by cases h) trieKnown_row_tie rfl ⟨rfl, rfl⟩ (by kernel_rfl) rfl trieKnown_plain (by kernel_rfl)
#print axioms trieKnown_holds
end Go.Proofs.YtjejnanjelooiaaDoor
