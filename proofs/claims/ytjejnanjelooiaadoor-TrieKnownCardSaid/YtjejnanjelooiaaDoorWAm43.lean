/-
  AM, PART 43. A function's contract from its body, in which ranges over functions stand.
-/
import Derived.Test.YtjejnanjelooiaaDoorWAm42
namespace Go.Am

structure SFR where
  N : Nat
  results : List RV
  body : R
def compileFR (P : Program) (fn : Func) : Option SFR := do
  let b ← fn.body
  let c ← compileR P fn.ntmps b
  let rs ← fn.results.toList.mapM (compileRV P)
  pure ⟨fn.ntmps, rs, c⟩

/-- The blocks for the rounds' deferred calls are shut. -/
def shut : List Nat → H → H
  | [], h => h
  | m :: ms, h => shut ms (h.set m (.defo false))

def retPostR (rs : List RV) (Q : V → H → Prop) (e : Exit) (ms : List Nat) (t : Tm) (h : H) : Prop :=
  match e with
  | .normal | .ret => match resVs (shut ms h).get t rs with
    | some vs => Q (tupV vs) (shut ms h)
    | none => False
  | _ => False

section
variable {P : Program} {W0 : World} {μ0 : Nat → Pl} {h0 : H}

theorem defo_set {μ : Nat → Pl} {h : H} {w : World} (hr : Rel W0 μ h w) {m : Nat} (hg : h.get m = some (.defo true)) :
    w.heap[(μ m).blk]? = some (.deferred (some [])) ∧ Rel W0 μ (h.set m (.defo false)) (w.putObj (μ m).blk (.deferred none)) ∧ Ext μ h μ (h.set m (.defo false)) := by
  obtain ⟨hbase, hb⟩ := hr.obj m _ hg
  have hlt : (μ m).blk < w.heap.size := (Array.getElem?_eq_some_iff.1 hb).1
  refine ⟨hb, hr.set hg rfl rfl rfl ?_ (by simp) (fun b _ hne => World.putObj_heap_other hne) ⟨hbase, by rw [World.putObj_heap_same hlt]; rfl⟩, Ext.set hg rfl rfl⟩
  obtain ⟨⟨a, b, c, d, e⟩, dr⟩ := hr.below
  refine ⟨⟨a, b, c, by simpa using d, fun j hj => ?_⟩, dr⟩
  rw [← e j hj]
  exact World.putObj_heap_other (by omega)

theorem leaves_ok {fn : Func} {rs : List RV} (hrs : fn.results.toList.mapM (compileRV P) = some rs) {Q : V → H → Prop} {t : Tm} {tmps : Array Value} {μ : Nat → Pl} :
    ∀ (ms : List Nat) (h : H) (w : World), (∀ m ∈ ms, h.get m = some (.defo true)) → ms.Nodup → Rel W0 μ h w → (∀ k, VR μ h (t k) (tmps.getD k undef)) → Ext μ0 h0 μ h →
      (match resVs (shut ms h).get t rs with | some vs => Q (tupV vs) (shut ms h) | none => False) →
      LeavesInM (RF none) 0 P fn tmps (fun e w' => ∃ v cv h' μ', e = .returned cv ∧ Q v h' ∧ Rel W0 μ' h' w' ∧ VR μ' h' v cv ∧ Ext μ0 h0 μ' h') (ms.map (markOf μ)) .returning w
  | [], h, w, _, _, hr, h3, x, hq => by
    show ∃ v, (results fn tmps).run P w = .ok v w ∧ _
    simp only [shut] at hq
    split at hq
    · rename_i vs hvs
      obtain ⟨cs, hrun, hvr⟩ := res_ok (P := P) hr h3 fn.results.toList rs vs hrs hvs
      refine ⟨if h : cs.length = 1 then cs[0] else .tuple cs.toArray, ?_, tupV vs, _, h, μ, rfl, hq, hr, ?_, x⟩
      · rw [results_eq]
        rw [Sem.run_bind, Array.mapM_eq_mapM_toList]
        simp only [Sem.run_map, hrun, Result.andThen_ok, Sem.run_pure]
        congr 1
      · have hl := hvr.length
        match vs, cs, hvr with
        | [], cs, hvr => simp only [VRs] at hvr; subst hvr; exact ⟨[], rfl, VRs.nil⟩
        | [v], _, ⟨c, cs', e, hv1, hv2⟩ => simp only [VRs] at hv2; subst hv2; subst e; exact hv1
        | v :: u :: vs, _, ⟨c, cs', e, hv1, ⟨d, cs'', e2, hv2, hv3⟩⟩ => subst e2; subst e; exact ⟨_, by simp, .cons hv1 (.cons hv2 hv3)⟩
    · exact hq.elim
  | m :: ms, h, w, hm, hnd, hr, h3, x, hq => by
    obtain ⟨hk, hr2, x2⟩ := defo_set hr (hm m (by simp))
    obtain ⟨hnot, hnd2⟩ := List.nodup_cons.1 hnd
    refine ⟨by simp, .inl ⟨(μ m).blk, _, rfl, run_takeDeferred hk, ?_⟩⟩
    exact leaves_ok hrs ms _ _ (fun k hk => by
      have hne : k ≠ m := fun e => hnot (by rw [← e]; exact hk)
      rw [H.get_set, if_neg hne]
      exact hm k (by simp [hk])) hnd2 hr2 (fun k => (h3 k).ext x2) (x.trans x2) hq

/-- A CONTRACT, FROM THE BODY. -/
theorem acalls_range_of {f : FuncId} {fn : Func} (hf : P.funcs[f]? = some fn) {sf : SFR} (hc : compileFR P fn = some sf) (hen : enterable P f = true) {args : List V} (hn : args.length ≤ sf.N) {h : H} {Q : V → H → Prop}
    (hb : Rwp P sf.N sf.body (retPostR sf.results Q) [] (enterT args) h) : Acalls P f args h Q := by
  refine ⟨hen, fun W0 μ w cargs hr hv => ?_⟩
  simp only [compileFR, Option.bind_eq_bind, Option.pure_def] at hc
  obtain ⟨code, hcode, hc⟩ := bind_some hc
  obtain ⟨c, hcc, hc⟩ := bind_some hc
  obtain ⟨rs, hrs, hc⟩ := bind_some hc
  cases hc
  have hlen := hv.length
  have hn' : args.length ≤ fn.ntmps := hn
  have hst : StR fn.ntmps W0 μ h [] (enterT args) h { tmps := cargs.toArray ++ Array.replicate (fn.ntmps - cargs.toArray.size) undef, defers := [] } w := by
    refine ⟨μ, rfl, by simp, List.nodup_nil, by simp; omega, fun k => ?_, hr, Ext.refl _ _⟩
    unfold enterT
    simp only [Array.getD_eq_getD_getElem?, Array.getElem?_append, List.size_toArray]
    by_cases hk : k < cargs.length
    · have ha : args[k]? = some args[k] := List.getElem?_eq_getElem (by omega)
      obtain ⟨cv, hcv, hr2⟩ := hv.get ha
      rw [if_pos hk, ha]
      simp only [Option.getD_some, List.getElem?_toArray, hcv]
      exact hr2
    · have ha : args[k]? = none := List.getElem?_eq_none (by omega)
      rw [if_neg hk, ha, Array.getElem?_replicate]
      split
      · exact vr_undef
      · exact vr_undef
  refine (callsIn_wide (n := 0)).1 (callsIn_of_wp_marks (F := RF none) (n := 0) hf hcode trivial (wpIn_mono (rwp_ok code c hcc (retPostR rs Q) [] _ h _ w hb hst (fun l ms t h hq => by simp [retPostR] at hq)) ?_))
  rintro e a w' ⟨ms, t, h', hq, μ', hd, hm, hnd, hN, h3, hr', x⟩
  cases e with
  | normal => show LeavesInM _ _ _ _ _ _ a.defers _ _; rw [hd]; exact leaves_ok hrs ms h' w' hm hnd hr' h3 x hq
  | ret => show LeavesInM _ _ _ _ _ _ a.defers _ _; rw [hd]; exact leaves_ok hrs ms h' w' hm hnd hr' h3 x hq
  | _ => exact hq.elim
end
end Go.Am
