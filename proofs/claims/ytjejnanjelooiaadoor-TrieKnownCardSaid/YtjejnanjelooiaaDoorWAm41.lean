/-
  AM, PART 41. A range over a function: a round, from the loop's body.
-/
import Derived.Test.YtjejnanjelooiaaDoorWAm40
import Derived.RangeFuncIn
import Derived.RangeFuncRecord
namespace Go.Am
section
variable {P : Program} {W0 : World} {μ : Nat → Pl} {h : H} {w : World}

/-- yield's arguments, in the loop's parameters. -/
def putPs : List (Tmp × V) → Tm → Tm
  | [], t => t
  | (p, v) :: ps, t => putPs ps (t.put (some p) v)

theorem putPs_ok : ∀ (ps : List Tmp) (args : List V) (cargs : List Value) (t : Tm) (a : Array Value), VRs μ h args cargs → (∀ p ∈ ps, p < a.size) → ps.length = args.length → (∀ k, VR μ h (t k) (a.getD k undef)) →
    (∀ k, VR μ h (putPs (ps.zip args) t k) (((ps.zip cargs).foldl (fun tmps (p : Tmp × Value) => tmps.setIfInBounds p.1 p.2) a).getD k undef)) ∧ ((ps.zip cargs).foldl (fun tmps (p : Tmp × Value) => tmps.setIfInBounds p.1 p.2) a).size = a.size
  | [], args, cargs, t, a, _, _, _, ht => by simpa [putPs] using ht
  | p :: ps, [], _, _, _, _, _, hl, _ => by simp at hl
  | p :: ps, v :: args, cargs, t, a, hv, hp, hl, ht => by
    obtain ⟨c, cs, rfl, h1, h2⟩ := hv
    have ih := putPs_ok ps args cs (t.put (some p) v) (a.setIfInBounds p c) h2 (fun q hq => by simpa using hp q (by simp [hq])) (by simpa using hl) (fun k => by
      rw [getD_setIfInBounds _ _ _ _ (hp p (by simp))]
      simp only [Tm.put]
      split
      · exact h1
      · exact ht k)
    simpa [putPs] using ih

/-- The record, turned. -/
theorem loop_set (hr : Rel W0 μ h w) {i : Nat} {r : LoopV} (hg : h.get i = some (.loopo r)) (st : LoopState) (pd : Option Code) :
    ∃ l : Loop, w.heap[(μ i).blk]? = some (.loop l) ∧ l.state = r.st ∧ l.pending = r.pending ∧ l.params = r.params ∧ l.assign = r.assign ∧ l.body = r.body ∧ VRs μ h r.tmps l.tmps.toList ∧
      Rel W0 μ (h.set i (.loopo { r with st := st, pending := pd })) (w.putObj (μ i).blk (.loop { l with state := st, pending := pd })) ∧ Ext μ h μ (h.set i (.loopo { r with st := st, pending := pd })) := by
  have x : Ext μ h μ (h.set i (.loopo { r with st := st, pending := pd })) := Ext.set hg rfl rfl
  obtain ⟨hbase, fn, ct, p, hb, hv, rf⟩ := hr.obj i _ hg
  have hlt : (μ i).blk < w.heap.size := (Array.getElem?_eq_some_iff.1 hb).1
  refine ⟨_, hb, rfl, rfl, rfl, rfl, rfl, by simpa using hv, ?_, x⟩
  refine hr.set hg rfl rfl rfl ?_ (by simp) (fun b _ hne => World.putObj_heap_other hne) ⟨hbase, fn, ct, p, by rw [World.putObj_heap_same hlt], hv.ext x, rf.ext x⟩
  obtain ⟨⟨a, b, c, d, e⟩, dr⟩ := hr.below
  refine ⟨⟨a, b, c, by simpa using d, fun j hj => ?_⟩, dr⟩
  rw [← e j hj]
  exact World.putObj_heap_other (by omega)

theorem loop_at (hr : Rel W0 μ h w) {i : Nat} {r : LoopV} (hg : h.get i = some (.loopo r)) {pl : Pl} (rf : Ref μ h i 0 pl) : μ i = pl := by
  obtain ⟨o, ho, _, hm⟩ := rf
  rw [hg] at ho; cases ho
  exact hm rfl

/-- How a round ends. -/
def roundA (i : Nat) (Q : V → H → Prop) (e : Exit) (_ : Tm) (h : H) : Prop :=
  match e with
  | .normal => ∃ r, h.get i = some (.loopo r) ∧ Q (.bool true) (h.set i (.loopo { r with st := .ready, pending := none }))
  | .ret => ∃ r, h.get i = some (.loopo r) ∧ Q (.bool false) (h.set i (.loopo { r with st := .done, pending := some .ret }))
  | .exit id => ∃ r, h.get i = some (.loopo r) ∧ Q (.bool false) (h.set i (.loopo { r with st := .done, pending := some (.exit id) }))
  | _ => False

/-- A ROUND'S CONTRACT, from the loop's body. -/
theorem ayields_of {i : Nat} {r : LoopV} {args : List V} {Q : V → H → Prop} {ca cb : C} (hg : h.get i = some (.loopo r))
    (hca : compileC P r.tmps.length r.assign = some ca) (hcb : compileC P r.tmps.length r.body = some cb) (hl : r.params.size = args.length) (hps : ∀ p ∈ r.params.toList, p < r.tmps.length)
    (hc : Cwp P ca (thenA (fun t1 h1 => ∃ r1, h1.get i = some (.loopo r1) ∧ r1.st = .ready ∧ Cwp P cb (roundA i Q) t1 (h1.set i (.loopo { r1 with st := .busy, pending := r1.pending }))) (fun _ _ _ => False))
      (putPs (r.params.toList.zip args) (enterT r.tmps)) h) : Ayields P i args h Q := by
  intro W0 μ w cargs pl hr rf hv
  have hμ := loop_at hr hg rf
  subst hμ
  obtain ⟨l, hl1, _, _, hl5, hl6, hl7, hl8, _⟩ := loop_set hr hg .busy none
  have hlen := hv.length
  have hy := run_yield (P := P) (args := cargs.toArray) hl1 (by rw [hl5]; simp [hl, hlen])
  refine ⟨_, _, _, _, hy, ?_⟩
  have hn := hl8.length
  have hput := putPs_ok (μ := μ) (h := h) r.params.toList args cargs (enterT r.tmps) l.tmps hv (fun p hp => by rw [← Array.length_toList, hn]; exact hps p hp) (by simpa using hl) (fun k => by
    unfold enterT
    rw [Array.getD_eq_getD_getElem?]
    by_cases hk : k < r.tmps.length
    · have ha : r.tmps[k]? = some r.tmps[k] := List.getElem?_eq_getElem hk
      obtain ⟨cv, hcv, hr2⟩ := hl8.get ha
      rw [ha, ← Array.getElem?_toList, hcv]
      exact hr2
    · have ha : r.tmps[k]? = none := List.getElem?_eq_none (by omega)
      have hb : l.tmps[k]? = none := by rw [Array.getElem?_eq_none_iff]; simp only [Array.length_toList] at hn; omega
      rw [ha, hb]
      exact vr_undef)
  have hfold : (l.params.zip cargs.toArray).foldl (fun tmps (t, a) => tmps.setIfInBounds t a) l.tmps = (r.params.toList.zip cargs).foldl (fun tmps (p : Tmp × Value) => tmps.setIfInBounds p.1 p.2) l.tmps := by
    rw [hl5, ← Array.foldl_toList, Array.toList_zip]
  rw [hfold, hl6, hl7]
  have hsz : ((r.params.toList.zip cargs).foldl (fun tmps (p : Tmp × Value) => tmps.setIfInBounds p.1 p.2) l.tmps).size = r.tmps.length := by
    rw [hput.2]; simpa using hn
  have hst : St r.tmps.length [] W0 μ h (putPs (r.params.toList.zip args) (enterT r.tmps)) h { tmps := (r.params.toList.zip cargs).foldl (fun tmps (p : Tmp × Value) => tmps.setIfInBounds p.1 p.2) l.tmps, defers := [] } w :=
    ⟨μ, rfl, hsz, hput.1, hr, Ext.refl _ _⟩
  refine roundIn_of_wpIn trivial (wpIn_mono (cwp_ok (ro := some (μ i).blk) (ds := []) r.assign ca hca _ _ h _ w hc hst (fun l t h hq => by simp [thenA] at hq)) ?_)
  rintro e a1 w1 ⟨t1, h1, hq, hs1⟩
  cases e with
  | normal =>
    obtain ⟨r1, hg1, hst1, hcb1⟩ := hq
    obtain ⟨μ1, hd1, hsz1, h31, hr1, x1⟩ := hs1
    have hm1 : μ1 i = μ i := by
      obtain ⟨o', ho', _, _, hm⟩ := x1 i _ hg
      rw [hg1] at ho'; cases ho'
      exact hm rfl
    obtain ⟨l1, hl1, hs, hpd, _, _, _, _, hr2, x2⟩ := loop_set hr1 hg1 .busy r1.pending
    have hbr := run_beginRound (P := P) hl1 (by rw [hs, hst1])
    have hll : ({ l1 with state := .busy, pending := r1.pending } : Loop) = { l1 with state := .busy } := by rw [← hpd]
    rw [hll] at hr2
    rw [hm1] at hbr hr2
    refine ⟨_, hbr, ?_⟩
    have hst2 : St r.tmps.length [] W0 μ h t1 (h1.set i (.loopo { r1 with st := .busy, pending := r1.pending })) a1 (w1.putObj (μ i).blk (.loop { l1 with state := .busy })) :=
      ⟨μ1, hd1, hsz1, fun k => (h31 k).ext x2, hr2, x1.trans x2⟩
    have fin : ∀ (pd : Option Code) (t3 : Tm) (h3 : H) (a3 : Act) (w3 : World) (r3 : LoopV), h3.get i = some (.loopo r3) → Q (.bool pd.isNone) (h3.set i (.loopo { r3 with st := if pd.isNone then .ready else .done, pending := pd })) →
        St r.tmps.length [] W0 μ h t3 h3 a3 w3 → ∃ v w', (Instr.endRound (μ i).blk pd).run P w3 = .ok v w' ∧ ∃ v' cv h' μ', Ending.returned v = .returned cv ∧ Q v' h' ∧ Rel W0 μ' h' w' ∧ VR μ' h' v' cv ∧ Ext μ h μ' h' := by
      intro pd t3 h3 a3 w3 r3 hg3 hq3 ⟨μ3, _, _, _, hr3, x3⟩
      have hm3 : μ3 i = μ i := by
        obtain ⟨o', ho', _, _, hm⟩ := x3 i _ hg
        rw [hg3] at ho'; cases ho'
        exact hm rfl
      obtain ⟨l3, hl3, _, _, _, _, _, _, hr4, x4⟩ := loop_set hr3 hg3 (if pd.isNone then .ready else .done) pd
      have hen := run_endRound (P := P) pd hl3
      rw [hm3] at hen hr4
      exact ⟨_, _, hen, .bool pd.isNone, _, _, μ3, rfl, hq3, hr4, rfl, x3.trans x4⟩
    refine wpIn_mono (cwp_ok (ro := some (μ i).blk) (ds := []) r.body cb hcb (roundA i Q) t1 _ a1 _ hcb1 hst2 (fun l t h hq => by simp [roundA] at hq)) ?_
    rintro e a3 w3 ⟨t3, h3, hq3, hs3⟩
    cases e with
    | normal => obtain ⟨r3, hg3, hq3⟩ := hq3; exact fin none t3 h3 a3 w3 r3 hg3 hq3 hs3
    | ret => obtain ⟨r3, hg3, hq3⟩ := hq3; exact fin (some .ret) t3 h3 a3 w3 r3 hg3 hq3 hs3
    | exit id => obtain ⟨r3, hg3, hq3⟩ := hq3; exact fin (some (.exit id)) t3 h3 a3 w3 r3 hg3 hq3 hs3
    | goto l => exact hq3.elim
    | panic ch => exact hq3.elim
    | outgrown => exact hq3.elim
  | _ => exact hq.elim
end
end Go.Am
