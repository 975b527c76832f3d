/-
  AM, PART 42. Functions with ranges over functions, whole.
-/
import Derived.Test.YtjejnanjelooiaaDoorWAm41
import Derived.RangeFuncLeaves
namespace Go.Am

/-- Code in which ranges over functions stand outside of loops. -/
inductive R where
  | c (c : C)
  | seq (a b : R)
  | cond (c : A) (a b : R)
  | block (id : Nat) (b : R)
  | rfor (g : A) (ps : Array Tmp) (assign body : Code)

def compileR (P : Program) (N : Nat) : Code → Option R
  | .seq a b => do pure (.seq (← compileR P N a) (← compileR P N b))
  | .cond c a b => do pure (.cond ((argOf c).getD (.c .niliface)) (← compileR P N a) (← compileR P N b))
  | .block id b => do pure (.block id (← compileR P N b))
  | .scope b => compileR P N b
  | .rangeFunc g ps a b => (argOf g).map fun g => .rfor g ps a b
  | .skip => some (.c .skip)
  | .label _ => some (.c .skip)
  | .exit id => some (.c (.exit id))
  | .ret => some (.c .ret)
  | .region id ops draw => (compileC P N (.region id ops draw)).map .c
  | .loop b => (compileC P N (.loop b)).map .c
  | .goto _ => none
  | .refuse _ => none

def thenR (next : List Nat → Tm → H → Prop) (Q : Exit → List Nat → Tm → H → Prop) (e : Exit) (ms : List Nat) (t : Tm) (h : H) : Prop :=
  match e with
  | .normal => next ms t h
  | e => Q e ms t h
def blockR (id : Nat) (Q : Exit → List Nat → Tm → H → Prop) (e : Exit) (ms : List Nat) (t : Tm) (h : H) : Prop :=
  match e with
  | .exit id' => if id' = id then Q .normal ms t h else Q (.exit id') ms t h
  | e => Q e ms t h

/-- The heap in which the iterator is called. -/
def loopH (N : Nat) (t : Tm) (ps : Array Tmp) (a b : Code) (h : H) : H :=
  (h.push (.defo true)).push (.loopo ⟨.ready, none, (List.range N).map t, ps, a, b, h.next⟩)
def jumpA (Q : Exit → List Nat → Tm → H → Prop) (ms : List Nat) (t : Tm) (h : H) : Option Code → Prop
  | none => Q .normal ms t h
  | some .ret => Q .ret ms t h
  | some (.exit id) => Q (.exit id) ms t h
  | _ => False

def Rwp (P : Program) (N : Nat) : R → (Exit → List Nat → Tm → H → Prop) → List Nat → Tm → H → Prop
  | .c c, Q, ms, t, h => Cwp P c (fun e t h => (∀ m ∈ ms, h.get m = some (.defo true)) ∧ Q e ms t h) t h
  | .seq a b, Q, ms, t, h => Rwp P N a (thenR (Rwp P N b Q) Q) ms t h
  | .cond c a b, Q, ms, t, h => condA (c.ev t) (Rwp P N a Q ms t h) (Rwp P N b Q ms t h)
  | .block id b, Q, ms, t, h => Rwp P N b (blockR id Q) ms t h
  | .rfor g ps a b, Q, ms, t, h => ∃ f first cap, g.ev t = .func (.func f) first cap ∧
      Acalls P f (first ++ [.yl (h.next + 1)] ++ cap) (loopH N t ps a b h) fun _ h2 => (∀ m ∈ h.next :: ms, h2.get m = some (.defo true)) ∧
        ∃ r, h2.get (h.next + 1) = some (.loopo r) ∧ r.st ≠ .busy ∧ jumpA Q (h.next :: ms) t (h2.set (h.next + 1) (.loopo { r with st := .exhausted, pending := r.pending })) r.pending

def markOf (μ : Nat → Pl) (m : Nat) : Deferred := { target := .collected (μ m).blk, args := #[] }

/-- The machine's state over the abstract one, marks among the deferred calls. -/
def StR (N : Nat) (W0 : World) (μ0 : Nat → Pl) (h0 : H) (ms : List Nat) (t : Tm) (h : H) (a : Act) (w : World) : Prop :=
  ∃ μ, a.defers = ms.map (markOf μ) ∧ (∀ m ∈ ms, h.get m = some (.defo true)) ∧ ms.Nodup ∧ a.tmps.size = N ∧ (∀ k, VR μ h (t k) (a.tmps.getD k undef)) ∧ Rel W0 μ h w ∧ Ext μ0 h0 μ h
def LiftR (N : Nat) (W0 : World) (μ0 : Nat → Pl) (h0 : H) (Q : Exit → List Nat → Tm → H → Prop) (e : Exit) (a : Act) (w : World) : Prop :=
  ∃ ms t h, Q e ms t h ∧ StR N W0 μ0 h0 ms t h a w

/-- The world in which the iterator is called. -/
abbrev loopW (w : World) (fn : FuncId) (tmps : Array Value) (ps : Array Tmp) (a b : Code) : World :=
  (w.alloc (.deferred (some []))).alloc (.loop { state := .ready, pending := none, fn, tmps, params := ps, assign := a, body := b, defers := w.heap.size })

section
variable {P : Program} {N : Nat} {W0 : World} {μ0 : Nat → Pl} {h0 : H}

theorem marks_ext {μ μ' : Nat → Pl} {h h' : H} {ms : List Nat} (x : Ext μ h μ' h') (hm : ∀ m ∈ ms, h.get m = some (.defo true)) (hm' : ∀ m ∈ ms, h'.get m = some (.defo true)) : ms.map (markOf μ) = ms.map (markOf μ') := by
  refine List.map_congr_left fun m hmm => ?_
  obtain ⟨o', ho', _, _, h3⟩ := x m _ (hm m hmm)
  rw [hm' m hmm] at ho'; cases ho'
  simp only [markOf, h3 rfl]

theorem leaf_ok {code : Code} {c : C} (hc : compileC P N code = some c) {Q : Exit → List Nat → Tm → H → Prop} {ms : List Nat} {t : Tm} {h : H} {a : Act} {w : World}
    (hw : Cwp P c (fun e t h => (∀ m ∈ ms, h.get m = some (.defo true)) ∧ Q e ms t h) t h) (hs : StR N W0 μ0 h0 ms t h a w) (hng : ∀ l ms t h, ¬ Q (.goto l) ms t h) : code.wpIn (RF none) 0 P (LiftR N W0 μ0 h0 Q) a w := by
  obtain ⟨μ, hd, hm, hnd, hN, h3, hr, x⟩ := hs
  refine wpIn_mono (cwp_ok (ro := none) (ds := ms.map (markOf μ)) (μ0 := μ) (h0 := h) code c hc _ t h a w hw ⟨μ, hd, hN, h3, hr, Ext.refl _ _⟩ (fun l t h hq => hng l ms t h hq.2)) ?_
  rintro e a' w' ⟨t', h', ⟨hm', hq⟩, μ', hd', hN', h3', hr', x'⟩
  exact ⟨ms, t', h', hq, μ', by rw [hd', marks_ext x' hm hm'], hm', hnd, hN', h3', hr', x.trans x'⟩

theorem rfor_ok {g : Operand} {ga : A} (hga : argOf g = some ga) {ps : Array Tmp} {ca cb : Code} {Q : Exit → List Nat → Tm → H → Prop} {ms : List Nat} {t : Tm} {h : H} {a : Act} {w : World}
    (hw : Rwp P N (.rfor ga ps ca cb) Q ms t h) (hs : StR N W0 μ0 h0 ms t h a w) : (Code.rangeFunc g ps ca cb).wpIn (RF none) 0 P (LiftR N W0 μ0 h0 Q) a w := by
  obtain ⟨μ, hd, hm, hnd, hN, h3, hr, x⟩ := hs
  obtain ⟨f, first, cap, hge, hent, hcalls⟩ := hw
  have vf := (env_of h3).arg hga
  rw [hge] at vf
  obtain ⟨cf, cc, hgo, vfirst, vcap⟩ := vf
  obtain ⟨fn0, hfn0, hbody0, hname0⟩ := enterable_spec hent
  refine wpIn_rangeFunc fun fn _ => ?_
  -- the two new blocks
  have hfree : h.get h.next = none := hr.next _ (Nat.le_refl _)
  have hr1 := hr.push hfree (o := .defo true) (p := ⟨w.heap.size, 0, 0⟩) rfl (hr.below.alloc hr.below.size (.deferred (some []))) (by simp) (fun b hb => Below.heap_alloc w _ b hb)
    ⟨by simp only [upd_same]; exact hr.below.size, by simp only [upd_same, if_true]; exact heap_alloc_new w _⟩
  have x1 := Ext.push hfree (.defo true) ⟨w.heap.size, 0, 0⟩ (μ := μ)
  rw [H.pushAt_next] at hr1 x1
  have hfree2 : (h.push (.defo true)).get (h.push (.defo true)).next = none := hr1.next _ (Nat.le_refl _)
  have x2 := Ext.push hfree2 (.loopo ⟨.ready, none, (List.range N).map t, ps, ca, cb, h.next⟩) ⟨w.heap.size + 1, 0, 0⟩ (μ := upd μ h.next ⟨w.heap.size, 0, 0⟩)
  have hne : h.next ≠ (h.push (.defo true)).next := by simp
  have hr2 := hr1.push hfree2 (o := .loopo ⟨.ready, none, (List.range N).map t, ps, ca, cb, h.next⟩) (p := ⟨w.heap.size + 1, 0, 0⟩) (by simp)
    (hr1.below.alloc hr1.below.size (.loop { state := .ready, pending := none, fn, tmps := a.tmps, params := ps, assign := ca, body := cb, defers := w.heap.size })) (by simp) (fun b hb => Below.heap_alloc _ _ b hb)
    ⟨by simp only [upd_same]; have := hr.below.size; omega, fn, a.tmps.toList, ⟨w.heap.size, 0, 0⟩, by
      simp only [upd_same]
      have := heap_alloc_new (w.alloc (.deferred (some []))) (.loop { state := .ready, pending := none, fn, tmps := a.tmps, params := ps, assign := ca, body := cb, defers := w.heap.size })
      simpa using this, by
      refine VRs.of_get (by simp [hN]) fun k v c h1 h2 => ?_
      have hk : k < N := by
        have := (List.getElem?_eq_some_iff.1 h1).1
        simpa using this
      rw [List.getElem?_map, List.getElem?_range hk] at h1
      simp only [Option.map_some, Option.some.injEq] at h1
      subst h1
      have := h3 k
      rw [Array.getD_eq_getD_getElem?, ← Array.getElem?_toList, h2] at this
      exact VR.ext x2 _ _ (VR.ext x1 _ _ this), by
      refine ⟨.defo true, ?_, Nat.zero_le _, fun _ => ?_⟩
      · rw [H.get_pushAt, if_neg hne, H.get_push, if_pos rfl]
      · rw [upd_ne _ _ hne, upd_same]⟩
  rw [H.pushAt_next] at hr2 x2
  have x12 := x1.trans x2
  have hl : (h.push (.defo true)).next = h.next + 1 := rfl
  have hyl : VR (upd (upd μ h.next ⟨w.heap.size, 0, 0⟩) (h.push (.defo true)).next ⟨w.heap.size + 1, 0, 0⟩) (loopH N t ps ca cb h) (.yl (h.next + 1)) (Value.func (.yield (w.heap.size + 1)) #[] #[]) :=
    ⟨⟨w.heap.size + 1, 0, 0⟩, rfl, .loopo ⟨.ready, none, (List.range N).map t, ps, ca, cb, h.next⟩, by simp [loopH, H.get_push], Nat.zero_le _, fun _ => by rw [← hl, upd_same]⟩
  have hv : VRs (upd (upd μ h.next ⟨w.heap.size, 0, 0⟩) (h.push (.defo true)).next ⟨w.heap.size + 1, 0, 0⟩) (loopH N t ps ca cb h) (first ++ [.yl (h.next + 1)] ++ cap) (cf ++ [Value.func (.yield (w.heap.size + 1)) #[] #[]] ++ cc) :=
    ((VRs.ext x12 _ _ vfirst).append (.cons hyl VRs.nil)).append (VRs.ext x12 _ _ vcap)
  refine ⟨w.heap.size + 1, [{ target := .collected w.heap.size, args := #[] }], loopW w fn a.tmps ps ca cb, { target := .fn (.func f) cc.toArray, args := cf.toArray ++ #[Value.func (.yield (w.heap.size + 1)) #[] #[]] }, loopW w fn a.tmps ps ca cb, f, (cf ++ [Value.func (.yield (w.heap.size + 1)) #[] #[]] ++ cc).toArray, loopW w fn a.tmps ps ca cb,
    run_enterLoop_outer _ _ _ _ _, ?_, fun _ _ => RF_fn _ _, ?_, RF_depth _ _, ?_⟩
  · have hm1 : Array.map a.eval #[Operand.const (Value.func (.yield (w.heap.size + 1)) #[] #[])] = #[Value.func (.yield (w.heap.size + 1)) #[] #[]] := by simp [Act.eval]
    simp only [resolve, rangeCall, hgo, Deferred.ofValue, Sem.run_pure, hm1]
  · have hargs : (cf.toArray ++ #[Value.func (.yield (w.heap.size + 1)) #[] #[]] ++ cc.toArray) = (cf ++ [Value.func (.yield (w.heap.size + 1)) #[] #[]] ++ cc).toArray := by
      apply Array.ext'; simp
    simp only [invoke, callFunc, Sem.run_bind, run_program, Result.andThen_ok, hfn0, hname0, hbody0, Bool.false_eq_true, if_false, hargs, Sem.run_pure]
  · refine CallsIn.mono (calls_RF (hcalls W0 _ _ _ hr2 hv)) ?_
    rintro e w3 ⟨v, cv, h3', μ3, rfl, ⟨hm3, r, hg3, hst3, hj⟩, hr3, _, x3⟩
    have hmu1 : μ3 (h.next + 1) = ⟨w.heap.size + 1, 0, 0⟩ := by
      obtain ⟨o', ho', _, _, hm⟩ := x3 (h.next + 1) (.loopo ⟨.ready, none, (List.range N).map t, ps, ca, cb, h.next⟩) (by simp [loopH, H.get_push])
      rw [hg3] at ho'; cases ho'
      rw [hm rfl, ← hl, upd_same]
    have hmu0 : μ3 h.next = ⟨w.heap.size, 0, 0⟩ := by
      obtain ⟨o', ho', _, _, hm⟩ := x3 h.next (.defo true) (by simp [loopH, H.get_push])
      rw [hm3 h.next (by simp)] at ho'; cases ho'
      rw [hm rfl, upd_ne _ _ hne, upd_same]
    obtain ⟨l, hl1, hls, hlp, _, _, _, _, hr4, x4⟩ := loop_set hr3 hg3 .exhausted r.pending
    have hend := run_endLoop (P := P) hl1 (by rw [hls]; exact hst3)
    rw [hlp] at hend
    have hb1 : (μ3 (h.next + 1)).blk = w.heap.size + 1 := by rw [hmu1]
    rw [hb1] at hend hr4
    have hxx := (x12.trans x3).trans x4
    have hm4 : ∀ m ∈ h.next :: ms, (h3'.set (h.next + 1) (.loopo { r with st := .exhausted, pending := r.pending })).get m = some (.defo true) := fun m hmm => by
      have := hm3 m hmm
      rw [H.get_set, if_neg (fun e => by rw [e, hg3] at this; cases this)]
      exact this
    have hst : StR N W0 μ0 h0 (h.next :: ms) t (h3'.set (h.next + 1) (.loopo { r with st := .exhausted, pending := r.pending })) { a with defers := [{ target := .collected w.heap.size, args := #[] }] ++ a.defers }
        (w3.putObj (w.heap.size + 1) (.loop { l with state := .exhausted, pending := r.pending })) :=
      ⟨μ3, by
        show [_] ++ a.defers = _
        rw [hd, marks_ext hxx hm (fun m hmm => hm4 m (by simp [hmm])), List.map_cons, markOf, hmu0]
        rfl, hm4, List.nodup_cons.2 ⟨fun hin => (by have := hm _ hin; rw [hfree] at this; cases this), hnd⟩, hN, fun k => VR.ext hxx _ _ (h3 k), hr4, x.trans hxx⟩
    refine ⟨_, _, hend, ?_⟩
    unfold jumpA at hj
    split at hj
    · rename_i hp; rw [hp] at hst ⊢; exact ⟨_, _, _, by rw [hp] at hj; exact hj, hst⟩
    · rename_i hp; rw [hp] at hst ⊢; exact wpIn_ret ⟨_, _, _, by rw [hp] at hj; exact hj, hst⟩
    · rename_i hp; rw [hp] at hst ⊢; exact wpIn_exit ⟨_, _, _, by rw [hp] at hj; exact hj, hst⟩
    · exact hj.elim

theorem rwp_ok : ∀ (code : Code) (r : R), compileR P N code = some r → ∀ (Q : Exit → List Nat → Tm → H → Prop) (ms : List Nat) (t : Tm) (h : H) (a : Act) (w : World), Rwp P N r Q ms t h → StR N W0 μ0 h0 ms t h a w →
    (∀ l ms t h, ¬ Q (.goto l) ms t h) → code.wpIn (RF none) 0 P (LiftR N W0 μ0 h0 Q) a w := by
  intro code
  induction code with
  | skip => intro r e Q ms t h a w hw hs hng; simp only [compileR, Option.some.injEq] at e; subst e; exact leaf_ok (c := .skip) rfl hw hs hng
  | label l => intro r e Q ms t h a w hw hs hng; simp only [compileR, Option.some.injEq] at e; subst e; exact leaf_ok (c := .skip) rfl hw hs hng
  | exit id => intro r e Q ms t h a w hw hs hng; simp only [compileR, Option.some.injEq] at e; subst e; exact leaf_ok (c := .exit id) rfl hw hs hng
  | ret => intro r e Q ms t h a w hw hs hng; simp only [compileR, Option.some.injEq] at e; subst e; exact leaf_ok (c := .ret) rfl hw hs hng
  | region id ops draw => intro r e Q ms t h a w hw hs hng; simp only [compileR] at e; obtain ⟨c, hc, rfl⟩ := map_some' e; exact leaf_ok hc hw hs hng
  | loop b _ => intro r e Q ms t h a w hw hs hng; simp only [compileR] at e; obtain ⟨c, hc, rfl⟩ := map_some' e; exact leaf_ok hc hw hs hng
  | goto l => intro r e; simp [compileR] at e
  | refuse why => intro r e; simp [compileR] at e
  | rangeFunc g ps x y _ _ => intro r e Q ms t h a w hw hs hng; simp only [compileR] at e; obtain ⟨ga, hga, rfl⟩ := map_some' e; exact rfor_ok hga hw hs
  | seq x y ihx ihy =>
    intro r e Q ms t h a w hw hs hng
    simp only [compileR, Option.bind_eq_bind, Option.pure_def] at e
    obtain ⟨cx, hx, e⟩ := bind_some e
    obtain ⟨cy, hy, e⟩ := bind_some e
    cases e
    refine wpIn_seq (wpIn_mono (ihx cx hx (thenR (Rwp P N cy Q) Q) ms t h a w hw hs (fun l ms t h => hng l ms t h)) ?_)
    rintro ex a' w' ⟨ms', t', h', hq, hs'⟩
    cases ex with
    | normal => exact ihy cy hy Q ms' t' h' a' w' hq hs' hng
    | _ => exact ⟨ms', t', h', hq, hs'⟩
  | cond c x y ihx ihy =>
    intro cc e Q ms t h a w hc hs hng
    simp only [compileR, Option.bind_eq_bind, Option.pure_def] at e
    obtain ⟨cx, hx, e⟩ := bind_some e
    obtain ⟨cy, hy, e⟩ := bind_some e
    cases e
    cases hc1 : argOf c with
    | none => rw [hc1] at hc; simp [Rwp, condA, A.ev] at hc
    | some c' =>
    rw [hc1] at hc
    simp only [Rwp, Option.getD_some] at hc
    unfold condA at hc
    split at hc
    · rename_i b hb
      have hs0 := hs
      obtain ⟨μ, h1, h2, hnd, hN, h3, hr, x0⟩ := hs0
      have hv := (env_of h3).arg hc1
      rw [hb] at hv
      simp only [VR] at hv
      exact wpIn_cond_split hv (fun hb => ihx cx hx Q ms t h a w (hc.1 hb) hs hng) (fun hb => ihy cy hy Q ms t h a w (hc.2 hb) hs hng)
    · exact hc.elim
  | block id b ih =>
    intro r e Q ms t h a w hc hs hng
    simp only [compileR, Option.bind_eq_bind, Option.pure_def] at e
    obtain ⟨cb, hb, e⟩ := bind_some e
    cases e
    refine wpIn_block (wpIn_mono (ih cb hb (blockR id Q) ms t h a w hc hs (fun l ms t h => hng l ms t h)) ?_)
    rintro ex a' w' ⟨ms', t', h', hq, hs'⟩
    cases ex with
    | exit id' =>
      simp only [blockR, Exit.inBlock] at hq ⊢
      split
      · rename_i e; rw [if_pos e] at hq; exact ⟨ms', t', h', hq, hs'⟩
      · rename_i e; rw [if_neg e] at hq; exact ⟨ms', t', h', hq, hs'⟩
    | _ => exact ⟨ms', t', h', hq, hs'⟩
  | scope b ih =>
    intro r e Q ms t h a w hc hs hng
    simp only [compileR] at e
    refine wpIn_scope_straight (wpIn_mono (ih r e Q ms t h a w hc hs hng) ?_)
    rintro ex a' w' ⟨ms', t', h', hq, hs'⟩
    cases ex with
    | goto l => exact absurd hq (hng l ms' t' h')
    | _ => exact ⟨ms', t', h', hq, hs'⟩
end
end Go.Am
