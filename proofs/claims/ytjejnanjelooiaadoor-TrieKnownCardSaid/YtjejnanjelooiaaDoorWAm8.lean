/-
  AM, PART 8. Code; contracts; regions in their own order.
-/
import Derived.Test.YtjejnanjelooiaaDoorWAm7
import Derived.OrdersIn
import Derived.TacticsIn
namespace Go.Am

/-- What one operation of a region is. -/
inductive X where
  | op (i : I)
  | call (f : A) (args : List A)
  deriving Inhabited

/-- One operation of a region: where its value goes, under which guard it runs. -/
structure SI where
  dst : Option Nat
  guard : Option (Nat × Bool)
  ins : X
  deriving Inhabited

inductive C where
  | skip
  | reg (ops : List SI)
  | dreg (fr : List (Nat × Nat)) (ops : List SI)
  | seq (a b : C)
  | cond (c : A) (a b : C)
  | block (id : Nat) (b : C)
  | loop (b : C)
  | exit (id : Nat)
  | ret
  deriving Inhabited

abbrev Tm := Nat → V
def Tm.put (t : Tm) (d : Option Nat) (v : V) : Tm :=
  match d with
  | some d => fun k => if k = d then v else t k
  | none => t

def guardV (g : Option (Nat × Bool)) (t : Tm) : Option Bool :=
  match g with
  | none => some true
  | some (d, want) => match t d with
    | .bool b => some (b == want)
    | .tup [] => some false
    | _ => none

section compile
variable (P : Program) (N : Nat)
def guardOf (ops : Array Oper) (o : Oper) : Option (Option (Nat × Bool)) :=
  match o.guard with
  | none => some none
  | some (j, want) => ((ops[j]?).bind (·.dst)).map fun d => some (d, want)
def compileX (o : Oper) : Option X :=
  match compileOp P o with
  | some i => some (.op i)
  | none => (compileCall o).map fun p => .call p.1 p.2
def compileSI (ops : Array Oper) (o : Oper) : Option SI := do
  let g ← guardOf ops o
  let i ← compileX P o
  if o.dst.all (· < N) then pure ⟨o.dst, g, i⟩ else none
end compile

/-- The fence of every function: in a round of a loop, or in none. -/
def RF (ro : Option Nat) : Fence := { Fence.wide with round := ro }
theorem calls_RF {ro : Option Nat} {n : Nat} {P : Program} {f : FuncId} {args : Array Value} {w : World} {R : Ending → World → Prop} (h : Calls P f args w R) : CallsIn (RF ro) n P f args w R := callsIn_wide.2 h
theorem RF_fn (ro : Option Nat) (f : FuncId) : (RF ro).fn f := trivial
theorem RF_depth (ro : Option Nat) (n : Nat) : (RF ro).depth.isSome = true → 1 ≤ n := by simp [RF, Fence.wide]
theorem compileOp_noDefer {P : Program} {o : Oper} {i : I} (h : compileOp P o = some i) : ∀ c, o.op ≠ .defer c := by
  intro c e
  simp [compileOp, e] at h

/-- A function that a call can enter. -/
def enterable (P : Program) (f : FuncId) : Bool :=
  match P.funcs[f]? with
  | some fn => fn.body.isSome && !(fn.name == "runtime.NumGoroutine")
  | none => false

/-- A CONTRACT: in every world that holds 'h', the call returns, with a value and a heap as Q says. -/
def Acalls (P : Program) (f : FuncId) (args : List V) (h : H) (Q : V → H → Prop) : Prop :=
  enterable P f = true ∧ ∀ (W0 : World) (μ : Nat → Pl) (w : World) (cargs : List Value), Rel W0 μ h w → VRs μ h args cargs →
    Calls P f cargs.toArray w fun e w' => ∃ v cv h' μ', e = .returned cv ∧ Q v h' ∧ Rel W0 μ' h' w' ∧ VR μ' h' v cv ∧ Ext μ h μ' h'

theorem Acalls.mono {P : Program} {f : FuncId} {args : List V} {h : H} {Q Q' : V → H → Prop} (c : Acalls P f args h Q) (hq : ∀ v h', Q v h' → Q' v h') : Acalls P f args h Q' :=
  ⟨c.1, fun W0 μ w cargs hr hv => (c.2 W0 μ w cargs hr hv).mono fun _ _ ⟨v, cv, h', μ', e, q, rest⟩ => ⟨v, cv, h', μ', e, hq _ _ q, rest⟩⟩

/-- A CONTRACT OF A ROUND: the loop's function that is called, wherever the loop's record lies. -/
def Ayields (P : Program) (i : Nat) (args : List V) (h : H) (Q : V → H → Prop) : Prop :=
  ∀ (W0 : World) (μ : Nat → Pl) (w : World) (cargs : List Value) (pl : Pl), Rel W0 μ h w → Ref μ h i 0 pl → VRs μ h args cargs →
    ∃ fn tmps assign body, (Instr.yield pl.blk cargs.toArray).run P w = .ok (.round pl.blk fn tmps assign body) w ∧
      RoundIn Fence.wide 0 P pl.blk fn tmps assign body w fun e w' => ∃ v cv h' μ', e = .returned cv ∧ Q v h' ∧ Rel W0 μ' h' w' ∧ VR μ' h' v cv ∧ Ext μ h μ' h'

theorem Ayields.mono {P : Program} {i : Nat} {args : List V} {h : H} {Q Q' : V → H → Prop} (c : Ayields P i args h Q) (hq : ∀ v h', Q v h' → Q' v h') : Ayields P i args h Q' :=
  fun W0 μ w cargs pl hr rf hv => by
    obtain ⟨fn, tmps, assign, body, hy, hR⟩ := c W0 μ w cargs pl hr rf hv
    exact ⟨fn, tmps, assign, body, hy, hR.mono fun _ _ ⟨v, cv, h', μ', e, q, rest⟩ => ⟨v, cv, h', μ', e, hq _ _ q, rest⟩⟩

/-- What a call comes to. -/
def callV (P : Program) (f : V) (args : List V) (h : H) (Q : V → H → Prop) : Prop :=
  match f with
  | .func (.func g) first cap => Acalls P g (first ++ args ++ cap) h Q
  | .yl i => Ayields P i args h Q
  | _ => False

/-- The operations of a region, one behind the other. -/
def Owp (P : Program) (K : Tm → H → Prop) : List SI → Tm → H → Prop
  | [], t, h => K t h
  | i :: is, t, h =>
    match guardV i.guard t with
    | none => False
    | some false => Owp P K is (t.put i.dst .undef) h
    | some true =>
      match i.ins with
      | .call f args => callV P (f.ev t) (args.map (·.ev t)) h fun v h' => Owp P K is (t.put i.dst v) h'
      | .op ins => match exec ins t h.get h.next with
        | some (v, d) => Owp P K is (t.put i.dst v) (h.app d)
        | none => False

/-- The machine's slots and world hold the abstract ones; the heap is a later one than (μ0, h0). -/
def St (N : Nat) (ds : List Deferred) (W0 : World) (μ0 : Nat → Pl) (h0 : H) (t : Tm) (h : H) (a : Act) (w : World) : Prop :=
  ∃ μ, a.defers = ds ∧ a.tmps.size = N ∧ (∀ k, VR μ h (t k) (a.tmps.getD k undef)) ∧ Rel W0 μ h w ∧ Ext μ0 h0 μ h

variable {P : Program} {N : Nat} {W0 : World} {μ0 : Nat → Pl} {h0 : H} {ro : Option Nat} {ds : List Deferred}

theorem getD_setIfInBounds (xs : Array Value) (d k : Nat) (v : Value) (hd : d < xs.size) : (xs.setIfInBounds d v).getD k undef = if k = d then v else xs.getD k undef := by
  simp only [Array.getD_eq_getD_getElem?, Array.getElem?_setIfInBounds]
  by_cases h : d = k
  · subst h; simp [hd]
  · simp [h, Ne.symm h]

theorem vr_undef {μ : Nat → Pl} {h : H} : VR μ h .undef undef := ⟨[], rfl, VRs.nil⟩

theorem St.put {t : Tm} {h h' : H} {a : Act} {w' : World} {μ μ' : Nat → Pl} {d : Option Nat} (hd : d.all (· < N) = true) {v : V} {cv : Value} (h1 : a.defers = ds) (h2 : a.tmps.size = N) (h3 : ∀ k, VR μ h (t k) (a.tmps.getD k undef))
    (hr : Rel W0 μ' h' w') (hv : VR μ' h' v cv) (x : Ext μ h μ' h') (x0 : Ext μ0 h0 μ h) : St N ds W0 μ0 h0 (t.put d v) h' (a.put d cv) w' := by
  refine ⟨μ', ?_, ?_, ?_, hr, x0.trans x⟩
  · cases d <;> exact h1
  · cases d <;> simp [Act.put, h2]
  · intro k
    cases d with
    | none => exact (h3 k).ext x
    | some d =>
      simp only [Option.all_some, decide_eq_true_eq] at hd
      simp only [Act.put, Tm.put]
      rw [getD_setIfInBounds _ _ _ _ (by omega)]
      split
      · exact hv
      · exact (h3 k).ext x

theorem env_of {t : Tm} {h : H} {a : Act} {μ : Nat → Pl} (h3 : ∀ k, VR μ h (t k) (a.tmps.getD k undef)) : Env μ h t a.eval := ⟨h3, fun _ => rfl, fun _ => rfl, fun _ => rfl⟩

theorem guard_ok {ops : Array Oper} {o : Oper} {g : Option (Nat × Bool)} (hg : guardOf ops o = some g) {t : Tm} {h : H} {a : Act} {μ : Nat → Pl} (h3 : ∀ k, VR μ h (t k) (a.tmps.getD k undef)) (hN : ∀ d b, g = some (d, b) → d < a.tmps.size) {b : Bool} (e : guardV g t = some b) :
    Region.wanted o (yielded ops a.tmps) = b := by
  unfold guardOf at hg
  cases hog : o.guard with
  | none =>
    simp only [hog, Option.some.injEq] at hg
    subst hg
    simp only [guardV, Option.some.injEq] at e
    simp [Region.wanted, hog, e]
  | some jw =>
    obtain ⟨j, want⟩ := jw
    simp only [hog] at hg
    obtain ⟨d, hd, rfl⟩ := map_some' hg
    have hlt := hN d want rfl
    simp only [guardV] at e
    have h3d := h3 d
    have hget : a.tmps[d]? = some (a.tmps.getD d undef) := by
      simp [Array.getD_eq_getD_getElem?, hlt]
    simp only [Region.wanted, hog, yielded, hd, Option.bind_some, hget]
    split at e
    · rename_i b' hb
      simp only [Option.some.injEq] at e; subst e
      rw [hb] at h3d
      simp only [VR] at h3d
      rw [h3d]
      cases b' <;> cases want <;> rfl
    · rename_i hb
      simp only [Option.some.injEq] at e; subst e
      rw [hb] at h3d
      obtain ⟨cc, hcc, hv⟩ := h3d
      rw [hcc]
      cases want <;> rfl
    · cases e

theorem enterable_spec {f : FuncId} (e : enterable P f = true) : ∃ fn, P.funcs[f]? = some fn ∧ fn.body.isNone = false ∧ (fn.name == "runtime.NumGoroutine") = false := by
  unfold enterable at e
  split at e
  · rename_i fn hfn
    simp only [Bool.and_eq_true, Bool.not_eq_true'] at e
    exact ⟨fn, hfn, by cases hb : fn.body <;> simp_all, e.2⟩
  · cases e

/-- A call, carried out. -/
theorem call_ok {t : Tm} {h : H} {a : Act} {w : World} {μ : Nat → Pl} (h3 : ∀ k, VR μ h (t k) (a.tmps.getD k undef)) (hr : Rel W0 μ h w) {o : Oper} {f : A} {args : List A} (hc : compileCall o = some (f, args))
    {Q : V → H → Prop} (c : callV P (f.ev t) (args.map (·.ev t)) h Q) {next : Act → World → Prop} {Q' : Exit → Act → World → Prop}
    (hn : ∀ v cv h' μ' w', Q v h' → Rel W0 μ' h' w' → VR μ' h' v cv → Ext μ h μ' h' → next (a.put o.dst cv) w') : o.wpIn (RF ro) 0 P a w next Q' := by
  obtain ⟨dst, op, type, pos, after, guard⟩ := o
  unfold compileCall at hc
  cases op <;> simp only [reduceCtorEq] at hc
  case call cc =>
    obtain ⟨callee, cargs, argTypes⟩ := cc
    cases callee with
    | value fo =>
      simp only [Option.bind_eq_bind, Option.pure_def] at hc
      obtain ⟨f', hf, hc⟩ := bind_some hc
      obtain ⟨as, ha, hc⟩ := bind_some hc
      cases hc
      have E := env_of h3
      have vf := E.arg hf
      have va := E.args ha
      unfold callV at c
      split at c
      · rename_i g first cap hfe
        rw [hfe] at vf
        obtain ⟨cf, ccap, hfo, vfirst, vcap⟩ := vf
        obtain ⟨hent, hcalls⟩ := c
        obtain ⟨fn, hfn, hbody, hname⟩ := enterable_spec hent
        have hcall := hcalls W0 μ w (cf ++ cargs.toList.map a.eval ++ ccap) hr ((vfirst.append va).append vcap)
        have hrun : (execOp a.eval { dst := dst, op := .call { callee := .value fo, args := cargs, argTypes := argTypes }, type := type, pos := pos, after := after, guard := guard }).run P w = .ok (.enter g (cf ++ cargs.toList.map a.eval ++ ccap).toArray) w := by
          have hargs : (cf.toArray ++ cargs.map a.eval ++ ccap.toArray) = (cf ++ cargs.toList.map a.eval ++ ccap).toArray := by
            apply Array.ext'; simp
          simp only [execOp, resolve, hfo, Deferred.ofValue, Sem.run_bind, Sem.run_pure, Result.andThen_ok, invoke, callFunc, run_program, hfn, hname, hbody, Bool.false_eq_true, if_false, hargs]
        unfold Oper.wpIn
        refine ⟨fun _ _ => RF_fn _ _, ?_⟩
        rw [Oper.semAt_eq _ _ _ (by simp), hrun, Oper.uponIn_enter]
        refine ⟨RF_depth _ _, CallsIn.mono (calls_RF hcall) fun e w' ⟨v, cv, h', μ', he, hq, hr', hv', x⟩ => ?_⟩
        subst he
        exact hn v cv h' μ' w' hq hr' hv' x
      · rename_i i hfe
        rw [hfe] at vf
        obtain ⟨pl, hfo, rf⟩ := vf
        obtain ⟨fn, tmps, assign, body, hy, hR⟩ := c W0 μ w _ pl hr rf va
        have hargs : (cargs.toList.map a.eval).toArray = cargs.map a.eval := by
          apply Array.ext'; simp
        rw [hargs] at hy
        have hrun : (execOp a.eval { dst := dst, op := .call { callee := .value fo, args := cargs, argTypes := argTypes }, type := type, pos := pos, after := after, guard := guard }).run P w = .ok (.round pl.blk fn tmps assign body) w := by
          simp only [execOp, resolve, hfo, Deferred.ofValue, Sem.run_bind, Sem.run_pure, Result.andThen_ok, invoke, hy, Array.append_empty, Array.empty_append]
        unfold Oper.wpIn
        refine ⟨fun _ _ => RF_fn _ _, ?_⟩
        rw [Oper.semAt_eq _ _ _ (by simp), hrun, Oper.uponIn_round]
        refine ⟨RF_depth _ _, RoundIn.mono (F := RF ro) (n := 0 - 1) hR fun e w' ⟨v, cv, h', μ', he, hq, hr', hv', x⟩ => ?_⟩
        subst he
        exact hn v cv h' μ' w' hq hr' hv' x
      · exact c.elim
    | invoke r m => cases hc
    | builtin b => cases hc

/-- A region that keeps its own order. -/
theorem owp_ok {K : Tm → H → Prop} {ops : Array Oper} {Q : Exit → Act → World → Prop} (hK : ∀ t h a w, K t h → St N ds W0 μ0 h0 t h a w → Q .normal a w) :
    ∀ (l : List Oper) (sis : List SI), l.mapM (compileSI P N ops) = some sis → (∀ o ∈ l, ∀ d b, guardOf ops o = some (some (d, b)) → d < N) → ∀ (t : Tm) (h : H) (a : Act) (w : World), Owp P K sis t h → St N ds W0 μ0 h0 t h a w → wpListIn (RF ro) 0 P ops Q l a w
  | [], sis, e, _, t, h, a, w, ho, hs => by
    simp at e; subst e
    exact hK t h a w ho hs
  | o :: l, sis, e, hg, t, h, a, w, ho, hs => by
    simp only [List.mapM_cons, Option.bind_eq_bind, Option.pure_def] at e
    obtain ⟨si, hsi, e⟩ := bind_some e
    obtain ⟨sis', hsis, e⟩ := bind_some e
    cases e
    have ih := owp_ok hK l sis' hsis (fun o' ho' => hg o' (by simp [ho']))
    simp only [compileSI, Option.bind_eq_bind, Option.pure_def] at hsi
    obtain ⟨g, hgo, hsi⟩ := bind_some hsi
    obtain ⟨ins, hins, hsi⟩ := bind_some hsi
    split at hsi
    · rename_i hdst
      cases hsi
      obtain ⟨μ, h1, h2, h3, hr, x0⟩ := hs
      simp only [Owp] at ho
      split at ho
      · exact ho.elim
      · rename_i hgv
        have hw := guard_ok hgo h3 (fun d b e => by rw [h2]; exact hg o (by simp) d b (by rw [hgo, e])) hgv
        simp only [wpListIn, hw, Bool.false_eq_true, if_false]
        exact ⟨fun _ _ => RF_fn _ _, ih _ _ _ _ ho (St.put hdst h1 h2 h3 hr vr_undef (Ext.refl _ _) x0)⟩
      · rename_i hgv
        have hw := guard_ok hgo h3 (fun d b e => by rw [h2]; exact hg o (by simp) d b (by rw [hgo, e])) hgv
        simp only [wpListIn, hw, if_true]
        unfold compileX at hins
        split at hins
        rotate_left
        · obtain ⟨⟨f, args⟩, hcc, rfl⟩ := map_some' hins
          exact call_ok h3 hr hcc ho fun v cv h' μ' w' hq hr' hv' x => ih _ _ _ _ hq (St.put hdst h1 h2 h3 hr' hv' x x0)
        · rename_i ii hci
          cases hins
          simp only at ho
          split at ho
          · rename_i v d hex
            obtain ⟨nx, cv, w', μ', hrun, hnx, hr', hv', x, _⟩ := exec_ok (P := P) hr (hr.next _ (Nat.le_refl _)) (env_of h3) hci hex
            rw [H.appAt_next] at hr' hv' x
            have hst : St N ds W0 μ0 h0 (t.put o.dst v) (h.app d) (a.put o.dst cv) w' := St.put hdst h1 h2 h3 hr' hv' x x0
            unfold Oper.wpIn
            refine ⟨fun _ _ => RF_fn _ _, ?_⟩
            rw [Oper.semAt_eq _ _ _ (compileOp_noDefer hci), hrun]
            rcases hnx with rfl | ⟨rfl, rfl⟩
            · rw [Oper.uponIn_value]; exact ih _ _ _ _ ho hst
            · rw [Oper.uponIn_skip]; exact ih _ _ _ _ ho hst
          · exact ho.elim
    · cases hsi
end Go.Am
