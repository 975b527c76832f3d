/-
 AM, PART 11. Code as a whole; a function's contract from its body.
-/
import Derived.Test.YtpgcodeckphanaaGreatDoorIAm46
import Derived.Scope
namespace Go.Am

def zfo (next : Tm -> H -> Prop) (Q : Exit -> Tm -> H -> Prop) (e : Exit) (t : Tm) (h : H) : Prop :=
 match e with
 | .normal => next t h
 | e => Q e t h
def zcF (id : Nat) (Q : Exit -> Tm -> H -> Prop) (e : Exit) (t : Tm) (h : H) : Prop :=
 match e with
 | .exit id' => if id' = id then Q .normal t h else Q (.exit id') t h
 | e => Q e t h

def zeq (c : V) (a b : Prop) : Prop :=
 match c with
 | .bool x => (x = true -> a) ∧ (x = false -> b)
 | _ => False

def zfW (body : (Exit -> Tm -> H -> Prop) -> Tm -> H -> Prop) (Q : Exit -> Tm -> H -> Prop) (t : Tm) (h : H) : Prop :=
 ∃ (R : Tm -> H -> Prop) (m : Tm -> H -> Nat), R t h ∧ ∀ t h, R t h -> body (zfo (fun t' h' => R t' h' ∧ m t' h' < m t h) Q) t h

def Cwp (P : Program) : C -> (Exit -> Tm -> H -> Prop) -> Tm -> H -> Prop
 | .skip, Q, t, h => Q .normal t h
 | .reg ops, Q, t, h => Owp P (Q .normal) ops t h
 | .dreg fr ops, Q, t, h => (fr = [] ∧ Swp P (Q .normal) ops t h) ∨ Dwp P (Q .normal) fr h.next (h.next + ops.length * room) ops t h.get [] ∨
  (∃ L : Plains, L.ok P ∧ (∀ p ∈ fr, ((ops.map (repS L)).getD p.1 default).cls = 0 ∨ ((ops.map (repS L)).getD p.2 default).cls = 0) ∧ Swp P (Q .normal) (ops.map (repS L)) t h) ∨
  (∃ (F : List Nat) (ms : Nat -> Nat), (∀ p ∈ fr, zfb ops ms p = true) ∧ Awp P F (Q .normal) ((List.range ops.length).map (zee ops ms)) t h) ∨
  ∃ J : List Nat -> Tm -> H -> Prop, zjw P fr ops J ∧ (∀ t h, J [] t h -> Q .normal t h) ∧ J (List.range ops.length) t h
 | .seq a b, Q, t, h => Cwp P a (zfo (Cwp P b Q) Q) t h
 | .cond c a b, Q, t, h => zeq (c.ev t) (Cwp P a Q t h) (Cwp P b Q t h)
 | .block id b, Q, t, h => Cwp P b (zcF id Q) t h
 | .loop b, Q, t, h => zfW (Cwp P b) Q t h
 | .exit id, Q, t, h => Q (.exit id) t h
 | .ret, Q, t, h => Q .ret t h

section compile
variable (P : Program) (N : Nat)
def zex (ops : Array Oper) : Bool := ops.all fun o => match za1 ops o with
 | some (some (d, _)) => decide (d < N)
 | _ => true
def ziB : C := .cond (.c .niliface) .skip .skip
theorem zdJ {P : Program} {Q : Exit -> Tm -> H -> Prop} {t : Tm} {h : H} (c : Cwp P ziB Q t h) : False := by
 simp [ziB, Cwp, zeq, A.ev] at c
def zaD : Code -> Option C
 | .skip => some .skip
 | .label _ => some .skip
 | .region _ ops draw => some ((if zex N ops then
   (ops.toList.mapM (zaj P N ops)).bind fun sis =>
    if draw then (if P.follows .mixedOrders && zbp ops sis then some (.dreg (zbG ops sis) sis) else none) else some (.reg sis)
  else none).getD ziB)
 | .seq a b => do pure (.seq (<- zaD a) (<- zaD b))
 | .cond c a b => do pure (.cond ((zag c).getD (.c .niliface)) (<- zaD a) (<- zaD b))
 | .block id b => do pure (.block id (<- zaD b))
 | .loop b => do pure (.loop (<- zaD b))
 | .scope b => zaD b
 | .exit id => some (.exit id)
 | .ret => some .ret
 | _ => some ziB
end compile

section scope
variable {P : Program} {b : Frame} {a : Act} {k : List Item} {cs : List Frame} {w : World} {Q : Exit -> Act -> World -> Prop} {c : Code} {F : Fence} {n : Nat}
theorem zbu : step P (lone (b.atR a (.code (.scope c) :: k)) cs w) = .next (lone (b.atR a (.code c :: .inScope c :: k)) cs w) :=
 step_lone_go (by simp [stepG, stepG.exec, Frame.atR])
theorem zfV : step P (lone (b.atR a (.inScope c :: k)) cs w) = .next (lone (b.atR a k) cs w) :=
 step_lone_go (by simp [stepG, stepG.exec, Frame.atR])
theorem zdw (h : c.wpIn F n P (Exit.noGoto Q) a w) : (Code.scope c).wpIn F n P Q a w := by
 intro b k cs hro hb hr
 obtain ⟨e, a₁, w₁, hq, harr⟩ := h b (.inScope c :: k) cs hro hb hr
 have h0 : (lone (b.atR a (.code (.scope c) :: k)) cs w).fenced P F := fenced_calm hb hr rfl
 cases e with
 | normal => exact ⟨.normal, a₁, w₁, hq, .head h0 zbu (StepsIn.trans harr (.one (fenced_calm hb hr rfl) zfV))⟩
 | exit id =>
  have hx : exitTo id (.inScope c :: k) = exitTo id k := by simp [exitTo]
  exact ⟨.exit id, a₁, w₁, hq, fun k' hk => .head h0 zbu (harr.1 k' (by rw [hx]; exact hk)),
   fun hr' hk => let ⟨k₁, h1, h2⟩ := harr.2 hr' (by rw [hx]; exact hk); ⟨k₁, h1, .head h0 zbu h2⟩⟩
 | goto l => exact hq.elim
 | ret => exact ⟨_, a₁, w₁, hq, .of_steps (.one h0 zbu) harr⟩
 | panic ch => exact ⟨_, a₁, w₁, hq, .of_steps (.one h0 zbu) harr⟩
 | outgrown => exact ⟨_, a₁, w₁, hq, .of_steps (.one h0 zbu) harr⟩
end scope

section sound
variable {P : Program} {N : Nat} {W0 : World} {μ0 : Nat -> Pl} {h0 : H} {ro : Option Nat} {ds : List Deferred}

theorem za6 {ops : Array Oper} (e : zex N ops = true) : ∀ o ∈ ops.toList, ∀ d b, za1 ops o = some (some (d, b)) -> d < N := by
 intro o ho d b hg
 simp only [zex, Array.all_eq_true_iff_forall_mem] at e
 have := e o (by simpa using ho)
 rw [hg] at this
 simpa using this

def Lift (N : Nat) (ds : List Deferred) (W0 : World) (μ0 : Nat -> Pl) (h0 : H) (Q : Exit -> Tm -> H -> Prop) (e : Exit) (a : Act) (w : World) : Prop :=
 ∃ t h, Q e t h ∧ St N ds W0 μ0 h0 t h a w

theorem zpS : ∀ (code : Code) (c : C), zaD P N code = some c -> ∀ (Q : Exit -> Tm -> H -> Prop) (t : Tm) (h : H) (a : Act) (w : World), Cwp P c Q t h -> St N ds W0 μ0 h0 t h a w ->
  (∀ l t h, ¬ Q (.goto l) t h) -> code.wpIn (RF ro) 0 P (Lift N ds W0 μ0 h0 Q) a w := by
 intro code
 induction code with
 | skip => intro c e Q t h a w hc hs _; simp only [zaD, Option.some.injEq] at e; subst e; exact wpIn_skip ⟨t, h, hc, hs⟩
 | label l => intro c e Q t h a w hc hs _; simp only [zaD, Option.some.injEq] at e; subst e; exact wpIn_label ⟨t, h, hc, hs⟩
 | region id ops draw =>
  intro c e Q t h a w hc hs _
  simp only [zaD, Option.some.injEq] at e
  obtain ⟨oc, hoc⟩ : ∃ oc, oc = (if zex N ops then
   (ops.toList.mapM (zaj P N ops)).bind fun sis =>
    if draw then (if P.follows .mixedOrders && zbp ops sis then some (C.dreg (zbG ops sis) sis) else none) else some (.reg sis)
  else none) := ⟨_, rfl⟩
  rw [<- hoc] at e
  cases oc with
  | none => subst e; exact (zdJ hc).elim
  | some c' =>
  replace e : some c' = some c := by rw [<- e]; rfl
  rw [hoc] at e
  split at e
  ·rename_i hg
   obtain ⟨sis, hm, e⟩ := bind_some e
   cases draw with
   | true =>
    simp only [if_true] at e
    split at e
    ·rename_i hd
     simp only [Bool.and_eq_true] at hd
     cases e
     rcases hc with ⟨hf, hc⟩ | hc | ⟨L, hL, hfr, hc⟩ | ⟨F, ms, hp, hc⟩ | ⟨J, hJ, hE, hc⟩
     ·exact zn1 hd.1 (K := Q .normal) (fun t h a w hk hs => ⟨t, h, hk, hs⟩) hm (za6 hg) hd.2 hf hc hs
     ·exact zgp hd.1 (K := Q .normal) (fun t h a w hk hs => ⟨t, h, hk, hs⟩) hm (za6 hg) hd.2 hc hs
     ·exact znX hL hd.1 (K := Q .normal) (fun t h a w hk hs => ⟨t, h, hk, hs⟩) hm (za6 hg) hd.2 (zjJ hfr) hc hs
     ·exact zn8 hd.1 (K := Q .normal) (fun t h a w hk hs => ⟨t, h, hk, hs⟩) hm (za6 hg) hd.2 hp hc hs
     ·exact zom hd.1 (K := Q .normal) (fun t h a w hk hs => ⟨t, h, hk, hs⟩) hm (za6 hg) hd.2 hJ hE hc hs
    ·cases e
   | false =>
    simp only [Bool.false_eq_true, if_false] at e
    cases e
    exact wpIn_region_list (zmu (K := Q .normal) (fun t h a w hk hs => ⟨t, h, hk, hs⟩) _ _ hm (za6 hg) t h a w hc hs)
  ·cases e
 | seq x y ihx ihy =>
  intro c e Q t h a w hc hs hng
  simp only [zaD, Option.bind_eq_bind, Option.pure_def] at e
  obtain ⟨cx, hx, e⟩ := bind_some e
  obtain ⟨cy, hy, e⟩ := bind_some e
  cases e
  refine wpIn_seq (wpIn_mono (ihx cx hx (zfo (Cwp P cy Q) Q) t h a w hc hs (fun l t h => hng l t h)) ?_)
  rintro ex a' w' ⟨t', h', hq, hs'⟩
  cases ex with
  | normal => exact ihy cy hy Q t' h' a' w' hq hs' hng
  | _ => exact ⟨t', h', hq, hs'⟩
 | cond c x y ihx ihy =>
  intro cc e Q t h a w hc hs hng
  simp only [zaD, Option.bind_eq_bind, Option.pure_def] at e
  obtain ⟨cx, hx, e⟩ := bind_some e
  obtain ⟨cy, hy, e⟩ := bind_some e
  cases e
  cases hc1 : zag c with
  | none => rw [hc1] at hc; simp [Cwp, zeq, A.ev] at hc
  | some c' =>
  rw [hc1] at hc
  simp only [Cwp, Option.getD_some] at hc
  unfold zeq at hc
  split at hc
  ·rename_i b hb
   obtain ⟨μ, h1, h2, h3, hr, x0⟩ := hs
   have hv := (zem h3).arg hc1
   rw [hb] at hv
   simp only [VR] at hv
   exact wpIn_cond_split hv (fun hb => ihx cx hx Q t h a w (hc.1 hb) ⟨μ, h1, h2, h3, hr, x0⟩ hng) (fun hb => ihy cy hy Q t h a w (hc.2 hb) ⟨μ, h1, h2, h3, hr, x0⟩ hng)
  ·exact hc.elim
 | block id b ih =>
  intro c e Q t h a w hc hs hng
  simp only [zaD, Option.bind_eq_bind, Option.pure_def] at e
  obtain ⟨cb, hb, e⟩ := bind_some e
  cases e
  refine wpIn_block (wpIn_mono (ih cb hb (zcF id Q) t h a w hc hs (fun l t h => hng l t h)) ?_)
  rintro ex a' w' ⟨t', h', hq, hs'⟩
  cases ex with
  | exit id' =>
   simp only [zcF, Exit.inBlock] at hq ⊢
   split
   ·rename_i e; rw [if_pos e] at hq; exact ⟨t', h', hq, hs'⟩
   ·rename_i e; rw [if_neg e] at hq; exact ⟨t', h', hq, hs'⟩
  | _ => exact ⟨t', h', hq, hs'⟩
 | loop b ih =>
  intro c e Q t h a w hc hs hng
  simp only [zaD, Option.bind_eq_bind, Option.pure_def] at e
  obtain ⟨cb, hb, e⟩ := bind_some e
  cases e
  obtain ⟨R, m, hR, hround⟩ := hc
  -- the least number of what may stand here
  let rel : Act -> World -> Nat -> Prop := fun a w n => ∃ t h, R t h ∧ St N ds W0 μ0 h0 t h a w ∧ m t h = n
  have least : ∀ a w, (∃ n, rel a w n) -> ∃ n, rel a w n ∧ ∀ k, rel a w k -> n ≤ k := by
   intro a w ⟨n, hn⟩
   induction n using Nat.strongRecOn with
   | _ n ihn =>
    by_cases hex : ∃ k, k < n ∧ rel a w k
    ·obtain ⟨k, hk, hrk⟩ := hex
     exact ihn k hk hrk
    ·exact ⟨n, hn, fun k hk => by
      rcases Nat.lt_or_ge k n with h | h
      ·exact absurd ⟨k, h, hk⟩ hex
      ·exact h⟩
  refine wpIn_loop (fun a w => ∃ n, rel a w n) (fun a w => Classical.epsilon fun n => rel a w n ∧ ∀ k, rel a w k -> n ≤ k) ⟨_, t, h, hR, hs, rfl⟩ ?_
  intro a w hI
  have hε := Classical.epsilon_spec (least a w hI)
  obtain ⟨⟨t1, h1, hR1, hs1, hm1⟩, hmin⟩ := hε
  refine wpIn_mono (ih cb hb _ t1 h1 a w (hround t1 h1 hR1) hs1 (fun l t h => hng l t h)) ?_
  rintro ex a' w' ⟨t', h', hq, hs'⟩
  cases ex with
  | normal =>
   obtain ⟨hR', hlt⟩ := hq
   have hI' : ∃ n, rel a' w' n := ⟨_, t', h', hR', hs', rfl⟩
   refine ⟨hI', ?_⟩
   have hε' := Classical.epsilon_spec (least a' w' hI')
   have := hε'.2 (m t' h') ⟨t', h', hR', hs', rfl⟩
   rw [hm1] at hlt
   exact Nat.lt_of_le_of_lt this hlt
  | _ => exact ⟨t', h', hq, hs'⟩
 | scope b ih =>
  intro c e Q t h a w hc hs hng
  simp only [zaD] at e
  refine zdw (wpIn_mono (ih c e Q t h a w hc hs hng) ?_)
  rintro ex a' w' ⟨t', h', hq, hs'⟩
  cases ex with
  | goto l => exact absurd hq (hng l t' h')
  | _ => exact ⟨t', h', hq, hs'⟩
 | exit id => intro c e Q t h a w hc hs _; simp only [zaD, Option.some.injEq] at e; subst e; exact wpIn_exit ⟨t, h, hc, hs⟩
 | ret => intro c e Q t h a w hc hs _; simp only [zaD, Option.some.injEq] at e; subst e; exact wpIn_ret ⟨t, h, hc, hs⟩
 | rangeFunc _ _ _ _ _ _ => intro c e Q t h a w hc; simp only [zaD, Option.some.injEq] at e; subst e; exact (zdJ hc).elim
 | goto l => intro c e Q t h a w hc; simp only [zaD, Option.some.injEq] at e; subst e; exact (zdJ hc).elim
 | refuse why => intro c e Q t h a w hc; simp only [zaD, Option.some.injEq] at e; subst e; exact (zdJ hc).elim
end sound

inductive RV where
 | tmp (t : Nat)
 | cell (t : Nat) (agg : Bool) (n : Nat)
 deriving Inhabited
structure SF where
 N : Nat
 results : List RV
 body : C
 deriving Inhabited

def zdO (P : Program) : ResultVar -> Option RV
 | .tmp t => some (.tmp t)
 | .cell t ty => do pure (.cell t (<- zcD P ty) (<- szOf P ty))
def zac (P : Program) (fn : Func) : Option SF := do
 let b <- fn.body
 let c <- zaD P fn.ntmps b
 let rs <- fn.results.toList.mapM (zdO P)
 pure ⟨fn.ntmps, rs, c⟩

def resV (get : Nat -> Option O) (t : Tm) : RV -> Option V
 | .tmp k => some (t k)
 | .cell k agg n => zdj get agg n (t k)
def zbL (get : Nat -> Option O) (t : Tm) : List RV -> Option (List V)
 | [] => some []
 | r :: rs => match resV get t r with
  | some v => match zbL get t rs with
   | some vs => some (v :: vs)
   | none => none
  | none => none
def tupV : List V -> V
 | [v] => v
 | vs => .tup vs

def zdB (rs : List RV) (Q : V -> H -> Prop) (e : Exit) (t : Tm) (h : H) : Prop :=
 match e with
 | .normal | .ret => match zbL h.get t rs with
  | some vs => Q (tupV vs) h
  | none => False
 | _ => False

def zeh (args : List V) : Tm := fun k => (args[k]?).getD .undef

def zkl (tmps : Array Value) : ResultVar -> Sem Value
 | .tmp t => pure (tmps.getD t undef)
 | .cell a t => do loadVar t (<- asAddr (tmps.getD a undef))
theorem zi8 (fn : Func) (tmps : Array Value) : results fn tmps = (do
  let vs <- fn.results.mapM (zkl tmps)
  pure (if h : vs.size = 1 then vs[0] else .tuple vs)) := rfl
theorem zmU {P : Program} {W0 : World} {μ : Nat -> Pl} {h : H} {w : World} (hr : Rel W0 μ h w) {t : Tm} {tmps : Array Value} (h3 : ∀ k, VR μ h (t k) (tmps.getD k undef)) : ∀ (rs : List ResultVar) (ss : List RV) (vs : List V), rs.mapM (zdO P) = some ss -> zbL h.get t ss = some vs ->
  ∃ cs : List Value, (rs.mapM (zkl tmps)).run P w = .ok cs w ∧ VRs μ h vs cs
 | [], ss, vs, e, e2 => by simp at e; subst e; simp [zbL] at e2; subst e2; exact ⟨[], by simp, VRs.nil⟩
 | r :: rs, ss, vs, e, e2 => by
  simp only [List.mapM_cons, Option.bind_eq_bind, Option.pure_def] at e
  obtain ⟨s, hs, e⟩ := bind_some e
  obtain ⟨ss', hss, e⟩ := bind_some e
  cases e
  simp only [zbL] at e2
  split at e2
  ·rename_i v hv
   split at e2
   ·rename_i vs' hvs
    simp only [Option.some.injEq] at e2; subst e2
    obtain ⟨cs, hcs, hvr⟩ := zmU hr h3 rs ss' vs' hss hvs
    have one : ∃ c, (zkl tmps r).run P w = .ok c w ∧ VR μ h v c := by
     cases r with
     | tmp k =>
      simp only [zdO, Option.some.injEq] at hs; subst hs
      simp only [resV, Option.some.injEq] at hv; subst hv
      exact ⟨_, rfl, h3 k⟩
     | cell k ty =>
      simp only [zdO, Option.bind_eq_bind, Option.pure_def] at hs
      obtain ⟨agg, ha, hs⟩ := bind_some hs
      obtain ⟨n, hn, hs⟩ := bind_some hs
      cases hs
      simp only [resV] at hv
      obtain ⟨cv, h1, h2⟩ := zkC (P := P) hr ha hn (h3 k) hv
      refine ⟨cv, ?_, h2⟩
      cases htk : t k <;> rw [htk] at hv <;> simp only [zdj, reduceCtorEq] at hv
      all_goals (
       have h3k := h3 k
       rw [htk] at h3k)
      rotate_left
      ·simp only [VR] at h3k
       show (do let x <- asAddr (tmps.getD k undef); loadVar ty x : Sem Value).run P w = _
       rw [h3k]
       rw [h3k] at h1
       simp only [Instr.loadAt, Instr.sureAddr, Sem.run_bind, Sem.run_pure, Result.andThen_ok] at h1
       simp only [asAddr, Sem.run_bind, Sem.run_pure, Result.andThen_ok]
       exact h1
      obtain ⟨pl, hpl, _⟩ := h3k
      show (do let x <- asAddr (tmps.getD k undef); loadVar ty x : Sem Value).run P w = _
      rw [hpl]
      rw [hpl] at h1
      simp only [Instr.loadAt, Instr.sureAddr, Sem.run_bind, Sem.run_pure, Result.andThen_ok] at h1
      simp only [asAddr, Sem.run_bind, Sem.run_pure, Result.andThen_ok]
      exact h1
    obtain ⟨c, hc, hvc⟩ := one
    exact ⟨c :: cs, by simp only [List.mapM_cons, Sem.run_bind, hc, hcs, Result.andThen_ok, Sem.run_pure], .cons hvc hvr⟩
   ·cases e2
  ·cases e2

theorem zeZ {P : Program} {f : FuncId} {fn : Func} (hf : P.funcs[f]? = some fn) {sf : SF} (hc : zac P fn = some sf) (hen : zaa P f = true) {args : List V} (hn : args.length ≤ sf.N) {h : H} {Q : V -> H -> Prop}
  (hb : Cwp P sf.body (zdB sf.results Q) (zeh args) h) : Acalls P f args h Q := by
 refine ⟨hen, fun W0 μ w cargs hr hv => ?_⟩
 simp only [zac, Option.bind_eq_bind, Option.pure_def] at hc
 obtain ⟨code, hcode, hc⟩ := bind_some hc
 obtain ⟨c, hcc, hc⟩ := bind_some hc
 obtain ⟨rs, hrs, hc⟩ := bind_some hc
 cases hc
 have hlen := hv.length
 have hn' : args.length ≤ fn.ntmps := hn
 have hst : St fn.ntmps [] W0 μ h (zeh args) h { tmps := cargs.toArray ++ Array.replicate (fn.ntmps - cargs.toArray.size) undef, defers := [] } w := by
  refine ⟨μ, rfl, by simp; omega, fun k => ?_, hr, Ext.refl _ _⟩
  unfold zeh
  simp only [Array.getD_eq_getD_getElem?, Array.getElem?_append, List.size_toArray]
  by_cases hk : k < cargs.length
  ·have ha : args[k]? = some args[k] := List.getElem?_eq_getElem (by omega)
   obtain ⟨cv, hcv, hr2⟩ := hv.get ha
   rw [if_pos hk, ha]
   simp only [Option.getD_some, List.getElem?_toArray, hcv]
   exact hr2
  ·have ha : args[k]? = none := List.getElem?_eq_none (by omega)
   rw [if_neg hk, ha, Array.getElem?_replicate]
   split
   ·exact zdM
   ·exact zdM
 refine calls_of_wp hf hcode (wp_mono (wpIn_wide.1 (zpS (ro := none) (ds := []) (N := fn.ntmps) code c hcc _ _ h _ w hb hst (fun l t h hq => by simp [zdB] at hq))) ?_)
 have fin : ∀ (t : Tm) (h' : H) (a : Act) (w' : World), St fn.ntmps [] W0 μ h t h' a w' -> (match zbL h'.get t rs with | some vs => Q (tupV vs) h' | none => False) ->
   a.defers = [] ∧ ∃ v, (results fn a.tmps).run P w' = .ok v w' ∧ (∃ v' cv h'' μ', Ending.returned v = .returned cv ∧ Q v' h'' ∧ Rel W0 μ' h'' w' ∧ VR μ' h'' v' cv ∧ Ext μ h μ' h'') := by
  intro t h' a w' hs hq
  obtain ⟨μ', h1, h2, h3, hr', x⟩ := hs
  split at hq
  ·rename_i vs hvs
   obtain ⟨cs, hrun, hvr⟩ := zmU (P := P) hr' h3 fn.results.toList rs vs hrs hvs
   refine ⟨h1, if h : cs.length = 1 then cs[0] else .tuple cs.toArray, ?_, tupV vs, _, h', μ', rfl, hq, hr', ?_, x⟩
   ·rw [zi8]
    rw [Sem.run_bind, Array.mapM_eq_mapM_toList]
    simp only [Sem.run_map, hrun, Result.andThen_ok, Sem.run_pure]
    congr 1
   ·have hl := hvr.length
    match vs, cs, hvr with
    | [], cs, hvr => simp only [VRs] at hvr; subst hvr; exact ⟨[], rfl, VRs.nil⟩
    | [v], _, ⟨c, cs', e, hv1, hv2⟩ => simp only [VRs] at hv2; subst hv2; subst e; exact hv1
    | v :: u :: vs, _, ⟨c, cs', e, hv1, ⟨d, cs'', e2, hv2, hv3⟩⟩ => subst e2; subst e; exact ⟨_, by simp, .cons hv1 (.cons hv2 hv3)⟩
  ·exact hq.elim
 rintro e a w' ⟨t, h', hq, hs⟩
 cases e with
 | normal => exact fin t h' a w' hs hq
 | ret => exact fin t h' a w' hs hq
 | _ => exact hq.elim
end Go.Am
