/-
 AM, PART 8. Code; contracts; regions in their own order.
-/
import Derived.Test.YtpgcodeckphanaaGreatDoorIAm7
import Derived.Maps.RangeRun
import Derived.OrdersIn
import Derived.TacticsIn
namespace Go.Am

inductive X where
 | op (i : I)
 | call (f : A) (args : List A)
 deriving Inhabited

structure SI where
 dst : Option Nat
 guard : Option (Nat × Bool)
 ins : X
 deriving Inhabited

inductive C where
 | skip
 | reg (ops : List SI)
 | dreg (fr : List (Nat × Nat)) (ops : List SI)
 | seq (a b : C)
 | cond (c : A) (a b : C)
 | block (id : Nat) (b : C)
 | loop (b : C)
 | exit (id : Nat)
 | ret
 deriving Inhabited

abbrev Tm := Nat -> V
def Tm.put (t : Tm) (d : Option Nat) (v : V) : Tm :=
 match d with
 | some d => fun k => if k = d then v else t k
 | none => t

def zao (g : Option (Nat × Bool)) (t : Tm) : Option Bool :=
 match g with
 | none => some true
 | some (d, want) => match t d with
  | .bool b => some (b == want)
  | .tup [] => some false
  | _ => none

section compile
variable (P : Program) (N : Nat)
def za1 (ops : Array Oper) (o : Oper) : Option (Option (Nat × Bool)) :=
 match o.guard with
 | none => some none
 | some (j, want) => ((ops[j]?).bind (·.dst)).map fun d => some (d, want)
def zeG (o : Oper) : Option X :=
 match zcp P o with
 | some i => some (.op i)
 | none => (zdr P o).map fun p => .call p.1 p.2
def zaj (ops : Array Oper) (o : Oper) : Option SI := do
 let g <- za1 ops o
 let i <- zeG P o
 if o.dst.all (· < N) then pure ⟨o.dst, g, i⟩ else none
end compile

def RF (ro : Option Nat) : Fence := { Fence.wide with round := ro }
theorem zlf {ro : Option Nat} {n : Nat} {P : Program} {f : FuncId} {args : Array Value} {w : World} {R : Ending -> World -> Prop} (h : Calls P f args w R) : CallsIn (RF ro) n P f args w R := callsIn_wide.2 h
theorem zeW (ro : Option Nat) (f : FuncId) : (RF ro).fn f := trivial
theorem ziw (ro : Option Nat) (n : Nat) : (RF ro).depth.isSome = true -> 1 ≤ n := by simp [RF, Fence.wide]
theorem zbv {P : Program} {o : Oper} {i : I} (h : zcp P o = some i) : ∀ c, o.op ≠ .defer c := by
 intro c e
 simp [zcp, e] at h

def zaa (P : Program) (f : FuncId) : Bool :=
 match P.funcs[f]? with
 | some fn => fn.body.isSome && !(fn.name == "runtime.NumGoroutine")
 | none => false

def Acalls (P : Program) (f : FuncId) (args : List V) (h : H) (Q : V -> H -> Prop) : Prop :=
 zaa P f = true ∧ ∀ (W0 : World) (μ : Nat -> Pl) (w : World) (cargs : List Value), Rel W0 μ h w -> VRs μ h args cargs ->
  Calls P f cargs.toArray w fun e w' => ∃ v cv h' μ', e = .returned cv ∧ Q v h' ∧ Rel W0 μ' h' w' ∧ VR μ' h' v cv ∧ Ext μ h μ' h'

theorem Acalls.mono {P : Program} {f : FuncId} {args : List V} {h : H} {Q Q' : V -> H -> Prop} (c : Acalls P f args h Q) (hq : ∀ v h', Q v h' -> Q' v h') : Acalls P f args h Q' :=
 ⟨c.1, fun W0 μ w cargs hr hv => (c.2 W0 μ w cargs hr hv).mono fun _ _ ⟨v, cv, h', μ', e, q, rest⟩ => ⟨v, cv, h', μ', e, hq _ _ q, rest⟩⟩

def Ayields (P : Program) (i : Nat) (args : List V) (h : H) (Q : V -> H -> Prop) : Prop :=
 ∀ (W0 : World) (μ : Nat -> Pl) (w : World) (cargs : List Value) (pl : Pl), Rel W0 μ h w -> Ref μ h i 0 pl -> VRs μ h args cargs ->
  ∃ fn tmps assign body, (Instr.yield pl.blk cargs.toArray).run P w = .ok (.round pl.blk fn tmps assign body) w ∧
   RoundIn Fence.wide 0 P pl.blk fn tmps assign body w fun e w' => ∃ v cv h' μ', e = .returned cv ∧ Q v h' ∧ Rel W0 μ' h' w' ∧ VR μ' h' v cv ∧ Ext μ h μ' h'

theorem Ayields.mono {P : Program} {i : Nat} {args : List V} {h : H} {Q Q' : V -> H -> Prop} (c : Ayields P i args h Q) (hq : ∀ v h', Q v h' -> Q' v h') : Ayields P i args h Q' :=
 fun W0 μ w cargs pl hr rf hv => by
  obtain ⟨fn, tmps, assign, body, hy, hR⟩ := c W0 μ w cargs pl hr rf hv
  exact ⟨fn, tmps, assign, body, hy, hR.mono fun _ _ ⟨v, cv, h', μ', e, q, rest⟩ => ⟨v, cv, h', μ', e, hq _ _ q, rest⟩⟩

def zmx (args : List V) (h : H) (Q : V -> H -> Prop) : Prop :=
 ∃ m es bs tk, args = [.map m] ∧ h.get m = some (.mapo es bs tk) ∧ Q (.ptr h.next 0 0) (h.push (.miter m tk [] tk))
def zp5 (args : List V) (h : H) (Q : V -> H -> Prop) : Prop :=
 ∃ k m tk seen st es bs, args = [.ptr k 0 0] ∧ h.get k = some (.miter m tk seen st) ∧ h.get m = some (.mapo es bs tk) ∧
  (∀ (i : Nat) (e : V × V) (b : Nat), es[i]? = some e -> bs[i]? = some b -> b ∉ seen -> Q (.tup [.bool true, e.1, e.2]) (h.set k (.miter m tk (seen ++ [b]) tk))) ∧ ((∀ b ∈ bs, b ∈ seen) -> Q (.tup [.bool false]) h)
def zmK (args : List V) (h : H) (Q : V -> H -> Prop) : Prop :=
 ∃ (k m since st : Nat) (seen : List Nat) (b : Nat) (es : List (V × V)) (bs : List Nat) (i : Nat) (e : V × V), args = [.ptr k 0 0] ∧ h.get k = some (.miter m since (seen ++ [b]) st) ∧ h.get m = some (.mapo es bs st) ∧ es[i]? = some e ∧ bs[i]? = some b ∧ Q (.tup [e.1, e.2]) h
def zdA (P : Program) (f : V) (args : List V) (h : H) (Q : V -> H -> Prop) : Prop :=
 match f with
 | .func (.func g) first cap => Acalls P g (first ++ args ++ cap) h Q
 | .yl i => Ayields P i args h Q
 | .sl _ _ _ 1 (some 0) => zmx args h Q
 | .sl _ _ _ 2 (some 0) => zp5 args h Q
 | .sl _ _ _ 3 (some 0) => zmK args h Q
 | _ => False

def Owp (P : Program) (K : Tm -> H -> Prop) : List SI -> Tm -> H -> Prop
 | [], t, h => K t h
 | i :: is, t, h =>
  match zao i.guard t with
  | none => False
  | some false => Owp P K is (t.put i.dst .undef) h
  | some true =>
   match i.ins with
   | .call f args => zdA P (f.ev t) (args.map (·.ev t)) h fun v h' => Owp P K is (t.put i.dst v) h'
   | .op ins => match exec ins t h.get h.next with
    | some (v, d) => Owp P K is (t.put i.dst v) (h.app d)
    | none => False

def St (N : Nat) (ds : List Deferred) (W0 : World) (μ0 : Nat -> Pl) (h0 : H) (t : Tm) (h : H) (a : Act) (w : World) : Prop :=
 ∃ μ, a.defers = ds ∧ a.tmps.size = N ∧ (∀ k, VR μ h (t k) (a.tmps.getD k undef)) ∧ Rel W0 μ h w ∧ Ext μ0 h0 μ h

variable {P : Program} {N : Nat} {W0 : World} {μ0 : Nat -> Pl} {h0 : H} {ro : Option Nat} {ds : List Deferred}

theorem zdI (xs : Array Value) (d k : Nat) (v : Value) (hd : d < xs.size) : (xs.setIfInBounds d v).getD k undef = if k = d then v else xs.getD k undef := by
 simp only [Array.getD_eq_getD_getElem?, Array.getElem?_setIfInBounds]
 by_cases h : d = k
 ·subst h; simp [hd]
 ·simp [h, Ne.symm h]

theorem zdM {μ : Nat -> Pl} {h : H} : VR μ h .undef undef := ⟨[], rfl, VRs.nil⟩

theorem St.put {t : Tm} {h h' : H} {a : Act} {w' : World} {μ μ' : Nat -> Pl} {d : Option Nat} (hd : d.all (· < N) = true) {v : V} {cv : Value} (h1 : a.defers = ds) (h2 : a.tmps.size = N) (h3 : ∀ k, VR μ h (t k) (a.tmps.getD k undef))
  (hr : Rel W0 μ' h' w') (hv : VR μ' h' v cv) (x : Ext μ h μ' h') (x0 : Ext μ0 h0 μ h) : St N ds W0 μ0 h0 (t.put d v) h' (a.put d cv) w' := by
 refine ⟨μ', ?_, ?_, ?_, hr, x0.trans x⟩
 ·cases d <;> exact h1
 ·cases d <;> simp [Act.put, h2]
 ·intro k
  cases d with
  | none => exact (h3 k).ext x
  | some d =>
   simp only [Option.all_some, decide_eq_true_eq] at hd
   simp only [Act.put, Tm.put]
   rw [zdI _ _ _ _ (by omega)]
   split
   ·exact hv
   ·exact (h3 k).ext x

theorem zem {t : Tm} {h : H} {a : Act} {μ : Nat -> Pl} (h3 : ∀ k, VR μ h (t k) (a.tmps.getD k undef)) : Env μ h t a.eval := ⟨h3, fun _ => rfl, fun _ => rfl, fun _ => rfl⟩

theorem zdd {ops : Array Oper} {o : Oper} {g : Option (Nat × Bool)} (hg : za1 ops o = some g) {t : Tm} {h : H} {a : Act} {μ : Nat -> Pl} (h3 : ∀ k, VR μ h (t k) (a.tmps.getD k undef)) (hN : ∀ d b, g = some (d, b) -> d < a.tmps.size) {b : Bool} (e : zao g t = some b) :
  Region.wanted o (yielded ops a.tmps) = b := by
 unfold za1 at hg
 cases hog : o.guard with
 | none =>
  simp only [hog, Option.some.injEq] at hg
  subst hg
  simp only [zao, Option.some.injEq] at e
  simp [Region.wanted, hog, e]
 | some jw =>
  obtain ⟨j, want⟩ := jw
  simp only [hog] at hg
  obtain ⟨d, hd, rfl⟩ := zae hg
  have hlt := hN d want rfl
  simp only [zao] at e
  have h3d := h3 d
  have hget : a.tmps[d]? = some (a.tmps.getD d undef) := by
   simp [Array.getD_eq_getD_getElem?, hlt]
  simp only [Region.wanted, hog, yielded, hd, Option.bind_some, hget]
  split at e
  ·rename_i b' hb
   simp only [Option.some.injEq] at e; subst e
   rw [hb] at h3d
   simp only [VR] at h3d
   rw [h3d]
   cases b' <;> cases want <;> rfl
  ·rename_i hb
   simp only [Option.some.injEq] at e; subst e
   rw [hb] at h3d
   obtain ⟨cc, hcc, hv⟩ := h3d
   rw [hcc]
   cases want <;> rfl
  ·cases e

theorem zdq {f : FuncId} (e : zaa P f = true) : ∃ fn, P.funcs[f]? = some fn ∧ fn.body.isNone = false ∧ (fn.name == "runtime.NumGoroutine") = false := by
 unfold zaa at e
 split at e
 ·rename_i fn hfn
  simp only [Bool.and_eq_true, Bool.not_eq_true'] at e
  exact ⟨fn, hfn, by cases hb : fn.body <;> simp_all, e.2⟩
 ·cases e

theorem zhK {t : Tm} {h : H} {a : Act} {w : World} {μ : Nat -> Pl} (h3 : ∀ k, VR μ h (t k) (a.tmps.getD k undef)) (hr : Rel W0 μ h w) {o : Oper} {f : A} {args : List A} (hc : zdr P o = some (f, args))
  {Q : V -> H -> Prop} (c : zdA P (f.ev t) (args.map (·.ev t)) h Q) {next : Act -> World -> Prop} {Q' : Exit -> Act -> World -> Prop}
  (hn : ∀ v cv h' μ' w', Q v h' -> Rel W0 μ' h' w' -> VR μ' h' v cv -> Ext μ h μ' h' -> next (a.put o.dst cv) w') : o.wpIn (RF ro) 0 P a w next Q' := by
 obtain ⟨dst, op, type, pos, after, guard⟩ := o
 unfold zdr at hc
 cases op <;> simp only [reduceCtorEq] at hc
 case range xt x =>
  split at hc
  ·rename_i kt et hu
   obtain ⟨ax, ha, hc⟩ := zae hc
   cases hc
   have E := zem h3
   have va := E.arg ha
   obtain ⟨m, es, bs, tk, e1, hg, q⟩ := c
   simp only [List.map_cons, List.map_nil, List.cons.injEq, and_true] at e1
   rw [e1] at va
   obtain ⟨pl, hx, rf⟩ := va
   obtain ⟨rfl, ces, hb, _⟩ := zcP hr hg rf
   have hrun : (execOp a.eval { dst := dst, op := .range xt x, type := type, pos := pos, after := after, guard := guard }).run P w = .ok (.value (.pointer (some ⟨w.heap.size, 0, none⟩))) (w.alloc (.mapIter (some (μ m).blk) tk #[] tk)) := by
    simp only [execOp, hx, Sem.run_bind, run_range_map w xt kt et _ ces tk hu hb, Result.andThen_ok, Sem.run_pure]
   have hk : h.get h.next = none := hr.next _ (Nat.le_refl _)
   have hmlt : m ≠ h.next := fun e => by rw [e, hk] at hg; cases hg
   have hr' : Rel W0 (upd μ h.next ⟨w.heap.size, 0, 0⟩) (h.pushAt h.next (.miter m tk [] tk)) (w.alloc (.mapIter (some (μ m).blk) tk #[] tk)) := by
    refine hr.push hk rfl (hr.below.alloc hr.below.size _) (by simp) (fun b hb => Below.heap_alloc w _ b hb) ⟨?_, by simp, μ m, ?_, Nat.le_refl _, ?_⟩
    ·simp only [zaK]; exact hr.below.size
    ·simp only [zaK]; exact heap_alloc_new w _
    ·exact rf.ext (Ext.push hk _ _)
   unfold Oper.wpIn
   refine ⟨fun _ _ => zeW _ _, ?_⟩
   rw [Oper.semAt_eq _ _ _ (by simp), hrun, Oper.uponIn_value]
   have hpush : h.pushAt h.next (.miter m tk [] tk) = h.push (.miter m tk [] tk) := H.pushAt_next _ _
   exact hn _ _ _ _ _ q (by rw [<- hpush]; exact hr') ⟨⟨w.heap.size, 0, 0⟩, rfl, zcx rfl⟩ (Ext.push hk _ _)
  ·cases hc
 case next it isStr =>
  cases isStr with
  | true => cases hc
  | false =>
   obtain ⟨ax, ha, hc⟩ := zae hc
   cases hc
   have E := zem h3
   have va := E.arg ha
   obtain ⟨k, m, tk, seen, st, es, bs, e1, hk, hg, q1, q2⟩ := c
   simp only [List.map_cons, List.map_nil, List.cons.injEq, and_true] at e1
   rw [e1] at va
   obtain ⟨pl, hx, rf⟩ := va
   obtain rfl := rf.at hk rfl
   obtain ⟨hlo, hbase, p, hh, hst, rfm⟩ := hr.obj k _ hk
   obtain ⟨rfl, ces, hb, hks, hvs, hp, hc', hbs⟩ := zcP hr hg rfm
   rw [hbase] at hx
   have law := run_next_at (P := P) w type (μ k).blk (μ m).blk tk st seen.toArray ces tk hh hb hc' hst
   unfold Oper.wpIn
   refine ⟨fun _ _ => zeW _ _, ?_⟩
   rw [Oper.semAt_eq _ _ _ (by simp)]
   rcases law with ⟨hz, hrun⟩ | ⟨e, he, w1, hw1, hrun⟩
   ·have hrun' : (execOp a.eval { dst := dst, op := .next it false, type := type, pos := pos, after := after, guard := guard }).run P w = .ok (.value (.tuple #[.bool false])) w := by
     simp only [execOp, hx, Nat.add_zero, Sem.run_bind, hrun, Result.andThen_ok, Sem.run_pure]
    rw [hrun', Oper.uponIn_value]
    have hall : ∀ b ∈ bs, b ∈ seen := fun b hb' => by
     rw [<- hbs] at hb'
     obtain ⟨x, hx', rfl⟩ := List.mem_map.1 hb'
     have h0 : leftOf ces seen.toArray = #[] := Array.eq_empty_of_size_eq_zero hz
     by_cases hin : x.born ∈ seen
     ·exact hin
     ·exfalso
      have : x ∈ leftOf ces seen.toArray := by
       unfold leftOf
       simp only [Array.mem_filter]
       exact ⟨by simpa using hx', by simpa using hin⟩
      rw [h0] at this; simp at this
    exact hn _ _ _ _ _ (q2 hall) hr ⟨[.bool false], rfl, .cons rfl VRs.nil⟩ (Ext.refl _ _)
   ·have hrun' : (execOp a.eval { dst := dst, op := .next it false, type := type, pos := pos, after := after, guard := guard }).run P w = .ok (.value (.tuple #[.bool true, e.key, e.val])) (Go.ChangeMaps.setBlock w1 (μ k).blk (.mapIter (some (μ m).blk) tk (seen.toArray.push e.born) tk)) := by
     simp only [execOp, hx, Nat.add_zero, Sem.run_bind, hrun, Result.andThen_ok, Sem.run_pure]
    rw [hrun', Oper.uponIn_value]
    have he' : e ∈ ces.toList ∧ e.born ∉ seen := by
     unfold leftOf at he
     have h9 : e ∈ ces.filter fun e => !seen.toArray.contains e.born := by simpa using he
     simp only [Array.mem_filter] at h9
     exact ⟨by simpa using h9.1, by simpa using h9.2⟩
    obtain ⟨i, hi, hie⟩ := List.mem_iff_getElem.1 he'.1
    have hl1 := hks.length
    simp at hl1
    have hie' : i < es.length := by simp at hi; omega
    have hkv : VR μ h es[i].1 e.key := by
     obtain ⟨c, hc1, hc2⟩ := hks.get (k := i) (v := es[i].1) (by rw [List.getElem?_map, List.getElem?_eq_getElem hie']; rfl)
     rw [List.getElem?_map, List.getElem?_eq_getElem hi, hie] at hc1
     cases hc1; exact hc2
    have hvv : VR μ h es[i].2 e.val := by
     obtain ⟨c, hc1, hc2⟩ := hvs.get (k := i) (v := es[i].2) (by rw [List.getElem?_map, List.getElem?_eq_getElem hie']; rfl)
     rw [List.getElem?_map, List.getElem?_eq_getElem hi, hie] at hc1
     cases hc1; exact hc2
    have hbi : bs[i]? = some e.born := by rw [<- hbs, List.getElem?_map, List.getElem?_eq_getElem hi, hie]; rfl
    have hr1 : Rel W0 μ h w1 := by rcases hw1 with rfl | rfl; exact hr; exact hr.drew
    have hh1 : w1.heap[(μ k).blk]? = some (.mapIter (some (μ m).blk) tk seen.toArray st) := by rcases hw1 with rfl | rfl <;> exact hh
    have x : Ext μ h μ (h.set k (.miter m tk (seen ++ [e.born]) tk)) := Ext.set hk rfl rfl
    obtain ⟨W, hW⟩ : ∃ W, W = Go.ChangeMaps.setBlock w1 (μ k).blk (.mapIter (some (μ m).blk) tk (seen.toArray.push e.born) tk) := ⟨_, rfl⟩
    have hrs : Rel W0 μ (h.set k (.miter m tk (seen ++ [e.born]) tk)) W := by
     have hlt : (μ k).blk < w1.heap.size := (Array.getElem?_eq_some_iff.1 hh1).1
     have hbel : Below W0.heap.size W0 W := by
      rw [hW]
      obtain ⟨⟨a1, a2, a3, a4, a5⟩, dr⟩ := hr1.below
      refine ⟨⟨a1, a2, a3, by simpa [Go.ChangeMaps.setBlock] using a4, fun j hj => ?_⟩, dr⟩
      rw [<- a5 j hj]
      have : (μ k).blk ≠ j := by omega
      simp [Go.ChangeMaps.setBlock, this]
     refine hr1.set hk rfl rfl rfl hbel (by rw [hW]; simp [Go.ChangeMaps.setBlock]) (fun b _ hne => by rw [hW]; simp [Go.ChangeMaps.setBlock, Ne.symm hne]) ⟨hlo, hbase, μ m, ?_, Nat.le_refl _, rfm.ext x⟩
     rw [hW]
     simp [Go.ChangeMaps.setBlock, hlt]
    rw [<- hW]
    exact hn _ _ _ _ _ (q1 i es[i] e.born (List.getElem?_eq_getElem hie') hbi he'.2) hrs ⟨[.bool true, e.key, e.val], rfl, .cons rfl (.cons (hkv.ext x) (.cons (hvv.ext x) VRs.nil))⟩ x
 case entry it =>
  obtain ⟨ax, ha, hc⟩ := zae hc
  cases hc
  have E := zem h3
  have va := E.arg ha
  obtain ⟨k, m, since, st, seen, b, es, bs, i, e, e1, hk, hg, he, hb', q⟩ := c
  simp only [List.map_cons, List.map_nil, List.cons.injEq, and_true] at e1
  rw [e1] at va
  obtain ⟨pl, hx, rf⟩ := va
  obtain rfl := rf.at hk rfl
  obtain ⟨hlo, hbase, p, hh, hst, rfm⟩ := hr.obj k _ hk
  obtain ⟨rfl, ces, hb, hks, hvs, hp, hc', hbs⟩ := zcP hr hg rfm
  rw [hbase] at hx
  obtain ⟨ck, hck1, hck2⟩ := hks.get (k := i) (v := e.1) (by rw [List.getElem?_map, he]; rfl)
  obtain ⟨cv, hcv1, hcv2⟩ := hvs.get (k := i) (v := e.2) (by rw [List.getElem?_map, he]; rfl)
  rw [List.getElem?_map] at hck1
  obtain ⟨ce, hce, rfl⟩ := Option.map_eq_some_iff.1 hck1
  rw [List.getElem?_map, hce] at hcv1
  cases hcv1
  have hborn : ce.born = b := by
   rw [<- hbs, List.getElem?_map, hce] at hb'
   simpa using hb'
  have hh' : w.heap[(μ k).blk]? = some (.mapIter (some (μ m).blk) since (seen.toArray.push ce.born) st) := by rw [hh, hborn]; simp
  have hrun := run_entry_at (P := P) w (μ k).blk (μ m).blk since seen.toArray ces st ce hh' hb (List.mem_of_getElem? hce) (hp.imp fun h => Nat.ne_of_lt h)
  have hrun' : (execOp a.eval { dst := dst, op := .entry it, type := type, pos := pos, after := after, guard := guard }).run P w = .ok (.value (.tuple #[ce.key, ce.val])) w := by
   simp only [execOp, hx, Nat.add_zero, Sem.run_bind, hrun, Result.andThen_ok, Sem.run_pure]
  unfold Oper.wpIn
  refine ⟨fun _ _ => zeW _ _, ?_⟩
  rw [Oper.semAt_eq _ _ _ (by simp), hrun', Oper.uponIn_value]
  exact hn _ _ _ _ _ q hr ⟨[ce.key, ce.val], rfl, .cons hck2 (.cons hcv2 VRs.nil)⟩ (Ext.refl _ _)
 case call cc =>
  obtain ⟨callee, cargs, argTypes⟩ := cc
  cases callee with
  | value fo =>
   simp only [Option.bind_eq_bind, Option.pure_def] at hc
   obtain ⟨f', hf, hc⟩ := bind_some hc
   obtain ⟨as, ha, hc⟩ := bind_some hc
   cases hc
   have E := zem h3
   have vf := E.arg hf
   have va := E.args ha
   unfold zdA at c
   split at c
   ·rename_i g first cap hfe
    rw [hfe] at vf
    obtain ⟨cf, ccap, hfo, vfirst, vcap⟩ := vf
    obtain ⟨hent, hcalls⟩ := c
    obtain ⟨fn, hfn, hbody, hname⟩ := zdq hent
    have hcall := hcalls W0 μ w (cf ++ cargs.toList.map a.eval ++ ccap) hr ((vfirst.append va).append vcap)
    have hrun : (execOp a.eval { dst := dst, op := .call { callee := .value fo, args := cargs, argTypes := argTypes }, type := type, pos := pos, after := after, guard := guard }).run P w = .ok (.enter g (cf ++ cargs.toList.map a.eval ++ ccap).toArray) w := by
     have hargs : (cf.toArray ++ cargs.map a.eval ++ ccap.toArray) = (cf ++ cargs.toList.map a.eval ++ ccap).toArray := by
      apply Array.ext'; simp
     simp only [execOp, resolve, hfo, Deferred.ofValue, Sem.run_bind, Sem.run_pure, Result.andThen_ok, invoke, callFunc, run_program, hfn, hname, hbody, Bool.false_eq_true, if_false, hargs]
    unfold Oper.wpIn
    refine ⟨fun _ _ => zeW _ _, ?_⟩
    rw [Oper.semAt_eq _ _ _ (by simp), hrun, Oper.uponIn_enter]
    refine ⟨ziw _ _, CallsIn.mono (zlf hcall) fun e w' ⟨v, cv, h', μ', he, hq, hr', hv', x⟩ => ?_⟩
    subst he
    exact hn v cv h' μ' w' hq hr' hv' x
   ·rename_i i hfe
    rw [hfe] at vf
    obtain ⟨pl, hfo, rf⟩ := vf
    obtain ⟨fn, tmps, assign, body, hy, hR⟩ := c W0 μ w _ pl hr rf va
    have hargs : (cargs.toList.map a.eval).toArray = cargs.map a.eval := by
     apply Array.ext'; simp
    rw [hargs] at hy
    have hrun : (execOp a.eval { dst := dst, op := .call { callee := .value fo, args := cargs, argTypes := argTypes }, type := type, pos := pos, after := after, guard := guard }).run P w = .ok (.round pl.blk fn tmps assign body) w := by
     simp only [execOp, resolve, hfo, Deferred.ofValue, Sem.run_bind, Sem.run_pure, Result.andThen_ok, invoke, hy, Array.append_empty, Array.empty_append]
    unfold Oper.wpIn
    refine ⟨fun _ _ => zeW _ _, ?_⟩
    rw [Oper.semAt_eq _ _ _ (by simp), hrun, Oper.uponIn_round]
    refine ⟨ziw _ _, RoundIn.mono (F := RF ro) (n := 0 - 1) hR fun e w' ⟨v, cv, h', μ', he, hq, hr', hv', x⟩ => ?_⟩
    subst he
    exact hn v cv h' μ' w' hq hr' hv' x
   ·rename_i hfe
    rw [hfe] at vf
    obtain ⟨_, cc, _, l1, _, l2, _⟩ := vf
    have := l2 0 rfl
    omega
   ·rename_i hfe
    rw [hfe] at vf
    obtain ⟨_, cc, _, l1, _, l2, _⟩ := vf
    have := l2 0 rfl
    omega
   ·rename_i hfe
    rw [hfe] at vf
    obtain ⟨_, cc, _, l1, _, l2, _⟩ := vf
    have := l2 0 rfl
    omega
   ·exact c.elim
  | invoke r m => cases hc
  | builtin b => cases hc


theorem zmu {K : Tm -> H -> Prop} {ops : Array Oper} {Q : Exit -> Act -> World -> Prop} (hK : ∀ t h a w, K t h -> St N ds W0 μ0 h0 t h a w -> Q .normal a w) :
  ∀ (l : List Oper) (sis : List SI), l.mapM (zaj P N ops) = some sis -> (∀ o ∈ l, ∀ d b, za1 ops o = some (some (d, b)) -> d < N) -> ∀ (t : Tm) (h : H) (a : Act) (w : World), Owp P K sis t h -> St N ds W0 μ0 h0 t h a w -> wpListIn (RF ro) 0 P ops Q l a w
 | [], sis, e, _, t, h, a, w, ho, hs => by
  simp at e; subst e
  exact hK t h a w ho hs
 | o :: l, sis, e, hg, t, h, a, w, ho, hs => by
  simp only [List.mapM_cons, Option.bind_eq_bind, Option.pure_def] at e
  obtain ⟨si, hsi, e⟩ := bind_some e
  obtain ⟨sis', hsis, e⟩ := bind_some e
  cases e
  have ih := zmu hK l sis' hsis (fun o' ho' => hg o' (by simp [ho']))
  simp only [zaj, Option.bind_eq_bind, Option.pure_def] at hsi
  obtain ⟨g, hgo, hsi⟩ := bind_some hsi
  obtain ⟨ins, hins, hsi⟩ := bind_some hsi
  split at hsi
  ·rename_i hdst
   cases hsi
   obtain ⟨μ, h1, h2, h3, hr, x0⟩ := hs
   simp only [Owp] at ho
   split at ho
   ·exact ho.elim
   ·rename_i hgv
    have hw := zdd hgo h3 (fun d b e => by rw [h2]; exact hg o (by simp) d b (by rw [hgo, e])) hgv
    simp only [wpListIn, hw, Bool.false_eq_true, if_false]
    exact ⟨fun _ _ => zeW _ _, ih _ _ _ _ ho (St.put hdst h1 h2 h3 hr zdM (Ext.refl _ _) x0)⟩
   ·rename_i hgv
    have hw := zdd hgo h3 (fun d b e => by rw [h2]; exact hg o (by simp) d b (by rw [hgo, e])) hgv
    simp only [wpListIn, hw, if_true]
    unfold zeG at hins
    split at hins
    rotate_left
    ·obtain ⟨⟨f, args⟩, hcc, rfl⟩ := zae hins
     exact zhK h3 hr hcc ho fun v cv h' μ' w' hq hr' hv' x => ih _ _ _ _ hq (St.put hdst h1 h2 h3 hr' hv' x x0)
    ·rename_i ii hci
     cases hins
     simp only at ho
     split at ho
     ·rename_i v d hex
      obtain ⟨nx, cv, w', μ', hrun, hnx, hr', hv', x, _⟩ := zhi (P := P) hr (hr.next _ (Nat.le_refl _)) (zem h3) hci hex
      rw [H.appAt_next] at hr' hv' x
      have hst : St N ds W0 μ0 h0 (t.put o.dst v) (h.app d) (a.put o.dst cv) w' := St.put hdst h1 h2 h3 hr' hv' x x0
      unfold Oper.wpIn
      refine ⟨fun _ _ => zeW _ _, ?_⟩
      rw [Oper.semAt_eq _ _ _ (zbv hci), hrun]
      rcases hnx with rfl | ⟨rfl, rfl⟩
      ·rw [Oper.uponIn_value]; exact ih _ _ _ _ ho hst
      ·rw [Oper.uponIn_skip]; exact ih _ _ _ _ ho hst
     ·exact ho.elim
  ·cases hsi
end Go.Am
