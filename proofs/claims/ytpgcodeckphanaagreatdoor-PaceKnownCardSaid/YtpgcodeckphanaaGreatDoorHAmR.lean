/-
 Am41, Am42, Am43, Am44, in one text.
-/
import Derived.Test.YtpgcodeckphanaaGreatDoorHAm40
import Derived.RangeFuncIn
import Derived.RangeFuncRecord
import Derived.RangeFuncLeaves
import Derived.Test.YtpgcodeckphanaaGreatDoorHAm19
namespace Go.Am
section
variable {P : Program} {W0 : World} {μ : Nat -> Pl} {h : H} {w : World}

def zfF : List (Tmp × V) -> Tm -> Tm
 | [], t => t
 | (p, v) :: ps, t => zfF ps (t.put (some p) v)

theorem zhz : ∀ (ps : List Tmp) (args : List V) (cargs : List Value) (t : Tm) (a : Array Value), VRs μ h args cargs -> (∀ p ∈ ps, p < a.size) -> ps.length = args.length -> (∀ k, VR μ h (t k) (a.getD k undef)) ->
  (∀ k, VR μ h (zfF (ps.zip args) t k) (((ps.zip cargs).foldl (fun tmps (p : Tmp × Value) => tmps.setIfInBounds p.1 p.2) a).getD k undef)) ∧ ((ps.zip cargs).foldl (fun tmps (p : Tmp × Value) => tmps.setIfInBounds p.1 p.2) a).size = a.size
 | [], args, cargs, t, a, _, _, _, ht => by simpa [zfF] using ht
 | p :: ps, [], _, _, _, _, _, hl, _ => by simp at hl
 | p :: ps, v :: args, cargs, t, a, hv, hp, hl, ht => by
  obtain ⟨c, cs, rfl, h1, h2⟩ := hv
  have ih := zhz ps args cs (t.put (some p) v) (a.setIfInBounds p c) h2 (fun q hq => by simpa using hp q (by simp [hq])) (by simpa using hl) (fun k => by
   rw [zbR _ _ _ _ (hp p (by simp))]
   simp only [Tm.put]
   split
   ·exact h1
   ·exact ht k)
  simpa [zfF] using ih

theorem zei (hr : Rel W0 μ h w) {i : Nat} {r : LoopV} (hg : h.get i = some (.loopo r)) (st : LoopState) (pd : Option Code) :
  ∃ l : Loop, w.heap[(μ i).blk]? = some (.loop l) ∧ l.state = r.st ∧ l.pending = r.pending ∧ l.params = r.params ∧ l.assign = r.assign ∧ l.body = r.body ∧ VRs μ h r.tmps l.tmps.toList ∧
   Rel W0 μ (h.set i (.loopo { r with st := st, pending := pd })) (w.putObj (μ i).blk (.loop { l with state := st, pending := pd })) ∧ Ext μ h μ (h.set i (.loopo { r with st := st, pending := pd })) := by
 have x : Ext μ h μ (h.set i (.loopo { r with st := st, pending := pd })) := Ext.set hg rfl rfl
 obtain ⟨hbase, fn, ct, p, hb, hv, rf⟩ := hr.obj i _ hg
 have hlt : (μ i).blk < w.heap.size := (Array.getElem?_eq_some_iff.1 hb).1
 refine ⟨_, hb, rfl, rfl, rfl, rfl, rfl, by simpa using hv, ?_, x⟩
 refine hr.set hg rfl rfl rfl ?_ (by simp) (fun b _ hne => World.putObj_heap_other hne) ⟨hbase, fn, ct, p, by rw [World.putObj_heap_same hlt], hv.ext x, rf.ext x⟩
 obtain ⟨⟨a, b, c, d, e⟩, dr⟩ := hr.below
 refine ⟨⟨a, b, c, by simpa using d, fun j hj => ?_⟩, dr⟩
 rw [<- e j hj]
 exact World.putObj_heap_other (by omega)

theorem zne (hr : Rel W0 μ h w) {i : Nat} {r : LoopV} (hg : h.get i = some (.loopo r)) {pl : Pl} (rf : Ref μ h i 0 pl) : μ i = pl := by
 obtain ⟨o, ho, _, hm⟩ := rf
 rw [hg] at ho; cases ho
 exact hm rfl

def zgK (i : Nat) (Q : V -> H -> Prop) (e : Exit) (_ : Tm) (h : H) : Prop :=
 match e with
 | .normal => ∃ r, h.get i = some (.loopo r) ∧ Q (.bool true) (h.set i (.loopo { r with st := .ready, pending := none }))
 | .ret => ∃ r, h.get i = some (.loopo r) ∧ Q (.bool false) (h.set i (.loopo { r with st := .done, pending := some .ret }))
 | .exit id => ∃ r, h.get i = some (.loopo r) ∧ Q (.bool false) (h.set i (.loopo { r with st := .done, pending := some (.exit id) }))
 | _ => False

theorem ziy {i : Nat} {r : LoopV} {args : List V} {Q : V -> H -> Prop} {ca cb : C} (hg : h.get i = some (.loopo r))
  (hca : zam P r.tmps.length r.assign = some ca) (hcb : zam P r.tmps.length r.body = some cb) (hl : r.params.size = args.length) (hps : ∀ p ∈ r.params.toList, p < r.tmps.length)
  (hc : Cwp P ca (zd2 (fun t1 h1 => ∃ r1, h1.get i = some (.loopo r1) ∧ r1.st = .ready ∧ Cwp P cb (zgK i Q) t1 (h1.set i (.loopo { r1 with st := .busy, pending := r1.pending }))) (fun _ _ _ => False))
   (zfF (r.params.toList.zip args) (zbB r.tmps)) h) : Ayields P i args h Q := by
 intro W0 μ w cargs pl hr rf hv
 have hμ := zne hr hg rf
 subst hμ
 obtain ⟨l, hl1, _, _, hl5, hl6, hl7, hl8, _⟩ := zei hr hg .busy none
 have hlen := hv.length
 have hy := run_yield (P := P) (args := cargs.toArray) hl1 (by rw [hl5]; simp [hl, hlen])
 refine ⟨_, _, _, _, hy, ?_⟩
 have hn := hl8.length
 have hput := zhz (μ := μ) (h := h) r.params.toList args cargs (zbB r.tmps) l.tmps hv (fun p hp => by rw [<- Array.length_toList, hn]; exact hps p hp) (by simpa using hl) (fun k => by
  unfold zbB
  rw [Array.getD_eq_getD_getElem?]
  by_cases hk : k < r.tmps.length
  ·have ha : r.tmps[k]? = some r.tmps[k] := List.getElem?_eq_getElem hk
   obtain ⟨cv, hcv, hr2⟩ := hl8.get ha
   rw [ha, <- Array.getElem?_toList, hcv]
   exact hr2
  ·have ha : r.tmps[k]? = none := List.getElem?_eq_none (by omega)
   have hb : l.tmps[k]? = none := by rw [Array.getElem?_eq_none_iff]; simp only [Array.length_toList] at hn; omega
   rw [ha, hb]
   exact zbV)
 have hfold : (l.params.zip cargs.toArray).foldl (fun tmps (t, a) => tmps.setIfInBounds t a) l.tmps = (r.params.toList.zip cargs).foldl (fun tmps (p : Tmp × Value) => tmps.setIfInBounds p.1 p.2) l.tmps := by
  rw [hl5, <- Array.foldl_toList, Array.toList_zip]
 rw [hfold, hl6, hl7]
 have hsz : ((r.params.toList.zip cargs).foldl (fun tmps (p : Tmp × Value) => tmps.setIfInBounds p.1 p.2) l.tmps).size = r.tmps.length := by
  rw [hput.2]; simpa using hn
 have hst : St r.tmps.length [] W0 μ h (zfF (r.params.toList.zip args) (zbB r.tmps)) h { tmps := (r.params.toList.zip cargs).foldl (fun tmps (p : Tmp × Value) => tmps.setIfInBounds p.1 p.2) l.tmps, defers := [] } w :=
  ⟨μ, rfl, hsz, hput.1, hr, Ext.refl _ _⟩
 refine roundIn_of_wpIn trivial (wpIn_mono (zhO (ro := some (μ i).blk) (ds := []) r.assign ca hca _ _ h _ w hc hst (fun l t h hq => by simp [zd2] at hq)) ?_)
 rintro e a1 w1 ⟨t1, h1, hq, hs1⟩
 cases e with
 | normal =>
  obtain ⟨r1, hg1, hst1, hcb1⟩ := hq
  obtain ⟨μ1, hd1, hsz1, h31, hr1, x1⟩ := hs1
  have hm1 : μ1 i = μ i := by
   obtain ⟨o', ho', _, _, hm⟩ := x1 i _ hg
   rw [hg1] at ho'; cases ho'
   exact hm rfl
  obtain ⟨l1, hl1, hs, hpd, _, _, _, _, hr2, x2⟩ := zei hr1 hg1 .busy r1.pending
  have hbr := run_beginRound (P := P) hl1 (by rw [hs, hst1])
  have hll : ({ l1 with state := .busy, pending := r1.pending } : Loop) = { l1 with state := .busy } := by rw [<- hpd]
  rw [hll] at hr2
  rw [hm1] at hbr hr2
  refine ⟨_, hbr, ?_⟩
  have hst2 : St r.tmps.length [] W0 μ h t1 (h1.set i (.loopo { r1 with st := .busy, pending := r1.pending })) a1 (w1.putObj (μ i).blk (.loop { l1 with state := .busy })) :=
   ⟨μ1, hd1, hsz1, fun k => (h31 k).ext x2, hr2, x1.trans x2⟩
  have fin : ∀ (pd : Option Code) (t3 : Tm) (h3 : H) (a3 : Act) (w3 : World) (r3 : LoopV), h3.get i = some (.loopo r3) -> Q (.bool pd.isNone) (h3.set i (.loopo { r3 with st := if pd.isNone then .ready else .done, pending := pd })) ->
    St r.tmps.length [] W0 μ h t3 h3 a3 w3 -> ∃ v w', (Instr.endRound (μ i).blk pd).run P w3 = .ok v w' ∧ ∃ v' cv h' μ', Ending.returned v = .returned cv ∧ Q v' h' ∧ Rel W0 μ' h' w' ∧ VR μ' h' v' cv ∧ Ext μ h μ' h' := by
   intro pd t3 h3 a3 w3 r3 hg3 hq3 ⟨μ3, _, _, _, hr3, x3⟩
   have hm3 : μ3 i = μ i := by
    obtain ⟨o', ho', _, _, hm⟩ := x3 i _ hg
    rw [hg3] at ho'; cases ho'
    exact hm rfl
   obtain ⟨l3, hl3, _, _, _, _, _, _, hr4, x4⟩ := zei hr3 hg3 (if pd.isNone then .ready else .done) pd
   have hen := run_endRound (P := P) pd hl3
   rw [hm3] at hen hr4
   exact ⟨_, _, hen, .bool pd.isNone, _, _, μ3, rfl, hq3, hr4, rfl, x3.trans x4⟩
  refine wpIn_mono (zhO (ro := some (μ i).blk) (ds := []) r.body cb hcb (zgK i Q) t1 _ a1 _ hcb1 hst2 (fun l t h hq => by simp [zgK] at hq)) ?_
  rintro e a3 w3 ⟨t3, h3, hq3, hs3⟩
  cases e with
  | normal => obtain ⟨r3, hg3, hq3⟩ := hq3; exact fin none t3 h3 a3 w3 r3 hg3 hq3 hs3
  | ret => obtain ⟨r3, hg3, hq3⟩ := hq3; exact fin (some .ret) t3 h3 a3 w3 r3 hg3 hq3 hs3
  | exit id => obtain ⟨r3, hg3, hq3⟩ := hq3; exact fin (some (.exit id)) t3 h3 a3 w3 r3 hg3 hq3 hs3
  | goto l => exact hq3.elim
  | panic ch => exact hq3.elim
  | outgrown => exact hq3.elim
 | _ => exact hq.elim
end
end Go.Am

namespace Go.Am

inductive R where
 | c (c : C)
 | seq (a b : R)
 | cond (c : A) (a b : R)
 | block (id : Nat) (b : R)
 | rfor (g : A) (ps : Array Tmp) (assign body : Code)

def zaE (P : Program) (N : Nat) : Code -> Option R
 | .seq a b => do pure (.seq (<- zaE P N a) (<- zaE P N b))
 | .cond c a b => do pure (.cond ((zag c).getD (.c .niliface)) (<- zaE P N a) (<- zaE P N b))
 | .block id b => do pure (.block id (<- zaE P N b))
 | .scope b => zaE P N b
 | .rangeFunc g ps a b => (zag g).map fun g => .rfor g ps a b
 | .skip => some (.c .skip)
 | .label _ => some (.c .skip)
 | .exit id => some (.c (.exit id))
 | .ret => some (.c .ret)
 | .region id ops draw => (zam P N (.region id ops draw)).map .c
 | .loop b => (zam P N (.loop b)).map .c
 | .goto _ => none
 | .refuse _ => none

def ziW (next : List Nat -> Tm -> H -> Prop) (Q : Exit -> List Nat -> Tm -> H -> Prop) (e : Exit) (ms : List Nat) (t : Tm) (h : H) : Prop :=
 match e with
 | .normal => next ms t h
 | e => Q e ms t h
def zeQ (id : Nat) (Q : Exit -> List Nat -> Tm -> H -> Prop) (e : Exit) (ms : List Nat) (t : Tm) (h : H) : Prop :=
 match e with
 | .exit id' => if id' = id then Q .normal ms t h else Q (.exit id') ms t h
 | e => Q e ms t h

def zdD (N : Nat) (t : Tm) (ps : Array Tmp) (a b : Code) (h : H) : H :=
 (h.push (.defo true)).push (.loopo ⟨.ready, none, (List.range N).map t, ps, a, b, h.next⟩)
def zi7 (Q : Exit -> List Nat -> Tm -> H -> Prop) (ms : List Nat) (t : Tm) (h : H) : Option Code -> Prop
 | none => Q .normal ms t h
 | some .ret => Q .ret ms t h
 | some (.exit id) => Q (.exit id) ms t h
 | _ => False

def Rwp (P : Program) (N : Nat) : R -> (Exit -> List Nat -> Tm -> H -> Prop) -> List Nat -> Tm -> H -> Prop
 | .c c, Q, ms, t, h => Cwp P c (fun e t h => (∀ m ∈ ms, h.get m = some (.defo true)) ∧ Q e ms t h) t h
 | .seq a b, Q, ms, t, h => Rwp P N a (ziW (Rwp P N b Q) Q) ms t h
 | .cond c a b, Q, ms, t, h => zdB (c.ev t) (Rwp P N a Q ms t h) (Rwp P N b Q ms t h)
 | .block id b, Q, ms, t, h => Rwp P N b (zeQ id Q) ms t h
 | .rfor g ps a b, Q, ms, t, h => ∃ f first cap, g.ev t = .func (.func f) first cap ∧
   Acalls P f (first ++ [.yl (h.next + 1)] ++ cap) (zdD N t ps a b h) fun _ h2 => (∀ m ∈ h.next :: ms, h2.get m = some (.defo true)) ∧
    ∃ r, h2.get (h.next + 1) = some (.loopo r) ∧ r.st ≠ .busy ∧ zi7 Q (h.next :: ms) t (h2.set (h.next + 1) (.loopo { r with st := .exhausted, pending := r.pending })) r.pending

def zeJ (μ : Nat -> Pl) (m : Nat) : Deferred := { target := .collected (μ m).blk, args := #[] }

def StR (N : Nat) (W0 : World) (μ0 : Nat -> Pl) (h0 : H) (ms : List Nat) (t : Tm) (h : H) (a : Act) (w : World) : Prop :=
 ∃ μ, a.defers = ms.map (zeJ μ) ∧ (∀ m ∈ ms, h.get m = some (.defo true)) ∧ ms.Nodup ∧ a.tmps.size = N ∧ (∀ k, VR μ h (t k) (a.tmps.getD k undef)) ∧ Rel W0 μ h w ∧ Ext μ0 h0 μ h
def znu (N : Nat) (W0 : World) (μ0 : Nat -> Pl) (h0 : H) (Q : Exit -> List Nat -> Tm -> H -> Prop) (e : Exit) (a : Act) (w : World) : Prop :=
 ∃ ms t h, Q e ms t h ∧ StR N W0 μ0 h0 ms t h a w

abbrev zny (w : World) (fn : FuncId) (tmps : Array Value) (ps : Array Tmp) (a b : Code) : World :=
 (w.alloc (.deferred (some []))).alloc (.loop { state := .ready, pending := none, fn, tmps, params := ps, assign := a, body := b, defers := w.heap.size })

section
variable {P : Program} {N : Nat} {W0 : World} {μ0 : Nat -> Pl} {h0 : H}

theorem zgE {μ μ' : Nat -> Pl} {h h' : H} {ms : List Nat} (x : Ext μ h μ' h') (hm : ∀ m ∈ ms, h.get m = some (.defo true)) (hm' : ∀ m ∈ ms, h'.get m = some (.defo true)) : ms.map (zeJ μ) = ms.map (zeJ μ') := by
 refine List.map_congr_left fun m hmm => ?_
 obtain ⟨o', ho', _, _, h3⟩ := x m _ (hm m hmm)
 rw [hm' m hmm] at ho'; cases ho'
 simp only [zeJ, h3 rfl]

theorem zdO {code : Code} {c : C} (hc : zam P N code = some c) {Q : Exit -> List Nat -> Tm -> H -> Prop} {ms : List Nat} {t : Tm} {h : H} {a : Act} {w : World}
  (hw : Cwp P c (fun e t h => (∀ m ∈ ms, h.get m = some (.defo true)) ∧ Q e ms t h) t h) (hs : StR N W0 μ0 h0 ms t h a w) (hng : ∀ l ms t h, ¬ Q (.goto l) ms t h) : code.wpIn (RF none) 0 P (znu N W0 μ0 h0 Q) a w := by
 obtain ⟨μ, hd, hm, hnd, hN, h3, hr, x⟩ := hs
 refine wpIn_mono (zhO (ro := none) (ds := ms.map (zeJ μ)) (μ0 := μ) (h0 := h) code c hc _ t h a w hw ⟨μ, hd, hN, h3, hr, Ext.refl _ _⟩ (fun l t h hq => hng l ms t h hq.2)) ?_
 rintro e a' w' ⟨t', h', ⟨hm', hq⟩, μ', hd', hN', h3', hr', x'⟩
 exact ⟨ms, t', h', hq, μ', by rw [hd', zgE x' hm hm'], hm', hnd, hN', h3', hr', x.trans x'⟩

theorem zmk {g : Operand} {ga : A} (hga : zag g = some ga) {ps : Array Tmp} {ca cb : Code} {Q : Exit -> List Nat -> Tm -> H -> Prop} {ms : List Nat} {t : Tm} {h : H} {a : Act} {w : World}
  (hw : Rwp P N (.rfor ga ps ca cb) Q ms t h) (hs : StR N W0 μ0 h0 ms t h a w) : (Code.rangeFunc g ps ca cb).wpIn (RF none) 0 P (znu N W0 μ0 h0 Q) a w := by
 obtain ⟨μ, hd, hm, hnd, hN, h3, hr, x⟩ := hs
 obtain ⟨f, first, cap, hge, hent, hcalls⟩ := hw
 have vf := (zc9 h3).arg hga
 rw [hge] at vf
 obtain ⟨cf, cc, hgo, vfirst, vcap⟩ := vf
 obtain ⟨fn0, hfn0, hbody0, hname0⟩ := zb3 hent
 refine wpIn_rangeFunc fun fn _ => ?_
 -- the two new blocks
 have hfree : h.get h.next = none := hr.next _ (Nat.le_refl _)
 have hr1 := hr.push hfree (o := .defo true) (p := ⟨w.heap.size, 0, 0⟩) rfl (hr.below.alloc hr.below.size (.deferred (some []))) (by simp) (fun b hb => Below.heap_alloc w _ b hb)
  ⟨by simp only [zar]; exact hr.below.size, by simp only [zar, if_true]; exact heap_alloc_new w _⟩
 have x1 := Ext.push hfree (.defo true) ⟨w.heap.size, 0, 0⟩ (μ := μ)
 rw [H.pushAt_next] at hr1 x1
 have hfree2 : (h.push (.defo true)).get (h.push (.defo true)).next = none := hr1.next _ (Nat.le_refl _)
 have x2 := Ext.push hfree2 (.loopo ⟨.ready, none, (List.range N).map t, ps, ca, cb, h.next⟩) ⟨w.heap.size + 1, 0, 0⟩ (μ := upd μ h.next ⟨w.heap.size, 0, 0⟩)
 have hne : h.next ≠ (h.push (.defo true)).next := by simp
 have hr2 := hr1.push hfree2 (o := .loopo ⟨.ready, none, (List.range N).map t, ps, ca, cb, h.next⟩) (p := ⟨w.heap.size + 1, 0, 0⟩) (by simp)
  (hr1.below.alloc hr1.below.size (.loop { state := .ready, pending := none, fn, tmps := a.tmps, params := ps, assign := ca, body := cb, defers := w.heap.size })) (by simp) (fun b hb => Below.heap_alloc _ _ b hb)
  ⟨by simp only [zar]; have := hr.below.size; omega, fn, a.tmps.toList, ⟨w.heap.size, 0, 0⟩, by
   simp only [zar]
   have := heap_alloc_new (w.alloc (.deferred (some []))) (.loop { state := .ready, pending := none, fn, tmps := a.tmps, params := ps, assign := ca, body := cb, defers := w.heap.size })
   simpa using this, by
   refine VRs.of_get (by simp [hN]) fun k v c h1 h2 => ?_
   have hk : k < N := by
    have := (List.getElem?_eq_some_iff.1 h1).1
    simpa using this
   rw [List.getElem?_map, List.getElem?_range hk] at h1
   simp only [Option.map_some, Option.some.injEq] at h1
   subst h1
   have := h3 k
   rw [Array.getD_eq_getD_getElem?, <- Array.getElem?_toList, h2] at this
   exact VR.ext x2 _ _ (VR.ext x1 _ _ this), by
   refine ⟨.defo true, ?_, Nat.zero_le _, fun _ => ?_⟩
   ·rw [H.get_pushAt, if_neg hne, H.get_push, if_pos rfl]
   ·rw [zbX _ _ hne, zar]⟩
 rw [H.pushAt_next] at hr2 x2
 have x12 := x1.trans x2
 have hl : (h.push (.defo true)).next = h.next + 1 := rfl
 have hyl : VR (upd (upd μ h.next ⟨w.heap.size, 0, 0⟩) (h.push (.defo true)).next ⟨w.heap.size + 1, 0, 0⟩) (zdD N t ps ca cb h) (.yl (h.next + 1)) (Value.func (.yield (w.heap.size + 1)) #[] #[]) :=
  ⟨⟨w.heap.size + 1, 0, 0⟩, rfl, .loopo ⟨.ready, none, (List.range N).map t, ps, ca, cb, h.next⟩, by simp [zdD, H.get_push], Nat.zero_le _, fun _ => by rw [<- hl, zar]⟩
 have hv : VRs (upd (upd μ h.next ⟨w.heap.size, 0, 0⟩) (h.push (.defo true)).next ⟨w.heap.size + 1, 0, 0⟩) (zdD N t ps ca cb h) (first ++ [.yl (h.next + 1)] ++ cap) (cf ++ [Value.func (.yield (w.heap.size + 1)) #[] #[]] ++ cc) :=
  ((VRs.ext x12 _ _ vfirst).append (.cons hyl VRs.nil)).append (VRs.ext x12 _ _ vcap)
 refine ⟨w.heap.size + 1, [{ target := .collected w.heap.size, args := #[] }], zny w fn a.tmps ps ca cb, { target := .fn (.func f) cc.toArray, args := cf.toArray ++ #[Value.func (.yield (w.heap.size + 1)) #[] #[]] }, zny w fn a.tmps ps ca cb, f, (cf ++ [Value.func (.yield (w.heap.size + 1)) #[] #[]] ++ cc).toArray, zny w fn a.tmps ps ca cb,
  run_enterLoop_outer _ _ _ _ _, ?_, fun _ _ => zd4 _ _, ?_, zfM _ _, ?_⟩
 ·have hm1 : Array.map a.eval #[Operand.const (Value.func (.yield (w.heap.size + 1)) #[] #[])] = #[Value.func (.yield (w.heap.size + 1)) #[] #[]] := by simp [Act.eval]
  simp only [resolve, rangeCall, hgo, Deferred.ofValue, Sem.run_pure, hm1]
 ·have hargs : (cf.toArray ++ #[Value.func (.yield (w.heap.size + 1)) #[] #[]] ++ cc.toArray) = (cf ++ [Value.func (.yield (w.heap.size + 1)) #[] #[]] ++ cc).toArray := by
   apply Array.ext'; simp
  simp only [invoke, callFunc, Sem.run_bind, run_program, Result.andThen_ok, hfn0, hname0, hbody0, Bool.false_eq_true, if_false, hargs, Sem.run_pure]
 ·refine CallsIn.mono (zh6 (hcalls W0 _ _ _ hr2 hv)) ?_
  rintro e w3 ⟨v, cv, h3', μ3, rfl, ⟨hm3, r, hg3, hst3, hj⟩, hr3, _, x3⟩
  have hmu1 : μ3 (h.next + 1) = ⟨w.heap.size + 1, 0, 0⟩ := by
   obtain ⟨o', ho', _, _, hm⟩ := x3 (h.next + 1) (.loopo ⟨.ready, none, (List.range N).map t, ps, ca, cb, h.next⟩) (by simp [zdD, H.get_push])
   rw [hg3] at ho'; cases ho'
   rw [hm rfl, <- hl, zar]
  have hmu0 : μ3 h.next = ⟨w.heap.size, 0, 0⟩ := by
   obtain ⟨o', ho', _, _, hm⟩ := x3 h.next (.defo true) (by simp [zdD, H.get_push])
   rw [hm3 h.next (by simp)] at ho'; cases ho'
   rw [hm rfl, zbX _ _ hne, zar]
  obtain ⟨l, hl1, hls, hlp, _, _, _, _, hr4, x4⟩ := zei hr3 hg3 .exhausted r.pending
  have hend := run_endLoop (P := P) hl1 (by rw [hls]; exact hst3)
  rw [hlp] at hend
  have hb1 : (μ3 (h.next + 1)).blk = w.heap.size + 1 := by rw [hmu1]
  rw [hb1] at hend hr4
  have hxx := (x12.trans x3).trans x4
  have hm4 : ∀ m ∈ h.next :: ms, (h3'.set (h.next + 1) (.loopo { r with st := .exhausted, pending := r.pending })).get m = some (.defo true) := fun m hmm => by
   have := hm3 m hmm
   rw [H.get_set, if_neg (fun e => by rw [e, hg3] at this; cases this)]
   exact this
  have hst : StR N W0 μ0 h0 (h.next :: ms) t (h3'.set (h.next + 1) (.loopo { r with st := .exhausted, pending := r.pending })) { a with defers := [{ target := .collected w.heap.size, args := #[] }] ++ a.defers }
    (w3.putObj (w.heap.size + 1) (.loop { l with state := .exhausted, pending := r.pending })) :=
   ⟨μ3, by
    show [_] ++ a.defers = _
    rw [hd, zgE hxx hm (fun m hmm => hm4 m (by simp [hmm])), List.map_cons, zeJ, hmu0]
    rfl, hm4, List.nodup_cons.2 ⟨fun hin => (by have := hm _ hin; rw [hfree] at this; cases this), hnd⟩, hN, fun k => VR.ext hxx _ _ (h3 k), hr4, x.trans hxx⟩
  refine ⟨_, _, hend, ?_⟩
  unfold zi7 at hj
  split at hj
  ·rename_i hp; rw [hp] at hst ⊢; exact ⟨_, _, _, by rw [hp] at hj; exact hj, hst⟩
  ·rename_i hp; rw [hp] at hst ⊢; exact wpIn_ret ⟨_, _, _, by rw [hp] at hj; exact hj, hst⟩
  ·rename_i hp; rw [hp] at hst ⊢; exact wpIn_exit ⟨_, _, _, by rw [hp] at hj; exact hj, hst⟩
  ·exact hj.elim

theorem zoN : ∀ (code : Code) (r : R), zaE P N code = some r -> ∀ (Q : Exit -> List Nat -> Tm -> H -> Prop) (ms : List Nat) (t : Tm) (h : H) (a : Act) (w : World), Rwp P N r Q ms t h -> StR N W0 μ0 h0 ms t h a w ->
  (∀ l ms t h, ¬ Q (.goto l) ms t h) -> code.wpIn (RF none) 0 P (znu N W0 μ0 h0 Q) a w := by
 intro code
 induction code with
 | skip => intro r e Q ms t h a w hw hs hng; simp only [zaE, Option.some.injEq] at e; subst e; exact zdO (c := .skip) rfl hw hs hng
 | label l => intro r e Q ms t h a w hw hs hng; simp only [zaE, Option.some.injEq] at e; subst e; exact zdO (c := .skip) rfl hw hs hng
 | exit id => intro r e Q ms t h a w hw hs hng; simp only [zaE, Option.some.injEq] at e; subst e; exact zdO (c := .exit id) rfl hw hs hng
 | ret => intro r e Q ms t h a w hw hs hng; simp only [zaE, Option.some.injEq] at e; subst e; exact zdO (c := .ret) rfl hw hs hng
 | region id ops draw => intro r e Q ms t h a w hw hs hng; simp only [zaE] at e; obtain ⟨c, hc, rfl⟩ := zad e; exact zdO hc hw hs hng
 | loop b _ => intro r e Q ms t h a w hw hs hng; simp only [zaE] at e; obtain ⟨c, hc, rfl⟩ := zad e; exact zdO hc hw hs hng
 | goto l => intro r e; simp [zaE] at e
 | refuse why => intro r e; simp [zaE] at e
 | rangeFunc g ps x y _ _ => intro r e Q ms t h a w hw hs hng; simp only [zaE] at e; obtain ⟨ga, hga, rfl⟩ := zad e; exact zmk hga hw hs
 | seq x y ihx ihy =>
  intro r e Q ms t h a w hw hs hng
  simp only [zaE, Option.bind_eq_bind, Option.pure_def] at e
  obtain ⟨cx, hx, e⟩ := bind_some e
  obtain ⟨cy, hy, e⟩ := bind_some e
  cases e
  refine wpIn_seq (wpIn_mono (ihx cx hx (ziW (Rwp P N cy Q) Q) ms t h a w hw hs (fun l ms t h => hng l ms t h)) ?_)
  rintro ex a' w' ⟨ms', t', h', hq, hs'⟩
  cases ex with
  | normal => exact ihy cy hy Q ms' t' h' a' w' hq hs' hng
  | _ => exact ⟨ms', t', h', hq, hs'⟩
 | cond c x y ihx ihy =>
  intro cc e Q ms t h a w hc hs hng
  simp only [zaE, Option.bind_eq_bind, Option.pure_def] at e
  obtain ⟨cx, hx, e⟩ := bind_some e
  obtain ⟨cy, hy, e⟩ := bind_some e
  cases e
  cases hc1 : zag c with
  | none => rw [hc1] at hc; simp [Rwp, zdB, A.ev] at hc
  | some c' =>
  rw [hc1] at hc
  simp only [Rwp, Option.getD_some] at hc
  unfold zdB at hc
  split at hc
  ·rename_i b hb
   have hs0 := hs
   obtain ⟨μ, h1, h2, hnd, hN, h3, hr, x0⟩ := hs0
   have hv := (zc9 h3).arg hc1
   rw [hb] at hv
   simp only [VR] at hv
   exact wpIn_cond_split hv (fun hb => ihx cx hx Q ms t h a w (hc.1 hb) hs hng) (fun hb => ihy cy hy Q ms t h a w (hc.2 hb) hs hng)
  ·exact hc.elim
 | block id b ih =>
  intro r e Q ms t h a w hc hs hng
  simp only [zaE, Option.bind_eq_bind, Option.pure_def] at e
  obtain ⟨cb, hb, e⟩ := bind_some e
  cases e
  refine wpIn_block (wpIn_mono (ih cb hb (zeQ id Q) ms t h a w hc hs (fun l ms t h => hng l ms t h)) ?_)
  rintro ex a' w' ⟨ms', t', h', hq, hs'⟩
  cases ex with
  | exit id' =>
   simp only [zeQ, Exit.inBlock] at hq ⊢
   split
   ·rename_i e; rw [if_pos e] at hq; exact ⟨ms', t', h', hq, hs'⟩
   ·rename_i e; rw [if_neg e] at hq; exact ⟨ms', t', h', hq, hs'⟩
  | _ => exact ⟨ms', t', h', hq, hs'⟩
 | scope b ih =>
  intro r e Q ms t h a w hc hs hng
  simp only [zaE] at e
  refine zbJ (wpIn_mono (ih r e Q ms t h a w hc hs hng) ?_)
  rintro ex a' w' ⟨ms', t', h', hq, hs'⟩
  cases ex with
  | goto l => exact absurd hq (hng l ms' t' h')
  | _ => exact ⟨ms', t', h', hq, hs'⟩
end
end Go.Am

namespace Go.Am

structure SFR where
 N : Nat
 results : List RV
 body : R
def zdC (P : Program) (fn : Func) : Option SFR := do
 let b <- fn.body
 let c <- zaE P fn.ntmps b
 let rs <- fn.results.toList.mapM (zcg P)
 pure ⟨fn.ntmps, rs, c⟩

def shut : List Nat -> H -> H
 | [], h => h
 | m :: ms, h => shut ms (h.set m (.defo false))

def zcK (rs : List RV) (Q : V -> H -> Prop) (e : Exit) (ms : List Nat) (t : Tm) (h : H) : Prop :=
 match e with
 | .normal | .ret => match zbr (shut ms h).get t rs with
  | some vs => Q (tupV vs) (shut ms h)
  | none => False
 | _ => False

section
variable {P : Program} {W0 : World} {μ0 : Nat -> Pl} {h0 : H}

theorem zkn {μ : Nat -> Pl} {h : H} {w : World} (hr : Rel W0 μ h w) {m : Nat} (hg : h.get m = some (.defo true)) :
  w.heap[(μ m).blk]? = some (.deferred (some [])) ∧ Rel W0 μ (h.set m (.defo false)) (w.putObj (μ m).blk (.deferred none)) ∧ Ext μ h μ (h.set m (.defo false)) := by
 obtain ⟨hbase, hb⟩ := hr.obj m _ hg
 have hlt : (μ m).blk < w.heap.size := (Array.getElem?_eq_some_iff.1 hb).1
 refine ⟨hb, hr.set hg rfl rfl rfl ?_ (by simp) (fun b _ hne => World.putObj_heap_other hne) ⟨hbase, by rw [World.putObj_heap_same hlt]; rfl⟩, Ext.set hg rfl rfl⟩
 obtain ⟨⟨a, b, c, d, e⟩, dr⟩ := hr.below
 refine ⟨⟨a, b, c, by simpa using d, fun j hj => ?_⟩, dr⟩
 rw [<- e j hj]
 exact World.putObj_heap_other (by omega)

theorem zex {fn : Func} {rs : List RV} (hrs : fn.results.toList.mapM (zcg P) = some rs) {Q : V -> H -> Prop} {t : Tm} {tmps : Array Value} {μ : Nat -> Pl} :
  ∀ (ms : List Nat) (h : H) (w : World), (∀ m ∈ ms, h.get m = some (.defo true)) -> ms.Nodup -> Rel W0 μ h w -> (∀ k, VR μ h (t k) (tmps.getD k undef)) -> Ext μ0 h0 μ h ->
   (match zbr (shut ms h).get t rs with | some vs => Q (tupV vs) (shut ms h) | none => False) ->
   LeavesInM (RF none) 0 P fn tmps (fun e w' => ∃ v cv h' μ', e = .returned cv ∧ Q v h' ∧ Rel W0 μ' h' w' ∧ VR μ' h' v cv ∧ Ext μ0 h0 μ' h') (ms.map (zeJ μ)) .returning w
 | [], h, w, _, _, hr, h3, x, hq => by
  show ∃ v, (results fn tmps).run P w = .ok v w ∧ _
  simp only [shut] at hq
  split at hq
  ·rename_i vs hvs
   obtain ⟨cs, hrun, hvr⟩ := zjZ (P := P) hr h3 fn.results.toList rs vs hrs hvs
   refine ⟨if h : cs.length = 1 then cs[0] else .tuple cs.toArray, ?_, tupV vs, _, h, μ, rfl, hq, hr, ?_, x⟩
   ·rw [zfi]
    rw [Sem.run_bind, Array.mapM_eq_mapM_toList]
    simp only [Sem.run_map, hrun, Result.andThen_ok, Sem.run_pure]
    congr 1
   ·have hl := hvr.length
    match vs, cs, hvr with
    | [], cs, hvr => simp only [VRs] at hvr; subst hvr; exact ⟨[], rfl, VRs.nil⟩
    | [v], _, ⟨c, cs', e, hv1, hv2⟩ => simp only [VRs] at hv2; subst hv2; subst e; exact hv1
    | v :: u :: vs, _, ⟨c, cs', e, hv1, ⟨d, cs'', e2, hv2, hv3⟩⟩ => subst e2; subst e; exact ⟨_, by simp, .cons hv1 (.cons hv2 hv3)⟩
  ·exact hq.elim
 | m :: ms, h, w, hm, hnd, hr, h3, x, hq => by
  obtain ⟨hk, hr2, x2⟩ := zkn hr (hm m (by simp))
  obtain ⟨hnot, hnd2⟩ := List.nodup_cons.1 hnd
  refine ⟨by simp, .inl ⟨(μ m).blk, _, rfl, run_takeDeferred hk, ?_⟩⟩
  exact zex hrs ms _ _ (fun k hk => by
   have hne : k ≠ m := fun e => hnot (by rw [<- e]; exact hk)
   rw [H.get_set, if_neg hne]
   exact hm k (by simp [hk])) hnd2 hr2 (fun k => (h3 k).ext x2) (x.trans x2) hq

theorem ze0 {f : FuncId} {fn : Func} (hf : P.funcs[f]? = some fn) {sf : SFR} (hc : zdC P fn = some sf) (hen : zaa P f = true) {args : List V} (hn : args.length ≤ sf.N) {h : H} {Q : V -> H -> Prop}
  (hb : Rwp P sf.N sf.body (zcK sf.results Q) [] (zbB args) h) : Acalls P f args h Q := by
 refine ⟨hen, fun W0 μ w cargs hr hv => ?_⟩
 simp only [zdC, Option.bind_eq_bind, Option.pure_def] at hc
 obtain ⟨code, hcode, hc⟩ := bind_some hc
 obtain ⟨c, hcc, hc⟩ := bind_some hc
 obtain ⟨rs, hrs, hc⟩ := bind_some hc
 cases hc
 have hlen := hv.length
 have hn' : args.length ≤ fn.ntmps := hn
 have hst : StR fn.ntmps W0 μ h [] (zbB args) h { tmps := cargs.toArray ++ Array.replicate (fn.ntmps - cargs.toArray.size) undef, defers := [] } w := by
  refine ⟨μ, rfl, by simp, List.nodup_nil, by simp; omega, fun k => ?_, hr, Ext.refl _ _⟩
  unfold zbB
  simp only [Array.getD_eq_getD_getElem?, Array.getElem?_append, List.size_toArray]
  by_cases hk : k < cargs.length
  ·have ha : args[k]? = some args[k] := List.getElem?_eq_getElem (by omega)
   obtain ⟨cv, hcv, hr2⟩ := hv.get ha
   rw [if_pos hk, ha]
   simp only [Option.getD_some, List.getElem?_toArray, hcv]
   exact hr2
  ·have ha : args[k]? = none := List.getElem?_eq_none (by omega)
   rw [if_neg hk, ha, Array.getElem?_replicate]
   split
   ·exact zbV
   ·exact zbV
 refine (callsIn_wide (n := 0)).1 (callsIn_of_wp_marks (F := RF none) (n := 0) hf hcode trivial (wpIn_mono (zoN code c hcc (zcK rs Q) [] _ h _ w hb hst (fun l ms t h hq => by simp [zcK] at hq)) ?_))
 rintro e a w' ⟨ms, t, h', hq, μ', hd, hm, hnd, hN, h3, hr', x⟩
 cases e with
 | normal => show LeavesInM _ _ _ _ _ _ a.defers _ _; rw [hd]; exact zex hrs ms h' w' hm hnd hr' h3 x hq
 | ret => show LeavesInM _ _ _ _ _ _ a.defers _ _; rw [hd]; exact zex hrs ms h' w' hm hnd hr' h3 x hq
 | _ => exact hq.elim
end
end Go.Am

namespace Go.Am

def za0 : Code -> Option (Array Tmp × Code × Code)
 | .seq a b => (za0 a).or (za0 b)
 | .cond _ a b => (za0 a).or (za0 b)
 | .block _ b => za0 b
 | .loop b => za0 b
 | .scope b => za0 b
 | .rangeFunc _ ps a b => some (ps, a, b)
 | _ => none
def znn (fn : Func) : Code := match fn.body with
 | some b => match za0 b with
  | some x => x.2.1
  | none => .skip
 | none => .skip
def zm6 (fn : Func) : Code := match fn.body with
 | some b => match za0 b with
  | some x => x.2.2
  | none => .skip
 | none => .skip
variable {P : Program} {N : Nat} (Q : Exit -> List Nat -> Tm -> H -> Prop)
@[simp] theorem zrn (c : C) (ms : List Nat) (t : Tm) (h : H) : Rwp P N (.c c) Q ms t h = Cwp P c (fun e t h => (∀ m ∈ ms, h.get m = some (.defo true)) ∧ Q e ms t h) t h := _root_.id rfl
@[simp] theorem zqS (a b : R) (ms : List Nat) (t : Tm) (h : H) : Rwp P N (.seq a b) Q ms t h = Rwp P N a (ziW (Rwp P N b Q) Q) ms t h := _root_.id rfl
@[simp] theorem zpG (id : Nat) (b : R) (ms : List Nat) (t : Tm) (h : H) : Rwp P N (.block id b) Q ms t h = Rwp P N b (zeQ id Q) ms t h := _root_.id rfl
def zgP (P : Program) (N : Nat) (Q : Exit -> List Nat -> Tm -> H -> Prop) (a b : R) (ms : List Nat) (t : Tm) (h : H) (c : V) : Prop := zdB c (Rwp P N a Q ms t h) (Rwp P N b Q ms t h)
@[simp] theorem zp3 (c : A) (a b : R) (ms : List Nat) (t : Tm) (h : H) : Rwp P N (.cond c a b) Q ms t h = zgP P N Q a b ms t h (c.ev t) := _root_.id rfl
@[simp] theorem zm0 (a b : R) (ms : List Nat) (t : Tm) (h : H) : zgP P N Q a b ms t h (.bool true) = Rwp P N a Q ms t h := by simp [zgP, zdB]
@[simp] theorem zlY (a b : R) (ms : List Nat) (t : Tm) (h : H) : zgP P N Q a b ms t h (.bool false) = Rwp P N b Q ms t h := by simp [zgP, zdB]
def zpI (P : Program) (N : Nat) (Q : Exit -> List Nat -> Tm -> H -> Prop) (ps : Array Tmp) (a b : Code) (ms : List Nat) (t : Tm) (h : H) (g : V) : Prop :=
 ∃ f first cap, g = .func (.func f) first cap ∧
   Acalls P f (first ++ [.yl (h.next + 1)] ++ cap) (zdD N t ps a b h) fun _ h2 => (∀ m ∈ h.next :: ms, h2.get m = some (.defo true)) ∧
    ∃ r, h2.get (h.next + 1) = some (.loopo r) ∧ r.st ≠ .busy ∧ zi7 Q (h.next :: ms) t (h2.set (h.next + 1) (.loopo { r with st := .exhausted, pending := r.pending })) r.pending
@[simp] theorem zqj (g : A) (ps : Array Tmp) (a b : Code) (ms : List Nat) (t : Tm) (h : H) : Rwp P N (.rfor g ps a b) Q ms t h = zpI P N Q ps a b ms t h (g.ev t) := _root_.id rfl
theorem zmR {ps : Array Tmp} {a b : Code} {ms : List Nat} {t : Tm} {h : H} {f : FuncId} {first cap : List V}
  (c : Acalls P f (first ++ [.yl (h.next + 1)] ++ cap) (zdD N t ps a b h) fun _ h2 => (∀ m ∈ h.next :: ms, h2.get m = some (.defo true)) ∧
    ∃ r, h2.get (h.next + 1) = some (.loopo r) ∧ r.st ≠ .busy ∧ zi7 Q (h.next :: ms) t (h2.set (h.next + 1) (.loopo { r with st := .exhausted, pending := r.pending })) r.pending) :
  zpI P N Q ps a b ms t h (.func (.func f) first cap) := ⟨f, first, cap, rfl, c⟩
variable (next : List Nat -> Tm -> H -> Prop)
@[simp] theorem zlD (ms : List Nat) (t : Tm) (h : H) : ziW next Q .normal ms t h = next ms t h := _root_.id rfl
@[simp] theorem zoS (ms : List Nat) (t : Tm) (h : H) : ziW next Q .ret ms t h = Q .ret ms t h := _root_.id rfl
@[simp] theorem zon (i : Nat) (ms : List Nat) (t : Tm) (h : H) : ziW next Q (.exit i) ms t h = Q (.exit i) ms t h := _root_.id rfl
@[simp] theorem zlc (id : Nat) (ms : List Nat) (t : Tm) (h : H) : zeQ id Q .normal ms t h = Q .normal ms t h := _root_.id rfl
@[simp] theorem zoe (id : Nat) (ms : List Nat) (t : Tm) (h : H) : zeQ id Q .ret ms t h = Q .ret ms t h := _root_.id rfl
@[simp] theorem zmM (id i : Nat) (ms : List Nat) (t : Tm) (h : H) : zeQ id Q (.exit i) ms t h = if i = id then Q .normal ms t h else Q (.exit i) ms t h := _root_.id rfl
@[simp] theorem zlJ (rs : List RV) (R : V -> H -> Prop) (ms : List Nat) (t : Tm) (h : H) : zcK rs R .ret ms t h = resK (zbr (shut ms h).get t rs) (shut ms h) R := _root_.id rfl
@[simp] theorem zj3 (rs : List RV) (R : V -> H -> Prop) (ms : List Nat) (t : Tm) (h : H) : zcK rs R .normal ms t h = resK (zbr (shut ms h).get t rs) (shut ms h) R := _root_.id rfl
@[simp] theorem znZ (ms : List Nat) (t : Tm) (h : H) : zi7 Q ms t h none = Q .normal ms t h := _root_.id rfl
@[simp] theorem zp4 (h : H) : shut [] h = h := _root_.id rfl
@[simp] theorem zpj (m : Nat) (ms : List Nat) (h : H) : shut (m :: ms) h = shut ms (h.set m (.defo false)) := _root_.id rfl

theorem zeD {f : FuncId} {fn : Func} {sf : SFR} (hf : P.funcs[f]? = some fn) (hc : zdC P fn = some sf) (hen : zaa P f = true) {args : List V} {h : H} {R : V -> H -> Prop} (hn : args.length ≤ sf.N)
  (hb : h.WF -> Rwp P sf.N sf.body (zcK sf.results R) [] (zbB args) h) : Acalls P f args h R :=
 Acalls.wf hen fun w => ze0 hf hc hen hn (hb w)

@[simp] theorem zkG (i : Nat) (R : V -> H -> Prop) (t : Tm) (h : H) : zgK i R .normal t h = ∃ r, h.get i = some (.loopo r) ∧ R (.bool true) (h.set i (.loopo { r with st := .ready, pending := none })) := _root_.id rfl
@[simp] theorem zob (i : Nat) (R : V -> H -> Prop) (t : Tm) (h : H) : zgK i R .ret t h = ∃ r, h.get i = some (.loopo r) ∧ R (.bool false) (h.set i (.loopo { r with st := .done, pending := some .ret })) := _root_.id rfl
@[simp] theorem zoP (t : Tm) : zfF [] t = t := _root_.id rfl
@[simp] theorem znV (p : Tmp) (v : V) (ps : List (Tmp × V)) (t : Tm) : zfF ((p, v) :: ps) t = zfF ps (t.put (some p) v) := _root_.id rfl

end Go.Am
