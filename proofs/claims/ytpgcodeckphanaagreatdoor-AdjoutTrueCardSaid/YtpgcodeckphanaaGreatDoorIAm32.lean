/-
 AM, PART 32. slices.SortFunc over the abstract heap, out of the kit's contract.
-/
import Derived.Test.YtpgcodeckphanaaGreatDoorIAmL
import Derived.Shelf.SlSortCmp.NoneTotal
namespace Go.Am
open Go.Proofs

variable {P : Program}

def Weak (v u : V) : Prop := (u = .any ∧ v.one = true) ∨ (u = v ∧ v.ids = [])
theorem VR.plain {μ μ' : Nat -> Pl} {h h' : H} {v : V} {c : Value} (hi : v.ids = []) (r : VR μ h v c) : VR μ' h' v c := by
 have := VR.forth (σ := id) (μ' := μ') (h' := h') r (fun i h => by rw [hi] at h; cases h) (fun i h => by have := V.opens_ids v i h; rw [hi] at this; cases this)
 rwa [V.ren_id (σ := id) v (fun _ _ => rfl)] at this
theorem Weak.vr {μ μ' : Nat -> Pl} {h h' : H} {v u : V} {c : Value} (k : Weak v u) (r : VR μ h v c) : VR μ' h' u c := by
 rcases k with ⟨rfl, h1⟩ | ⟨rfl, hi⟩
 ·exact (r.one_cells h1).2
 ·exact r.plain hi
inductive WeakL : List V -> List V -> Prop
 | nil : WeakL [] []
 | cons {v u : V} {vs us : List V} : Weak v u -> WeakL vs us -> WeakL (v :: vs) (u :: us)
theorem WeakL.vrs {μ μ' : Nat -> Pl} {h h' : H} : ∀ {vs us : List V} {cs : List Value}, WeakL vs us -> VRs μ h vs cs -> VRs μ' h' us cs
 | _, _, _, .nil, r => r
 | _, _, _, .cons a b, ⟨c, cs', e, r1, r2⟩ => ⟨c, cs', e, a.vr r1, b.vrs r2⟩
theorem WeakL.same : ∀ {vs : List V}, (∀ v ∈ vs, v.ids = []) -> WeakL vs vs
 | [], _ => .nil
 | v :: vs, h => .cons (.inr ⟨rfl, h v (by simp)⟩) (WeakL.same fun x hx => h x (by simp [hx]))

def O.rowish : O -> Bool
 | .row _ | .grow _ _ => true
 | _ => false
theorem Rel.own {W0 : World} {μ : Nat -> Pl} {h : H} {w : World} (r : Rel W0 μ h w) {i : Nat} {o : O} (hg : h.get i = some o) (hro : o.rowish = true) :
  ∃ cur e fz, W0.heap.size ≤ (μ i).blk ∧ (μ i).base = 0 ∧ w.heap[(μ i).blk]? = some (.cells cur e fz) ∧ VRs μ h o.cells (cur.toList.take o.cells.length) ∧ o.cells.length ≤ cur.size ∧ zfd fz cur.size ∧
   ∀ (off : Nat) (xs : List V) (o' : O) (cur' : Array Value) (w' : World), o.put off xs = some o' -> cur'.size = cur.size -> VRs μ (h.set i o') o'.cells (cur'.toList.take o.cells.length) -> w'.heap[(μ i).blk]? = some (.cells cur' e fz) -> Below W0.heap.size W0 w' -> w.heap.size ≤ w'.heap.size ->
    (∀ b, b < w.heap.size -> b ≠ (μ i).blk -> w'.heap[b]? = w.heap[b]?) -> Rel W0 μ (h.set i o') w' := by
 have hob := r.obj i o hg
 cases o with
 | row cs =>
  obtain ⟨hb0, hb1, cur, e, fz, hh, hv, ht⟩ := hob
  have hcl : cur.size = cs.length := by simpa using hv.length
  refine ⟨cur, e, fz, hb0, hb1, hh, ?_, by simp [O.cells, hcl], ht, fun off xs o' cur' w' hp hs hv' hh' hb hsz' hk => ?_⟩
  ·simpa [O.cells, List.take_of_length_le (show cur.toList.length ≤ cs.length by simp [hcl])] using hv
  ·obtain ⟨ho, ho', hsz, hl, hfit, hcs⟩ := O.put_own hp
   refine r.set hg ho hsz hl hb hsz' hk ?_
   cases o' with
   | row cs1 =>
    refine ⟨hb0, hb1, cur', e, fz, hh', ?_, by rw [hs]; exact ht⟩
    simpa [O.cells, List.take_of_length_le (show cur'.toList.length ≤ cs.length by simp [hs, hcl])] using hv'
   | _ => simp [O.put] at hp
 | grow s cs =>
  obtain ⟨hb0, hb1, cur, e, fz, hh, hv, htot, ht⟩ := hob
  have hcl : cs.length ≤ cur.size := by have := hv.length; simp at this; omega
  refine ⟨cur, e, fz, hb0, hb1, hh, hv, hcl, ht, fun off xs o' cur' w' hp hs hv' hh' hb hsz' hk => ?_⟩
  obtain ⟨ho, ho', hsz, hl, hfit, hcs⟩ := O.put_own hp
  refine r.set hg ho hsz hl hb hsz' hk ?_
  cases o' with
  | grow s1 cs1 =>
   have e1 : cs1.length = cs.length := by simpa [O.len, O.cells] using hl.symm
   refine ⟨hb0, hb1, cur', e, fz, hh', ?_, by rw [hs]; exact htot, by rw [hs]; exact ht⟩
   rw [e1]
   exact hv'
  | _ => simp [O.put] at hp
 | _ => simp [O.rowish] at hro

theorem zfE {g : FuncId} (he : zaa P g = true) : ∀ args w, (callFunc g args).run P w = .ok (.enter g args) w := by
 obtain ⟨fn, hfn, hbody, hname⟩ := zdq he
 intro args w
 simp only [callFunc, Sem.run_bind, Sem.run_pure, Result.andThen_ok, run_program, hfn, hname, hbody, Bool.false_eq_true, if_false]

theorem Below.out {w w' : World} (b : Below w.heap.size w w') : ∃ q os, w' = Go.Sort.grow (w.drewN q) os := by
 refine ⟨w'.drawn - w.drawn, w'.heap.extract w.heap.size, ?_⟩
 have hh : w'.heap = w.heap ++ w'.heap.extract w.heap.size := by
  apply Array.ext_getElem?
  intro k
  have hs := b.size
  rw [Array.getElem?_append]
  split
  ·rename_i hk; exact b.block k hk
  ·rename_i hk
   rw [Array.getElem?_extract]
   by_cases h2 : k < w'.heap.size
   ·rw [if_pos (by omega), show w.heap.size + (k - w.heap.size) = k by omega]
   ·rw [if_neg (by omega), Array.getElem?_eq_none (by omega)]
 have hd := b.drawn
 have ho := b.os
 have ht := b.tape
 have hu := b.output
 cases w'
 simp only at hh hd ho ht hu ⊢
 unfold Go.Sort.grow World.drewN
 simp only [World.mk.injEq]
 exact ⟨hh, ht, by omega, ho, hu⟩

section
variable {α : Type} [Inhabited α]
theorem zb6 {enc : α -> Value} {B : Nat} {w : World} {blk off m : Nat} {dk : Array α} {os : Array Obj} (hB : B ≤ blk) (hw : B ≤ w.heap.size) : Below B w (Go.Sort.grow (Go.Sort.putRow enc (Go.Sort.ahead w m) blk off dk) os) ∧
  ∀ b, b < w.heap.size -> b ≠ blk -> (Go.Sort.grow (Go.Sort.putRow enc (Go.Sort.ahead w m) blk off dk) os).heap[b]? = w.heap[b]? := by
 have key : ∀ b, b < w.heap.size -> b ≠ blk -> (Go.Sort.grow (Go.Sort.putRow enc (Go.Sort.ahead w m) blk off dk) os).heap[b]? = w.heap[b]? := fun b hb hne => by
  rw [Go.Sort.heap_grow_old _ _ (by simpa using hb)]
  simp only [Go.Sort.putRow, Go.Sort.mapBlock, Array.getElem?_modify]
  rw [if_neg (fun e => hne e.symm)]; rfl
 exact ⟨⟨⟨rfl, rfl, rfl, by simp, fun k hk => key k (by omega) (by omega)⟩, by simp [Go.Sort.grow]⟩, key⟩
end

theorem zgZ {α : Type} {sz : Nat} : ∀ {es : List (List α)}, (∀ e ∈ es, e.length = sz) -> es.flatten.length = es.length * sz
 | [], _ => by simp
 | e :: es, h => by
  rw [List.flatten_cons, List.length_append, zgZ (fun x hx => h x (by simp [hx])), h e (by simp), List.length_cons, Nat.add_mul]; omega
theorem zh7 {α : Type} {sz : Nat} : ∀ {es : List (List α)} (_ : ∀ e ∈ es, e.length = sz) {k : Nat} (hk : k < es.length), (es.flatten.drop (k * sz)).take sz = es[k]
 | e :: es, h, 0, _ => by
  have := h e (by simp)
  simp [<- this]
 | e :: es, h, k + 1, hk => by
  have he := h e (by simp)
  rw [List.flatten_cons, Nat.add_mul, Nat.one_mul, List.drop_append, List.drop_of_length_le (by omega), List.nil_append, he, show k * sz + sz - sz = k * sz by omega]
  exact zh7 (fun x hx => h x (by simp [hx])) (by simpa using hk)
theorem zkb {α : Type} {sz : Nat} (h0 : 0 < sz) {es : List (List α)} (hs : ∀ e ∈ es, e.length = sz) {t : Nat} (ht : t < es.length * sz) (hd : t / sz < es.length) : es.flatten[t]? = es[t / sz][t % sz]? := by
 have := zh7 hs hd
 rw [<- this, List.getElem?_take, if_pos (Nat.mod_lt _ h0), List.getElem?_drop]
 congr 1
 have := Nat.div_add_mod t sz
 rw [Nat.mul_comm] at this; omega
theorem VRs.plain {μ μ' : Nat -> Pl} {h h' : H} {vs : List V} {cs : List Value} (hi : V.idss vs = []) (r : VRs μ h vs cs) : VRs μ' h' vs cs := by
 have := VRs.forth (σ := id) (μ' := μ') (h' := h') r (fun i h => by rw [hi] at h; cases h) (fun i h => by have := V.openss_ids vs i h; rw [hi] at this; cases this)
 rwa [V.rens_id (σ := id) vs (fun _ _ => rfl)] at this
theorem zdD {μ : Nat -> Pl} {h : H} {γ : Type} {f : γ -> List V} {f' : γ -> List Value} : ∀ (l : List γ), (∀ x ∈ l, VRs μ h (f x) (f' x)) -> VRs μ h (l.map f).flatten (l.map f').flatten
 | [], _ => VRs.nil
 | x :: l, hx => by
  simp only [List.map_cons, List.flatten_cons]
  exact (hx x (by simp)).append (zdD l fun y hy => hx y (by simp [hy]))

structure SortIn (h : H) (i n off k : Nat) (es : List (List V)) (o : O) : Prop where
 get : h.get i = some o
 row : o.rowish = true
 len : o.len = n
 fit : off + es.length * k ≤ o.cells.length
 here : (o.cells.drop off).take (es.length * k) = es.flatten
 size : ∀ e ∈ es, e.length = k
 one : ∀ e ∈ es, e.all V.one = true
theorem zj6 {o : O} (hr : o.rowish = true) {off : Nat} {xs : List V} (hf : off + xs.length ≤ o.cells.length) : ∃ o', o.put off xs = some o' := by
 cases o with
 | row cs => exact ⟨_, by simp only [zkD]; rw [if_pos (by simpa using hf)]⟩
 | grow s cs => exact ⟨_, by simp only [zh1]; rw [if_pos (by simpa using hf)]⟩
 | _ => simp [O.rowish] at hr

section
variable {β : Type} {F g : FuncId} {ρ : Go.Shelf.Ren} {h : H} {i n off k : Nat} {ca : Option Nat} {cap : List V}
open Go.Sort in
theorem zk3 (L : SlLaysF0.n6 P ρ) (hF : ρ.f 6 = F) (heF : zaa P F = true) (aE : ∀ w, (isAgg (ρ.t 24)).run P w = .ok true w) (zE : ∀ w, (Go.sizeOf (ρ.t 24)).run P w = .ok k w) (hk0 : 0 < k)
  {l : List β} {encV shV : β -> List V} {o : O} (S : SortIn h i n off k (l.map encV) o) {cmpB : β -> β -> Int} (hO : SWO (ltOf cmpB)) (hsh : ∀ x ∈ l, WeakL (encV x) (shV x)) (heg : zaa P g = true) (hcap : V.idss cap = []) (hsz : l.length < 4611686018427387904) (hpos : 0 < l.length)
  (hcmp : ∀ x ∈ l, ∀ y ∈ l, ∀ h', Pure P g ([.agg (shV x), .agg (shV y)] ++ cap) h' (.int .i64 (cmpB x y))) {Q : V -> H -> Prop}
  (q : ∀ (l' : List β) (o' : O), l'.Perm l -> l'.Pairwise (fun x y => ltOf cmpB y x = false) -> o.put off (l'.map encV).flatten = some o' -> Q (.tup []) (h.set i o')) :
  Acalls P F [.sl i n off l.length ca, .func (.func g) [] cap] h Q := by
 refine ⟨heF, fun W0 μ w cargs hr hv => ?_⟩
 obtain ⟨_, _, rfl, ⟨pl, ccap, rfl, hl1, hl2, _, rf, _⟩, _, _, rfl, ⟨cf', cc, rfl, hvf, hvc⟩, hnil⟩ := hv
 simp only [VRs] at hvf hnil
 subst hvf hnil
 obtain rfl := rf.at S.get S.len
 have hfit : off + l.length * k ≤ o.cells.length := by simpa using S.fit
 have hhere : (o.cells.drop off).take (l.length * k) = (l.map encV).flatten := by simpa using S.here
 obtain ⟨cur, e, fz, hb0, hb1, hh, hvs, hcl, ht, fin⟩ := hr.own S.get S.row
 let enc : Fin l.length -> List Value := fun j => (cur.toList.drop (off + j.1 * k)).take k
 have jk : ∀ j : Fin l.length, off + j.1 * k + k ≤ o.cells.length := fun j => by
  have := Nat.mul_le_mul_right k (show j.1 + 1 ≤ l.length from j.2)
  rw [Nat.add_mul] at this; omega
 have hk : ∀ x, (enc x).length = k := fun j => by have := jk j; simp [enc]; omega
 have hve : ∀ j : Fin l.length, VRs μ h (encV l[j]) (enc j) := fun j => by
  have e1 : encV l[j] = (o.cells.drop (off + j.1 * k)).take k := by
   have h2 := zff S.size (k := j.1) (by simp)
   have := Nat.mul_le_mul_right k (show j.1 + 1 ≤ l.length from j.2)
   rw [Nat.add_mul] at this
   have h3 : (((o.cells.drop off).take (l.length * k)).drop (j.1 * k)).take k = encV l[j] := by rw [hhere, h2]; simp
   rw [List.drop_take, List.take_take, List.drop_drop, Nat.min_eq_left (by omega)] at h3
   exact h3.symm
  have e2 : enc j = ((cur.toList.take o.cells.length).drop (off + j.1 * k)).take k := by
   have := jk j
   simp only [enc]
   rw [List.drop_take, List.take_take, Nat.min_eq_left (by omega)]
  rw [e1, e2]
  exact (hvs.drop _).take _
 have h1 : ∀ x, ∀ v ∈ enc x, v.oneCell' = true := fun j => (hve j).ones (S.one _ (List.mem_map.2 ⟨_, List.getElem_mem _, rfl⟩))
 haveI : Inhabited (Fin l.length) := ⟨⟨0, hpos⟩⟩
 let cf : Fin l.length -> Fin l.length -> Int := fun a b => cmpB l[a] l[b]
 have swo : SWO (ltOf cf) := ⟨fun x => hO.irrefl _, fun x y z => hO.trans _ _ _, fun x y z => hO.ntrans _ _ _⟩
 let d : Array (Fin l.length) := Array.ofFn id
 have hd : d.size = l.length := by simp [d]
 have hblk : (μ i).blk < w.heap.size := (Array.getElem?_eq_some_iff.1 hh).1
 have hcmpL : CmpLays P g cc.toArray enc k cf (μ i).blk off d.size w := by
  intro m os dk hs x y
  have hb := (zb6 (enc := id) (B := W0.heap.size) (w := w) (blk := (μ i).blk) (off := off) (m := m) (dk := flatK enc k dk) (os := os) hb0 hr.below.size).1
  have hW := Rel.empty (sortWorldK enc k w (μ i).blk off m dk os) (hr.glob.later (hr.below.trans hb))
  have hc := (hcmp l[x] (List.getElem_mem _) l[y] (List.getElem_mem _) ⟨0, fun _ => none⟩ (fun v _ => v = .int .i64 (cmpB l[x] l[y])) rfl).2 _ _ _ ([Value.agg (enc x).toArray, Value.agg (enc y).toArray] ++ cc) hW
   (VRs.cons (v := V.agg (shV l[x])) ⟨_, rfl, (hsh _ (List.getElem_mem _)).vrs (hve x)⟩ (VRs.cons (v := V.agg (shV l[y])) ⟨_, rfl, (hsh _ (List.getElem_mem _)).vrs (hve y)⟩ (hvc.plain hcap)))
  have ea : ([Value.agg (enc x).toArray, Value.agg (enc y).toArray] ++ cc).toArray = #[Value.agg (enc x).toArray, Value.agg (enc y).toArray] ++ cc.toArray := by simp
  rw [ea] at hc
  refine hc.mono ?_
  rintro e' w' ⟨v, cv, h', μ', rfl, rfl, hr', hv', _⟩
  have hv'' : cv = .int .i64 (cmpB l[x] l[y]) := hv'
  subst hv''
  exact ⟨rfl, hr'.below.out⟩
 have hH : HoldsK enc k w (μ i).blk off d := by
  intro t ht'
  rw [size_flatK, hd] at ht'
  have hdiv : t / k < l.length := Nat.div_lt_of_lt_mul (by rw [Nat.mul_comm]; exact ht')
  have hlt : off + t < cur.size := by omega
  rw [get_flatK _ _ _ t (by rw [hd]; exact ht')]
  have e1 : d[t / k]! = ⟨t / k, hdiv⟩ := by
   rw [getElem!_pos d (t / k) (by rw [hd]; exact hdiv)]
   simp [d]
  have hm : t % k < k := Nat.mod_lt _ hk0
  have e2 : (enc ⟨t / k, hdiv⟩)[t % k]! = cur[off + t] := by
   have : (enc ⟨t / k, hdiv⟩)[t % k]? = some cur[off + t] := by
    simp only [enc]
    rw [List.getElem?_take, if_pos hm, List.getElem?_drop]
    have h3 := Nat.div_add_mod t k
    rw [Nat.mul_comm] at h3
    rw [show off + t / k * k + t % k = off + t by omega]
    simp [hlt]
   rw [List.getElem!_eq_getElem?_getD, this]; rfl
  rw [e1, e2]
  refine ⟨?_, zcy hh ht hlt⟩
  simp [World.cell?, hh, hlt]
 have C := AnyQ.slices_SortFunc L k aE zE enc hk h1 cf swo g cc.toArray (μ i).blk off ccap d w (zfE heg) hcmpL hH hblk (by rw [hd]; exact hsz)
 rw [hd, hF] at C
 rw [hb1, Nat.zero_add]
 refine C.mono ?_
 rintro e' w' ⟨rfl, d', m, os, ⟨hs', _, hp⟩, hsorted, rfl⟩
 have hs2 : d'.size = l.length := by rw [hs', hd]
 obtain ⟨l', hl'⟩ : ∃ l' : List β, l' = d'.toList.map fun j => l[j] := ⟨_, rfl⟩
 have hperm : l'.Perm l := by
  have ex : ∀ {γ : Type} (a : Array γ) (t : Nat), a.size = t -> a.extract 0 t = a := fun a t ht => by subst ht; simp
  have e1 := ex d' _ hs2
  have e2 := ex d _ hd
  rw [e1, e2] at hp
  have h3 := hp.map fun j : Fin l.length => l[j]
  have e3 : (d.toList.map fun j : Fin l.length => l[j]) = l := List.ext_getElem (by simp [d]) fun t h1 h2 => by simp [d]
  rw [e3] at h3
  rw [hl']; exact h3
 have hpair : l'.Pairwise (fun x y => ltOf cmpB y x = false) := by
  rw [hl', List.pairwise_iff_getElem]
  intro a b ha hb hab
  simp only [List.length_map, Array.length_toList] at ha hb
  have := hsorted a b (Nat.zero_le _) hab (by omega)
  rw [getElem!_pos d' a ha, getElem!_pos d' b hb] at this
  simp only [List.getElem_map, Array.getElem_toList]
  exact this
 have hfl : (l'.map encV).flatten.length = l.length * k := by
  rw [zaF (sz := k) (fun e he => by
   obtain ⟨x, hx, rfl⟩ := List.mem_map.1 he
   exact S.size _ (List.mem_map.2 ⟨x, hperm.subset hx, rfl⟩))]
  simp [hperm.length_eq]
 obtain ⟨o', ho'⟩ := zj6 S.row (off := off) (xs := (l'.map encV).flatten) (by rw [hfl]; exact hfit)
 obtain ⟨_, _, p3, p4, _, p6⟩ := O.put_own ho'
 have x : Ext μ h μ (h.set i o') := Ext.set S.get p3 p4
 refine ⟨.tup [], .tuple #[], h.set i o', μ, rfl, q l' o' hperm hpair ho', ?_, ⟨[], rfl, VRs.nil⟩, x⟩
 have hpb := zb6 (enc := id) (B := W0.heap.size) (w := w) (blk := (μ i).blk) (off := off) (m := m) (dk := flatK enc k d') (os := os) hb0 hr.below.size
 refine fin off _ o' (Go.Sort.putCells id off (flatK enc k d') cur) _ ho' (by simp [Go.Sort.putCells]) ?_ ?_ (hr.below.trans hpb.1) hpb.1.size hpb.2
 ·have hl2 : ∀ e ∈ d'.toList.map enc, e.length = k := fun e he => by
   obtain ⟨x, _, rfl⟩ := List.mem_map.1 he
   exact hk x
  have key : (Go.Sort.putCells id off (flatK enc k d') cur).toList.take o.cells.length = (cur.toList.take o.cells.length).take off ++ (d'.toList.map enc).flatten ++ (cur.toList.take o.cells.length).drop (off + l.length * k) := by
   have hfl2 : (d'.toList.map enc).flatten.length = l.length * k := by rw [zgZ hl2]; simp [hs2]
   apply List.ext_getElem?
   intro t
   simp only [Go.Sort.putCells, List.append_assoc, List.getElem?_take, List.getElem?_append, List.length_take, List.getElem?_drop, Array.length_toList, Array.getElem?_toList, Array.getElem?_mapIdx, size_flatK, hs2, hfl2]
   have m1 : min off (min o.cells.length cur.size) = off := by omega
   rw [m1]
   by_cases a0 : t < o.cells.length
   ·have a1 : t < cur.size := by omega
    rw [if_pos a0, Array.getElem?_eq_getElem a1, Option.map_some]
    by_cases a2 : t < off
    ·rw [if_neg (by omega), if_pos a2, if_pos a2, if_pos a0]
    ·rw [if_neg a2]
     by_cases a3 : t - off < l.length * k
     ·have hdiv : (t - off) / k < l.length := Nat.div_lt_of_lt_mul (by rw [Nat.mul_comm]; exact a3)
      rw [if_pos ⟨by omega, by omega⟩, if_pos a3, get_flatK _ _ _ _ (by rw [hs2]; exact a3), zkb hk0 hl2 (by simpa [hs2] using a3) (by simpa [hs2] using hdiv)]
      rw [getElem!_pos d' _ (by rw [hs2]; exact hdiv)]
      have hm : (t - off) % k < (enc (d'[(t - off) / k]'(by rw [hs2]; exact hdiv))).length := by rw [hk]; exact Nat.mod_lt _ hk0
      simp only [List.getElem_map, Array.getElem_toList, id]
      rw [List.getElem!_eq_getElem?_getD, List.getElem?_eq_getElem hm]
      rfl
     ·rw [if_neg (by omega), if_neg a3, show off + l.length * k + (t - off - l.length * k) = t by omega, if_pos a0]
      simp [a1]
   ·rw [if_neg a0, if_neg (by omega), if_neg (by omega), if_neg (by omega)]
  rw [key, p6]
  show VRs _ _ (_ ++ _ ++ _) _
  rw [hfl]
  refine VRs.ext x _ _ (((hvs.take off).append ?_).append (hvs.drop _))
  rw [hl', List.map_map]
  exact zdD _ fun j _ => hve j
 ·unfold sortWorldK
  rw [heap_grow_old _ _ (by simp [putRowK]; exact hblk)]
  simp [putRowK, Go.Sort.putRow, mapBlock, Array.getElem?_modify, hh, onCells]
end
end Go.Am
