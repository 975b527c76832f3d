/-
 AM, PART 3. What one operation does to the abstract heap, the machine does to the world.
-/
import Derived.Test.YtpgcodeckphanaaGreatDoorIAm2
namespace Go.Am

variable {P : Program} {W0 : World} {μ : Nat -> Pl} {h : H} {w : World}

def OpOk (W0 : World) (μ : Nat -> Pl) (h : H) (k : Nat) (w : World) (r : Result Next) (v : V) (d : D) : Prop :=
 ∃ nx cv w' μ', r = .ok nx w' ∧ (nx = .value cv ∨ (nx = .skip ∧ cv = undef)) ∧ Rel W0 μ' (h.appAt k d) w' ∧ VR μ' (h.appAt k d) v cv ∧ Ext μ h μ' (h.appAt k d) ∧ (d = .keep -> w' = w ∧ μ' = μ)

theorem OpOk.keep {k : Nat} {r : Result Next} {v : V} {cv : Value} (hr : Rel W0 μ h w) (e : r = .ok (.value cv) w) (hv : VR μ h v cv) : OpOk W0 μ h k w r v .keep :=
 ⟨_, cv, w, μ, e, .inl rfl, hr, hv, Ext.refl _ _, fun _ => ⟨rfl, rfl⟩⟩

theorem zaE {o : Option V} {v : V} {d : D} (e : zam o = some (v, d)) : o = some v ∧ d = .keep := by
 cases o with
 | none => simp [zam] at e
 | some x => simp only [zam, Option.some.injEq, Prod.mk.injEq] at e; exact ⟨by rw [e.1], e.2.symm⟩

theorem zc5 {t : TypeId} {n : Nat} (e : szOf P t = some n) : ∃ i, P.info? t = some i ∧ i.size = n := by
 unfold szOf at e
 cases hi : P.info? t with
 | none => simp [hi] at e
 | some i => simp [hi] at e; exact ⟨i, rfl, e⟩
theorem zau {t : TypeId} {n : Nat} (e : szOf P t = some n) : (sizeOf t).run P w = .ok n w := by
 obtain ⟨i, hi, rfl⟩ := zc5 e
 simp [sizeOf, typeInfo, hi]
theorem zcm {t : TypeId} {b : Bool} (e : zcD P t = some b) : (isAgg t).run P w = .ok b w := by
 unfold zcD at e
 cases hu : P.underlying t with
 | none => simp [hu] at e
 | some d =>
  simp only [hu, Option.map_some, Option.some.injEq] at e
  simp only [isAgg, Sem.run_bind, run_underlying hu, Result.andThen_ok]
  cases d <;> simp_all

theorem VR.one_cells {v : V} {c : Value} (r : VR μ h v c) (h1 : v.one = true) : c.cells = #[c] ∧ c.oneCell' = true := by
 cases v <;> simp only [V.one, Bool.false_eq_true] at h1 <;> simp only [VR] at r
 all_goals first
  | (subst r; exact ⟨rfl, rfl⟩)
  | (obtain ⟨_, rfl, _⟩ := r; exact ⟨rfl, rfl⟩)
  | (obtain ⟨_, _, rfl, _⟩ := r; exact ⟨rfl, rfl⟩)
  | (obtain ⟨_, _, _, rfl, _⟩ := r; exact ⟨rfl, rfl⟩)
  | (cases c <;> first | exact ⟨rfl, r⟩ | exact absurd r (by simp [Value.oneCell']))
theorem VRs.ones {vs : List V} {cs : List Value} (r : VRs μ h vs cs) (h1 : vs.all V.one = true) : ∀ c ∈ cs, c.oneCell' = true := by
 induction vs generalizing cs with
 | nil => simp only [VRs] at r; subst r; simp
 | cons v vs ih =>
  obtain ⟨c, cs', rfl, r1, r2⟩ := r
  simp only [List.all_cons, Bool.and_eq_true] at h1
  intro x hx
  cases hx with
  | head => exact (r1.one_cells h1.1).2
  | tail _ hx => exact ih r2 h1.2 x hx
theorem VR.solid_cells {v : V} {c : Value} (r : VR μ h v c) (hs : v.solid = true) : VRs μ h v.cells c.cells.toList ∧ ∀ x ∈ c.cells.toList, x.oneCell' = true := by
 by_cases ha : v.one = true
 ·have h1 := r.one_cells ha
  rw [h1.1]
  have hc : v.cells = [v] := by cases v <;> first | rfl | (simp [V.one] at ha)
  rw [hc]
  exact ⟨.cons r VRs.nil, by simpa using h1.2⟩
 ·cases v with
  | agg cs =>
   obtain ⟨cc, rfl, r2⟩ := r
   exact ⟨by simpa [V.cells, Value.cells] using r2, by simpa [Value.cells] using r2.ones (by simpa [V.solid] using hs)⟩
  | tup _ => simp [V.solid] at hs
  | dead => simp [V.solid] at hs
  | _ => simp [V.one] at ha

theorem zgY {c : Value} {v : V} (e : zca c = some v) : VR μ h v c := by
 unfold zca at e
 split at e <;> simp at e <;> subst e <;> simp [VR]
theorem ziP {c : Value} {v : V} (e : zca c = some v) : v.one = true := by
 unfold zca at e
 split at e <;> simp at e <;> subst e <;> rfl
theorem zfh : ∀ {cs : List Value} {vs : List V}, cs.mapM zca = some vs -> VRs μ h vs cs
 | [], vs, e => by simp at e; subst e; exact VRs.nil
 | c :: cs, vs, e => by
  simp only [List.mapM_cons, Option.bind_eq_bind, Option.pure_def] at e
  cases h1 : zca c with
  | none => simp [h1] at e
  | some v =>
   cases h2 : cs.mapM zca with
   | none => simp [h1, h2] at e
   | some vs' => simp [h1, h2] at e; subst e; exact .cons (zgY h1) (zfh h2)
theorem zfz : ∀ {cs : List Value} {vs : List V}, cs.mapM zca = some vs -> vs.all V.one = true
 | [], vs, e => by simp at e; subst e; rfl
 | c :: cs, vs, e => by
  simp only [List.mapM_cons, Option.bind_eq_bind, Option.pure_def] at e
  cases h1 : zca c with
  | none => simp [h1] at e
  | some v =>
   cases h2 : cs.mapM zca with
   | none => simp [h1, h2] at e
   | some vs' => simp [h1, h2] at e; subst e; simp [ziP h1, zfz h2]
theorem zfD {c : Value} {v : V} (e : zeQ c = some v) : VR μ h v c := by
 unfold zeQ at e
 split at e
 ·rename_i cs
  cases h1 : cs.toList.mapM zca with
  | none => simp [h1] at e
  | some vs => simp [h1] at e; subst e; exact ⟨cs.toList, by simp, zfh h1⟩
 ·rename_i vs
  split at e
  ·rename_i h0; simp at e; subst e; exact ⟨[], by congr 1; exact Array.eq_empty_of_size_eq_zero h0, VRs.nil⟩
  ·cases e
 ·exact zgY e

theorem zbb {t : TypeId} {zs : List V} (e : zcH P t = some zs) : ∃ i z, P.info? t = some i ∧ i.zero = some z ∧ z.cells.size = i.size ∧ VRs μ h zs z.cells.toList ∧ zs.all V.one = true ∧ zs.length = i.size := by
 unfold zcH at e
 cases hi : P.info? t with
 | none => simp [hi] at e
 | some i =>
  cases hz : i.zero with
  | none => simp [hi, hz] at e
  | some z =>
   simp only [hi, hz, Option.bind_some] at e
   split at e
   ·rename_i hs
    have hv := zfh (μ := μ) (h := h) e
    exact ⟨i, z, rfl, hz, hs, hv, zfz e, by rw [<- hv.length, <- hs]; simp⟩
   ·cases e

theorem Rel.cell (r : Rel W0 μ h w) {i : Nat} {o : O} (hg : h.get i = some o) {k : Nat} {v : V} (hk : o.cells[k]? = some v) :
  ∃ c, w.cell? ⟨(μ i).blk, (μ i).base + k, none⟩ = some c ∧ VR μ h v c := by
 have ho := r.obj i o hg
 cases o with
 | row cs =>
  obtain ⟨_, h1, cur, e, fz, hh, hv, _⟩ := ho
  obtain ⟨c, hc, hr⟩ := hv.get hk
  refine ⟨c, ?_, hr⟩
  rw [h1, cell_of_row w _ _ cur e fz hh]
  simpa using hc
 | grow s cs =>
  obtain ⟨_, h1, cur, e, fz, hh, hv, _, _⟩ := ho
  obtain ⟨c, hc, hr⟩ := hv.get hk
  refine ⟨c, ?_, hr⟩
  rw [h1, cell_of_row w _ _ cur e fz hh]
  rw [List.getElem?_take] at hc
  split at hc
  ·simpa using hc
  ·cases hc
 | ro cs =>
  obtain ⟨_, cc, hv, hc⟩ := ho
  obtain ⟨c, h2, hr⟩ := hv.get hk
  exact ⟨c, hc k c h2, hr⟩
 | mapo _ _ _ => simp [O.cells] at hk
 | miter _ _ _ _ => simp [O.cells] at hk
 | loopo _ => simp [O.cells] at hk
 | defo _ => simp [O.cells] at hk

theorem Rel.read (r : Rel W0 μ h w) {i : Nat} {o : O} (hg : h.get i = some o) (off : Nat) :
  ∀ (n : Nat), off + n ≤ o.cells.length -> ∃ cc : List Value, cc.length = n ∧ VRs μ h ((o.cells.drop off).take n) cc ∧ ∀ j c, cc[j]? = some c -> w.cell? ⟨(μ i).blk, (μ i).base + off + j, none⟩ = some c := by
 intro n
 induction n generalizing off with
 | zero => intro _; exact ⟨[], rfl, by simp [VRs], by simp⟩
 | succ n ih =>
  intro hl
  have hlt : off < o.cells.length := by omega
  obtain ⟨c, hc, hv⟩ := r.cell hg (k := off) (v := o.cells[off]) (List.getElem?_eq_getElem hlt)
  obtain ⟨cc, h1, h2, h3⟩ := ih (off + 1) (by omega)
  refine ⟨c :: cc, by simp [h1], ?_, ?_⟩
  ·rw [List.drop_eq_getElem_cons hlt, List.take_succ_cons]
   exact .cons hv h2
  ·intro j d hd
   cases j with
   | zero => simp at hd; subst hd; simpa using hc
   | succ j => simp at hd; have := h3 j d hd; rw [show (μ i).base + off + (j + 1) = (μ i).base + (off + 1) + j from by omega]; exact this

theorem Rel.cellG (r : Rel W0 μ h w) {g : Nat} {cs : List V} (hg : GT.lookup g = some cs) {k : Nat} {v : V} (hk : cs[k]? = some v) : ∃ c, w.cell? ⟨g, k, none⟩ = some c ∧ VR μ h v c := by
 obtain ⟨h1, h2⟩ := r.glob g cs hg
 obtain ⟨c, h3, h4⟩ := h2 k v hk
 exact ⟨c, by rw [World.cell?_of_block (w := W0) (r.below.block g h1)]; exact h3, h4 _ _⟩
theorem Rel.readG (r : Rel W0 μ h w) {g : Nat} {cs : List V} (hg : GT.lookup g = some cs) (off : Nat) :
  ∀ (n : Nat), off + n ≤ cs.length -> ∃ cc : List Value, cc.length = n ∧ VRs μ h ((cs.drop off).take n) cc ∧ ∀ j c, cc[j]? = some c -> w.cell? ⟨g, off + j, none⟩ = some c := by
 intro n
 induction n generalizing off with
 | zero => intro _; exact ⟨[], rfl, by simp [VRs], by simp⟩
 | succ n ih =>
  intro hl
  have hlt : off < cs.length := by omega
  obtain ⟨c, hc, hv⟩ := r.cellG hg (k := off) (v := cs[off]) (List.getElem?_eq_getElem hlt)
  obtain ⟨cc, h1, h2, h3⟩ := ih (off + 1) (by omega)
  refine ⟨c :: cc, by simp [h1], ?_, ?_⟩
  ·rw [List.drop_eq_getElem_cons hlt, List.take_succ_cons]
   exact .cons hv h2
  ·intro j d hd
   cases j with
   | zero => simp at hd; subst hd; simpa using hc
   | succ j => simp at hd; have := h3 j d hd; rw [show off + (j + 1) = (off + 1) + j from by omega]; exact this

theorem Ref.at {i n : Nat} {pl : Pl} (r : Ref μ h i n pl) {o : O} (hg : h.get i = some o) (hn : o.len = n) : pl = μ i := by
 obtain ⟨o', ho', _, hm⟩ := r
 rw [hg] at ho'; cases ho'
 exact (hm hn).symm

theorem Addr.add_off (b o n : Nat) : (⟨b, o, none⟩ : Addr).add n = ⟨b, o + n, none⟩ := by
 unfold Addr.add; split <;> simp_all

theorem zcW {get : Nat -> Option O} {i n : Nat} {cs : List V} (e : zab get i n = some cs) : ∃ o, get i = some o ∧ o.len = n ∧ o.cells = cs := by
 unfold zab at e
 split at e
 ·rename_i o ho
  split at e
  ·simp at e; exact ⟨o, ho, by assumption, e⟩
  ·cases e
 ·cases e

theorem zkC (hr : Rel W0 μ h w) {t : TypeId} {agg : Bool} {n : Nat} (ha : zcD P t = some agg) (hs : szOf P t = some n) {a v : V} {ca : Value} (hv : VR μ h a ca)
  (hx : zdj h.get agg n a = some v) : ∃ cv, (Instr.loadAt t ca).run P w = .ok cv w ∧ VR μ h v cv := by
 unfold zdj at hx
 split at hx
 ·rename_i i m off
  obtain ⟨pl, rfl, rf⟩ := hv
  split at hx
  ·rename_i cs hcs
   obtain ⟨o, ho, hn, rfl⟩ := zcW hcs
   obtain rfl := rf.at ho hn
   cases agg with
   | true =>
    simp only [if_true] at hx
    split at hx
    ·rename_i hl
     simp only [Option.some.injEq] at hx; subst hx
     obtain ⟨cc, h1, h2, h3⟩ := hr.read ho off n hl
     refine ⟨.agg cc.toArray, ?_, cc, rfl, h2⟩
     have hrd := run_loadCells_list (P := P) w ⟨(μ i).blk, (μ i).base + off, none⟩ cc (fun j c hj => by rw [Addr.add_off]; exact h3 j c hj)
     rw [h1] at hrd
     simp [Instr.loadAt, Instr.sureAddr, loadVar, zcm ha, zau hs, hrd]
    ·cases hx
   | false =>
    simp only [Bool.false_eq_true, if_false] at hx
    obtain ⟨c, hc, hv⟩ := hr.cell ho hx
    refine ⟨c, ?_, hv⟩
    simp [Instr.loadAt, Instr.sureAddr, loadVar, zcm ha, hc]
  ·cases hx
 ·rename_i g off
  simp only [VR] at hv
  subst hv
  split at hx
  ·rename_i cs hcs
   cases agg with
   | true =>
    simp only [if_true] at hx
    split at hx
    ·rename_i hl
     simp only [Option.some.injEq] at hx; subst hx
     obtain ⟨cc, h1, h2, h3⟩ := hr.readG hcs off n hl
     refine ⟨.agg cc.toArray, ?_, cc, rfl, h2⟩
     have hrd := run_loadCells_list (P := P) w ⟨g, off, none⟩ cc (fun j c hj => by rw [Addr.add_off]; exact h3 j c hj)
     rw [h1] at hrd
     simp [Instr.loadAt, Instr.sureAddr, loadVar, zcm ha, zau hs, hrd]
    ·cases hx
   | false =>
    simp only [Bool.false_eq_true, if_false] at hx
    obtain ⟨c, hc, hv⟩ := hr.cellG hcs hx
    refine ⟨c, ?_, hv⟩
    simp [Instr.loadAt, Instr.sureAddr, loadVar, zcm ha, hc]
  ·cases hx
 ·cases hx

theorem zcy {w : World} {b : Nat} {cur : Array Value} {e : TypeId} {fz : Nat × Nat} (hh : w.heap[b]? = some (.cells cur e fz)) (ht : zfd fz cur.size) {k : Nat} (hk : k < cur.size) :
  w.frozen? ⟨b, k, none⟩ = false := by
 simp only [World.frozen?, hh]
 exact ht k hk

theorem zhu {w : World} {b k : Nat} {cur : Array Value} {e : TypeId} {fz : Nat × Nat} (hh : w.heap[b]? = some (.cells cur e fz)) (v : Value) :
  (w.setCell ⟨b, k, none⟩ v) = w.setRow b (cur.setIfInBounds k v) := by
 unfold World.setCell World.setRow
 congr 1
 apply Array.ext_getElem?
 intro j
 simp only [Array.getElem?_modify]
 by_cases hj : b = j
 ·subst hj; simp [hh]
 ·simp [hj]

theorem zid {α : Type} (L : List α) (k : Nat) (v : α) (rest : List α) (hk : k < L.length) :
  (L.set k v).take (k + 1) ++ rest ++ (L.set k v).drop (k + 1 + rest.length) = L.take k ++ v :: rest ++ L.drop (k + (rest.length + 1)) := by
 have e1 : (L.set k v).take (k + 1) = L.take k ++ [v] := by
  rw [List.take_succ_eq_append_getElem (by simpa using hk)]
  simp [List.take_set_of_le]
 have e2 : (L.set k v).drop (k + 1 + rest.length) = L.drop (k + (rest.length + 1)) := by
  rw [List.drop_set_of_lt (by omega)]
  congr 1
  omega
 rw [e1, e2]
 simp

theorem zaP (P : Program) (b e : Nat) (fz : Nat × Nat) : ∀ (vs : List Value) (o i : Nat) (cur : Array Value) (w : World), w.heap[b]? = some (.cells cur e fz) -> zfd fz cur.size -> o + i + vs.length ≤ cur.size -> (∀ v ∈ vs, v.oneCell' = true) ->
  (storeCells ⟨b, o, none⟩ vs i).run P w = .ok () (w.setRow b (cur.toList.take (o + i) ++ vs ++ cur.toList.drop (o + i + vs.length)).toArray)
 | [], o, i, cur, w, hg, _, _, _ => by
  simp only [storeCells, List.append_nil, List.length_nil, Nat.add_zero, List.take_append_drop, Array.toArray_toList]
  rw [setRow_self w b cur e fz hg]
  rfl
 | v :: rest, o, i, cur, w, hg, ht, hl, h1 => by
  have hi : o + i < cur.size := by simp at hl; omega
  have hc : w.cell? ⟨b, o + i, none⟩ = some cur[o + i] := by rw [cell_of_row w b (o + i) cur e fz hg]; simp [hi]
  have hf : w.frozen? ⟨b, o + i, none⟩ = false := zcy hg ht hi
  have hone : v.oneCell' = true := h1 v (by simp)
  have hset := zhu (k := o + i) hg v
  have hrow := setRow_heap w b cur (cur.setIfInBounds (o + i) v) e fz hg
  have ih := zaP P b e fz rest o (i + 1) (cur.setIfInBounds (o + i) v) (w.setRow b (cur.setIfInBounds (o + i) v)) hrow (by simpa using ht) (by simp at hl ⊢; omega) (fun x hx => h1 x (by simp [hx]))
  simp only [storeCells, Sem.run_bind, Addr.add_off, run_store P w _ v _ hone, hc, hf, Bool.false_eq_true, if_false, Result.andThen_ok, hset, ih]
  rw [setRow_setRow]
  congr 3
  have := zid cur.toList (o + i) v rest (by simpa using hi)
  simp only [Array.toList_setIfInBounds, List.length_cons, <- Nat.add_assoc] at this ⊢
  exact this

theorem zcS {B : Nat} {a w : World} (hb : Below B a w) {g : Nat} (hg : B ≤ g) (cs : Array Value) : Below B a (w.setRow g cs) :=
 hb.trans ⟨⟨rfl, rfl, rfl, by simp, fun k hk => setRow_other w g k cs (by omega)⟩, Nat.le_refl _⟩

theorem O.put_own {o o' : O} {off : Nat} {xs : List V} (e : o.put off xs = some o') : o.own = true ∧ o'.own = true ∧ o.sz = o'.sz ∧ o.len = o'.len ∧ off + xs.length ≤ o.cells.length ∧ o'.cells = putCells o.cells off xs := by
 unfold O.put at e
 split at e <;> first | (split at e <;> first | (simp at e; subst e; refine ⟨rfl, rfl, rfl, ?_, by assumption, rfl⟩; simp [O.len, O.cells, putCells]; omega) | cases e) | cases e

theorem zhV (hr : Rel W0 μ h w) {i : Nat} {o o' : O} {off : Nat} {xs : List V} {cs : List Value} (hg : h.get i = some o) (hp : o.put off xs = some o') (hv : VRs μ h xs cs) (h1 : ∀ c ∈ cs, c.oneCell' = true) (pl : Pl) (hpl : pl = μ i) :
  ∃ w', (storeCells ⟨pl.blk, pl.base + off, none⟩ cs).run P w = .ok () w' ∧ Rel W0 μ (h.set i o') w' ∧ Ext μ h μ (h.set i o') := by
 obtain ⟨ho, ho', hsz, hl, hfit, hcs⟩ := O.put_own hp
 subst hpl
 have hob := hr.obj i o hg
 have hlen := hv.length
 have x : Ext μ h μ (h.set i o') := Ext.set hg hsz hl
 have hv' := hv.ext x
 cases o with
 | row cs0 =>
  obtain ⟨hb0, hb1, cur, e, fz, hh, hvs, ht⟩ := hob
  have hcl : cur.size = cs0.length := by have := hvs.length; simpa using this
  simp only [O.cells] at hfit
  have hst := zaP P (μ i).blk e fz cs ((μ i).base + off) 0 cur w hh ht (by rw [hb1]; omega) h1
  refine ⟨_, hst, ?_, x⟩
  cases o' with
  | row cs1 =>
   simp only [O.cells] at hcs
   subst hcs
   refine hr.set hg ho hsz hl (zcS hr.below hb0 _) (by simp) (fun b _ hne => setRow_other w _ b _ hne) ⟨hb0, hb1, _, e, fz, setRow_heap w _ cur _ e fz hh, ?_, ?_⟩
   ·have hvs' := hvs.ext x
    simp only [hb1, Nat.zero_add, Nat.add_zero, putCells]
    rw [hlen]
    exact (((hvs'.take off).append hv').append (hvs'.drop (off + xs.length)))
   ·have : ((cur.toList.take ((μ i).base + off + 0) ++ cs ++ cur.toList.drop ((μ i).base + off + 0 + cs.length)).toArray).size = cur.size := by
     simp [hb1]; omega
    rw [this]; exact ht
  | _ => simp [O.put] at hp
 | grow s cs0 =>
  obtain ⟨hb0, hb1, cur, e, fz, hh, hvs, htot, ht⟩ := hob
  have hcl : cs0.length ≤ cur.size := by have := hvs.length; simp at this; omega
  simp only [O.cells] at hfit
  have hst := zaP P (μ i).blk e fz cs ((μ i).base + off) 0 cur w hh ht (by rw [hb1]; omega) h1
  refine ⟨_, hst, ?_, x⟩
  cases o' with
  | grow s1 cs1 =>
   simp only [O.cells] at hcs
   subst hcs
   have hsize : ((cur.toList.take ((μ i).base + off + 0) ++ cs ++ cur.toList.drop ((μ i).base + off + 0 + cs.length)).toArray).size = cur.size := by
    simp [hb1]; omega
   refine hr.set hg ho hsz hl (zcS hr.below hb0 _) (by simp) (fun b _ hne => setRow_other w _ b _ hne) ⟨hb0, hb1, _, e, fz, setRow_heap w _ cur _ e fz hh, ?_, ?_, ?_⟩
   ·have hvs' := hvs.ext x
    simp only [hb1, Nat.zero_add, Nat.add_zero]
    rw [hlen]
    have e1 : (putCells cs0 off xs).length = cs0.length := by simp [putCells]; omega
    rw [e1]
    have e2 : (cur.toList.take off ++ cs ++ cur.toList.drop (off + xs.length)).take cs0.length = (cur.toList.take cs0.length).take off ++ cs ++ (cur.toList.take cs0.length).drop (off + xs.length) := by
     apply List.ext_getElem?
     intro j
     simp only [List.append_assoc, List.getElem?_take, List.getElem?_append, List.length_take, List.getElem?_drop, Array.length_toList]
     have m1 : min off cur.size = off := by omega
     have m2 : min off (min cs0.length cur.size) = off := by omega
     rw [m1, m2]
     by_cases a0 : j < cs0.length
     ·simp only [a0, if_true]
      split
      ·rfl
      ·split
       ·rfl
       ·rw [if_pos (by omega)]
     ·simp only [a0, if_false]
      rw [if_neg (by omega), if_neg (by omega), if_neg (by omega)]
    show VRs _ _ _ (List.take cs0.length (cur.toList.take off ++ cs ++ cur.toList.drop (off + xs.length)))
    rw [e2]
    exact (((hvs'.take off).append hv').append (hvs'.drop (off + xs.length)))
   ·rw [hsize]; exact htot
   ·rw [hsize]; exact ht
  | _ => simp [O.put] at hp
 | _ => simp [O.put] at hp

theorem zlK {k : Nat} (hr : Rel W0 μ h w) {t : TypeId} {n : Nat} (hs : szOf P t = some n) {a x : V} {ca cx : Value} (hva : VR μ h a ca) (hvx : VR μ h x cx) {d : D}
  (hx : zdF h.get n a x = some d) : ∃ w', (Instr.storeAt t ca cx).run P w = .ok () w' ∧ Rel W0 μ (h.appAt k d) w' ∧ Ext μ h μ (h.appAt k d) ∧ d ≠ .keep := by
 unfold zdF at hx
 split at hx
 ·rename_i hsol
  simp only [Bool.and_eq_true, beq_iff_eq] at hsol
  split at hx
  ·rename_i i m off
   obtain ⟨pl, rfl, rf⟩ := hva
   split at hx
   ·rename_i o ho
    split at hx
    ·rename_i hn
     cases hp : o.put off x.cells with
     | none => simp [hp] at hx
     | some o' =>
      simp only [hp, Option.map_some, Option.some.injEq] at hx
      subst hx
      obtain ⟨hvc, h1⟩ := hvx.solid_cells hsol.1
      obtain ⟨w', hst, hrel, x⟩ := zhV (P := P) hr ho hp hvc h1 pl (rf.at ho hn)
      refine ⟨w', ?_, hrel, x, by simp⟩
      have hsz : cx.cells.size = n := by rw [<- hsol.2, <- hvc.length]; simp
      simp [Instr.storeAt, Instr.sureAddr, storeVar, zau hs, hsz, hst]
    ·cases hx
   ·cases hx
  ·cases hx
 ·cases hx

theorem zl9 (hr : Rel W0 μ h w) {k : Nat} (hk : h.get k = none) {cs : List V} {cc : List Value} (hv : VRs μ h cs cc) (e : TypeId) :
  Rel W0 (upd μ k ⟨w.heap.size, 0, 0⟩) (h.pushAt k (.row cs)) (w.alloc (.cells cc.toArray e)) := by
 refine hr.push hk rfl (hr.below.alloc hr.below.size _) (by simp) (fun b hb => Below.heap_alloc w _ b hb) ⟨?_, by simp, cc.toArray, e, (0, 0), ?_, ?_, ?_⟩
 ·simp only [zaK]; exact hr.below.size
 ·simp only [zaK]; exact heap_alloc_new w _
 ·simpa using hv.ext (Ext.push hk _ _)
 ·intro k _; simp
theorem zcx {k n : Nat} {o : O} {pl : Pl} (hn : o.len = n) : Ref (upd μ k pl) (h.pushAt k o) k n pl :=
 ⟨o, by rw [H.get_pushAt, if_pos rfl], by omega, fun _ => by simp⟩
theorem zg8 (hr : Rel W0 μ h w) {k : Nat} (hk : h.get k = none) {sz : Nat} {cs : List V} {cc : List Value} {cur : Array Value} (hv : VRs μ h cs cc) (hcur : cur.toList.take cs.length = cc) (e : TypeId) (fz : Nat × Nat) (ht : zfd fz cur.size) :
  Rel W0 (upd μ k ⟨w.heap.size, 0, cur.size⟩) (h.pushAt k (.grow sz cs)) (w.alloc (.cells cur e fz)) := by
 refine hr.push hk rfl (hr.below.alloc hr.below.size _) (by simp) (fun b hb => Below.heap_alloc w _ b hb) ⟨?_, by simp, cur, e, fz, ?_, ?_, ?_, ht⟩
 ·simp only [zaK]; exact hr.below.size
 ·simp only [zaK]; exact heap_alloc_new w _
 ·rw [hcur]; exact hv.ext (Ext.push hk _ _)
 ·simp
end Go.Am
