/-
  AM, PART 39. slices.SortFunc over the abstract heap at elements of one cell, out of the kit's contract.
-/
import Derived.Test.YtfbmffkgphgoaaaGreatDoorAm32
namespace Go.Am
open Go.Proofs

variable {P : Program} {β : Type} {F g : FuncId} {ρ : Go.Shelf.Ren} {h : H} {i n off : Nat} {ca : Option Nat} {cap : List V}
theorem VR.one_plain {μ μ' : Nat → Pl} {h h' : H} {v : V} {c : Value} (hi : v.ids = []) (r : VRs μ h [v] [c]) : VR μ' h' v c := by
  obtain ⟨c', cs', e, r1, r2⟩ := r
  simp only [VRs] at r2
  subst r2
  simp only [List.cons.injEq, and_true] at e
  subst e
  exact r1.plain hi
open Go.Sort in
/-- slices.SortFunc AT ONE CELL. -/
theorem sort1_ct (L : SlLaysF.n6 P ρ) (hF : ρ.f 6 = F) (heF : enterable P F = true)
    {l : List β} {encV : β → V} {o : O} (S : SortIn h i n off 1 (l.map fun x => [encV x]) o) {cmpB : β → β → Int} (hO : SWO (ltOf cmpB)) (hids : ∀ x ∈ l, (encV x).ids = []) (heg : enterable P g = true) (hcap : V.idss cap = []) (hsz : l.length < 4611686018427387904) (hpos : 0 < l.length)
    (hcmp : ∀ x ∈ l, ∀ y ∈ l, ∀ h', Pure P g ([encV x, encV y] ++ cap) h' (.int .i64 (cmpB x y))) {Q : V → H → Prop}
    (q : ∀ (l' : List β) (o' : O), l'.Perm l → l'.Pairwise (fun x y => ltOf cmpB y x = false) → o.put off (l'.map encV) = some o' → Q (.tup []) (h.set i o')) :
    Acalls P F [.sl i n off l.length ca, .func (.func g) [] cap] h Q := by
  refine ⟨heF, fun W0 μ w cargs hr hv => ?_⟩
  obtain ⟨_, _, rfl, ⟨pl, ccap, rfl, hl1, hl2, _, rf, _⟩, _, _, rfl, ⟨cf', cc, rfl, hvf, hvc⟩, hnil⟩ := hv
  simp only [VRs] at hvf hnil
  subst hvf hnil
  obtain rfl := rf.at S.get S.len
  have hfit : off + l.length ≤ o.cells.length := by simpa using S.fit
  have flat1 : ∀ m : List β, (m.map fun x => [encV x]).flatten = m.map encV := fun m => by
    induction m with
    | nil => rfl
    | cons a m ih => simp [ih]
  have hhere : (o.cells.drop off).take l.length = l.map encV := by
    have := S.here
    rw [flat1] at this
    simpa using this
  obtain ⟨cur, e, fz, hb0, hb1, hh, hvs, hcl, ht, fin⟩ := hr.own S.get S.row
  let enc : Fin l.length → Value := fun j => cur[off + j.1]'(by omega)
  have hve : ∀ j : Fin l.length, VRs μ h [encV l[j]] [enc j] := fun j => by
    have e1 : [encV l[j]] = (o.cells.drop (off + j.1)).take 1 := by
      have h3 : (((o.cells.drop off).take l.length).drop j.1).take 1 = [encV l[j]] := by
        rw [hhere, List.drop_eq_getElem_cons (by simp)]; simp
      rw [List.drop_take, List.take_take, List.drop_drop, Nat.min_eq_left (by omega)] at h3
      exact h3.symm
    have e2 : [enc j] = ((cur.toList.take o.cells.length).drop (off + j.1)).take 1 := by
      rw [List.drop_take, List.take_take, Nat.min_eq_left (by omega), List.drop_eq_getElem_cons (by simp; omega)]
      simp [enc]
    rw [e1, e2]
    exact (hvs.drop _).take _
  have h1 : OneCell enc := fun j => by
    have := (hve j).ones (S.one _ (List.mem_map.2 ⟨_, List.getElem_mem _, rfl⟩))
    exact this _ (by simp)
  haveI : Inhabited (Fin l.length) := ⟨⟨0, hpos⟩⟩
  let cf : Fin l.length → Fin l.length → Int := fun a b => cmpB l[a] l[b]
  have swo : SWO (ltOf cf) := ⟨fun x => hO.irrefl _, fun x y z => hO.trans _ _ _, fun x y z => hO.ntrans _ _ _⟩
  let d : Array (Fin l.length) := Array.ofFn id
  have hd : d.size = l.length := by simp [d]
  have hblk : (μ i).blk < w.heap.size := (Array.getElem?_eq_some_iff.1 hh).1
  have hcmpL : CmpLays1 P g cc.toArray enc cf (μ i).blk off d.size w := by
    intro m os dk hs x y
    have hb := (putRow_below (enc := enc) (B := W0.heap.size) (w := w) (blk := (μ i).blk) (off := off) (m := m) (dk := dk) (os := os) hb0 hr.below.size).1
    have hW := Rel.empty (sortWorld enc w (μ i).blk off m dk os) (hr.glob.later (hr.below.trans hb))
    have hc := (hcmp l[x] (List.getElem_mem _) l[y] (List.getElem_mem _) ⟨0, fun _ => none⟩ (fun v _ => v = .int .i64 (cmpB l[x] l[y])) rfl).2 _ _ _ ([enc x, enc y] ++ cc) hW
      (VRs.cons (VR.one_plain (hids _ (List.getElem_mem _)) (hve x)) (VRs.cons (VR.one_plain (hids _ (List.getElem_mem _)) (hve y)) (hvc.plain hcap)))
    have ea : ([enc x, enc y] ++ cc).toArray = #[enc x, enc y] ++ cc.toArray := by simp
    rw [ea] at hc
    refine hc.mono ?_
    rintro e' w' ⟨v, cv, h', μ', rfl, rfl, hr', hv', _⟩
    have hv'' : cv = .int .i64 (cmpB l[x] l[y]) := hv'
    subst hv''
    exact ⟨rfl, hr'.below.out⟩
  have hH : Holds enc w (μ i).blk off d := by
    intro t ht'
    rw [hd] at ht'
    have hlt : off + t < cur.size := by omega
    have e1 : d[t]! = ⟨t, ht'⟩ := by
      rw [getElem!_pos d t (by rw [hd]; exact ht')]
      simp [d]
    rw [e1]
    refine ⟨?_, frozen_thawed hh ht hlt⟩
    simp [World.cell?, hh, hlt, enc]
  have C := Any.slices_SortFunc L enc h1 cf swo g cc.toArray (μ i).blk off ccap d w (enters_any heg) hcmpL hH hblk (by rw [hd]; exact hsz)
  rw [hd, hF] at C
  rw [hb1, Nat.zero_add]
  refine C.mono ?_
  rintro e' w' ⟨rfl, d', m, os, ⟨hs', _, hp⟩, hsorted, rfl⟩
  have hs2 : d'.size = l.length := by rw [hs', hd]
  obtain ⟨l', hl'⟩ : ∃ l' : List β, l' = d'.toList.map fun j => l[j] := ⟨_, rfl⟩
  have hperm : l'.Perm l := by
    have ex : ∀ {γ : Type} (a : Array γ) (t : Nat), a.size = t → a.extract 0 t = a := fun a t ht => by subst ht; simp
    have e1 := ex d' _ hs2
    have e2 := ex d _ hd
    rw [e1, e2] at hp
    have h3 := hp.map fun j : Fin l.length => l[j]
    have e3 : (d.toList.map fun j : Fin l.length => l[j]) = l := List.ext_getElem (by simp [d]) fun t h1 h2 => by simp [d]
    rw [e3] at h3
    rw [hl']; exact h3
  have hpair : l'.Pairwise (fun x y => ltOf cmpB y x = false) := by
    rw [hl', List.pairwise_iff_getElem]
    intro a b ha hb hab
    simp only [List.length_map, Array.length_toList] at ha hb
    have := hsorted a b (Nat.zero_le _) hab (by omega)
    rw [getElem!_pos d' a ha, getElem!_pos d' b hb] at this
    simp only [List.getElem_map, Array.getElem_toList]
    exact this
  have hfl : (l'.map encV).length = l.length := by rw [List.length_map, hperm.length_eq]
  obtain ⟨o', ho'⟩ := put_fit S.row (off := off) (xs := l'.map encV) (by rw [hfl]; exact hfit)
  obtain ⟨_, _, p3, p4, _, p6⟩ := O.put_own ho'
  have x : Ext μ h μ (h.set i o') := Ext.set S.get p3 p4
  refine ⟨.tup [], .tuple #[], h.set i o', μ, rfl, q l' o' hperm hpair ho', ?_, ⟨[], rfl, VRs.nil⟩, x⟩
  have hpb := putRow_below (enc := enc) (B := W0.heap.size) (w := w) (blk := (μ i).blk) (off := off) (m := m) (dk := d') (os := os) hb0 hr.below.size
  refine fin off _ o' (Go.Sort.putCells enc off d' cur) _ ho' (by simp [Go.Sort.putCells]) ?_ ?_ (hr.below.trans hpb.1) hpb.1.size hpb.2
  · have key : (Go.Sort.putCells enc off d' cur).toList.take o.cells.length = (cur.toList.take o.cells.length).take off ++ d'.toList.map enc ++ (cur.toList.take o.cells.length).drop (off + l.length) := by
      have hfl2 : (d'.toList.map enc).length = l.length := by simp [hs2]
      apply List.ext_getElem?
      intro t
      simp only [Go.Sort.putCells, List.append_assoc, List.getElem?_take, List.getElem?_append, List.length_take, List.getElem?_drop, Array.length_toList, Array.getElem?_toList, Array.getElem?_mapIdx, hs2, hfl2]
      have m1 : min off (min o.cells.length cur.size) = off := by omega
      rw [m1]
      by_cases a0 : t < o.cells.length
      · have a1 : t < cur.size := by omega
        rw [if_pos a0, Array.getElem?_eq_getElem a1, Option.map_some]
        by_cases a2 : t < off
        · rw [if_neg (by omega), if_pos a2, if_pos a2, if_pos a0]
        · rw [if_neg a2]
          by_cases a3 : t - off < l.length
          · have a4 : t - off < d'.size := by omega
            rw [if_pos ⟨by omega, by omega⟩, if_pos a3, List.getElem?_map, Array.getElem?_toList, Array.getElem?_eq_getElem a4, Option.map_some, getElem!_pos d' _ a4]
          · rw [if_neg (by omega), if_neg a3, show off + l.length + (t - off - l.length) = t by omega, if_pos a0]
            simp [a1]
      · rw [if_neg a0, if_neg (by omega), if_neg (by omega), if_neg (by omega)]
    rw [key, p6]
    show VRs _ _ (_ ++ _ ++ _) _
    rw [hfl]
    refine VRs.ext x _ _ (((hvs.take off).append ?_).append (hvs.drop _))
    rw [hl', List.map_map]
    have := vrs_flatten (μ := μ) (h := h) (f := fun j : Fin l.length => [encV l[j]]) (f' := fun j => [enc j]) d'.toList fun j _ => hve j
    have f1 : ∀ m : List (Fin l.length), (m.map fun j => [encV l[j]]).flatten = m.map (encV ∘ fun j => l[j]) := fun m => by
      induction m with
      | nil => rfl
      | cons a m ih => simp only [List.map_cons, List.flatten_cons, ih]; rfl
    have f2 : ∀ m : List (Fin l.length), (m.map fun j => [enc j]).flatten = m.map enc := fun m => by
      induction m with
      | nil => rfl
      | cons a m ih => simp [ih]
    rw [f1, f2] at this
    exact this
  · unfold sortWorld
    rw [heap_grow_old _ _ (by simp [putRow, mapBlock]; exact hblk)]
    simp [Go.Sort.putRow, mapBlock, Array.getElem?_modify, hh, onCells]
end Go.Am
