/-
 AM, PART 10d. Regions that draw their order and in which what is unordered is not busy with the heap, or is a call that is not: the walk of the text serves.
-/
import Derived.Test.YtpgcodeckphanaaGreatDoorIAm10c
namespace Go.Am

variable {P : Program}
abbrev Plains := Nat -> Option (List V -> Option V)
def Plains.ok (P : Program) (L : Plains) : Prop := ∀ k fn, L k = some fn -> ∀ vals v, fn vals = some v -> ∀ h, Acalls P k vals h fun u h' => u = v ∧ h' = h
def repS (L : Plains) (s : SI) : SI :=
 match s.ins with
 | .call (.c (.func (.func k) [] [])) args => match L k with
  | some fn => ⟨s.dst, s.guard, .op (.pcall k fn args)⟩
  | none => s
 | _ => s
theorem zc6 (L : Plains) (s : SI) : repS L s = s ∨ ∃ k fn args, s.ins = .call (.c (.func (.func k) [] [])) args ∧ L k = some fn ∧ repS L s = ⟨s.dst, s.guard, .op (.pcall k fn args)⟩ := by
 unfold repS
 split
 ·rename_i k args hi
  split
  ·rename_i fn hl; exact .inr ⟨k, fn, args, hi, hl, rfl⟩
  ·exact .inl rfl
 ·exact .inl rfl
theorem zlM (L : Plains) (s : SI) : (repS L s).dst = s.dst := by rcases zc6 L s with h | ⟨_, _, _, _, _, h⟩ <;> rw [h]
theorem ziO (L : Plains) (s : SI) : (repS L s).looks = s.looks := by
 rcases zc6 L s with h | ⟨_, _, _, hi, _, h⟩
 ·rw [h]
 ·rw [h]; simp [SI.looks, hi, X.rd, I.rd, A.rd]
theorem zji (L : Plains) (a b : SI) : zbD (repS L a) (repS L b) = zbD a b := by
 simp only [zbD, zlM, ziO]
theorem ziA (L : Plains) (s : SI) : (repS L s).cls = s.cls ∨ (repS L s).cls = 0 := by
 rcases zc6 L s with h | ⟨_, _, _, _, _, h⟩
 ·rw [h]; exact .inl rfl
 ·rw [h]; exact .inr rfl
theorem zkn {L : Plains} (hL : L.ok P) {s : SI} {t : Tm} {h : H} {K : Tm -> H -> Prop} (c : Sstep P (repS L s) t h K) : Sstep P s t h K := by
 rcases zc6 L s with e | ⟨k, fn, args, hi, hl, e⟩
 ·rw [e] at c; exact c
 ·rw [e] at c
  unfold Sstep at c ⊢
  simp only at c
  split at c
  ·exact c.elim
  ·exact c
  ·rename_i hg
   simp only [hi]
   simp only [exec] at c
   split at c
   ·rename_i v d hx
    obtain ⟨hv, rfl⟩ := zaE hx
    refine ⟨fun u h' => u = v ∧ h' = h, ⟨v, h, rfl, rfl⟩, ?_, ?_⟩
    ·have := hL k fn hl _ v hv h
     simpa [zdA, A.ev] using this
    ·rintro u h' ⟨rfl, rfl⟩; exact c
   ·exact c.elim
theorem zez (L : Plains) (sis : List SI) (i : Nat) : (sis.map (repS L)).getD i default = repS L (sis.getD i default) := by
 rw [List.getD_eq_getElem?_getD, List.getD_eq_getElem?_getD, List.getElem?_map]
 cases sis[i]? <;> rfl
theorem zjJ {L : Plains} {ops : Array Oper} {sis : List SI} (h : ∀ p ∈ zbG ops sis, ((sis.map (repS L)).getD p.1 default).cls = 0 ∨ ((sis.map (repS L)).getD p.2 default).cls = 0) : zbG ops (sis.map (repS L)) = [] := by
 unfold zbG at h ⊢
 rw [List.flatMap_eq_nil_iff]
 intro j hj
 rw [List.map_eq_nil_iff, List.filter_eq_nil_iff]
 intro i hi hc
 simp only [List.length_map] at hj
 have ci := ziA L (sis.getD i default)
 have cj := ziA L (sis.getD j default)
 rw [<- zez] at ci cj
 simp only [Bool.and_eq_true, Bool.or_eq_true, beq_iff_eq, bne_iff_ne, ne_eq, Bool.not_eq_true'] at hc
 obtain ⟨hb, hc⟩ := hc
 have hm : (i, j) ∈ (List.range sis.length).flatMap fun j => ((List.range j).filter fun i =>
  !((zeb ops.toList []).getD j 0).testBit i && ((sis.getD i default).cls == 2 && (sis.getD j default).cls != 0 || (sis.getD i default).cls != 0 && (sis.getD j default).cls == 2)).map fun i => (i, j) := by
  rw [List.mem_flatMap]
  refine ⟨j, hj, List.mem_map.2 ⟨i, List.mem_filter.2 ⟨hi, ?_⟩, rfl⟩⟩
  simp only [Bool.and_eq_true, Bool.or_eq_true, beq_iff_eq, bne_iff_ne, ne_eq, Bool.not_eq_true']
  refine ⟨hb, ?_⟩
  omega
 have := h (i, j) hm
 simp only at this
 omega

section go
variable {N : Nat} {W0 : World} {μ0 : Nat -> Pl} {h0 : H} {ops : Array Oper} {sis : List SI} {ro : Option Nat} {ds : List Deferred}

theorem znt {L : Plains} (hL : L.ok P) {K : Tm -> H -> Prop} {Q : Exit -> Act -> World -> Prop} (hK : ∀ t h a w, K t h -> St N ds W0 μ0 h0 t h a w -> Q .normal a w) (hm : ops.toList.mapM (zaj P N ops) = some sis) (hgd : ∀ o ∈ ops.toList, ∀ d b, za1 ops o = some (some (d, b)) -> d < N)
  (hd : zbp ops sis = true) (hf : zbG ops (sis.map (repS L)) = []) : ∀ (fuel : Nat) (listed : Array Bool) (t : Tm) (h : H) (a : Act) (w : World), listed.size = ops.size -> zaX listed = fuel -> zdp ops (fun i => listed.getD i false) ->
  Swp P K (zcc (sis.map (repS L)) fun i => listed.getD i false) t h -> St N ds W0 μ0 h0 t h a w -> wpAnyIn (RF ro) 0 P .any ops Q fuel listed a w := by
 have mapLen : ∀ (l : List Oper) (ss : List SI), l.mapM (zaj P N ops) = some ss -> ss.length = l.length ∧ ∀ (j : Nat) (o : Oper), l[j]? = some o -> ∃ s, ss[j]? = some s ∧ zaj P N ops o = some s := by
  intro l
  induction l with
  | nil => intro ss e; simp at e; subst e; simp
  | cons o l ih =>
   intro ss e
   simp only [List.mapM_cons, Option.bind_eq_bind, Option.pure_def] at e
   obtain ⟨s, hs, e⟩ := bind_some e
   obtain ⟨ss', hss, e⟩ := bind_some e
   cases e
   obtain ⟨h1, h2⟩ := ih ss' hss
   refine ⟨by simp [h1], fun j o' ho => ?_⟩
   cases j with
   | zero => simp at ho; subst ho; exact ⟨s, rfl, hs⟩
   | succ j => simpa using h2 j o' (by simpa using ho)
 obtain ⟨hlen, hcomp⟩ := mapLen _ _ hm
 have hlen' : sis.length = ops.size := by simpa using hlen
 have final : ∀ (listed : Array Bool) (t : Tm) (h : H) (a : Act) (w : World), (∀ i, i < sis.length -> listed.getD i false = true) -> Swp P K (zcc (sis.map (repS L)) fun i => listed.getD i false) t h -> St N ds W0 μ0 h0 t h a w -> Q .normal a w := by
  intro listed t h a w hall c hs
  rw [zgy (by simpa using hall)] at c
  exact hK _ _ _ _ c hs
 have ready_nil : ∀ (listed : Array Bool), listed.size = ops.size -> Region.ready .any ops listed = [] -> ∀ i, i < sis.length -> listed.getD i false = true := by
  intro listed hsz hr
  have : ∀ n i, i < n -> i < sis.length -> listed.getD i false = true := by
   intro n
   induction n with
   | zero => intro i hi; omega
   | succ n ih =>
    intro i hi hin
    by_cases e : i = n
    ·subst e
     cases hl : listed.getD i false with
     | true => rfl
     | false =>
      exfalso
      have ho : ops[i]? = some ops[i] := Array.getElem?_eq_getElem (by omega)
      have : i ∈ Region.ready .any ops listed := by
       rw [mem_ready]
       refine ⟨?_, ops[i], ho, fun e he hb => ih e.on (zaR hd ho he hb) (by have := zaR hd ho he hb; omega)⟩
       rw [Array.getD_eq_getD_getElem?] at hl ⊢
       have : listed[i]? = some listed[i] := Array.getElem?_eq_getElem (by omega)
       rw [this] at hl ⊢
       simpa using hl
      rw [hr] at this; cases this
    ·exact ih i (by omega) hin
  exact fun i hi => this (i + 1) i (by omega) hi
 intro fuel
 induction fuel with
 | zero =>
  intro listed t h a w hsz hu _ c hs
  have hall : ∀ i, i < listed.size -> listed.getD i true = true := by
   intro i hi
   have hl : listed[i]? = some listed[i] := Array.getElem?_eq_getElem hi
   cases hb : listed[i] with
   | true => simp [Array.getD_eq_getD_getElem?, hl, hb]
   | false =>
    exfalso
    have hmem : false ∈ listed.toList := by
     have := Array.getElem_mem hi
     rw [hb] at this
     simpa using this
    have : false ∈ listed.toList.filter (!·) := by simpa [List.mem_filter] using hmem
    unfold zaX at hu
    rw [List.eq_nil_of_length_eq_zero hu] at this
    cases this
  refine ⟨?_, final listed t h a w (fun i hi => ?_) c hs⟩
  ·apply List.eq_nil_iff_forall_not_mem.2
   intro i hi
   rw [mem_ready] at hi
   obtain ⟨h1, o, ho, _⟩ := hi
   have := hall i (by rw [hsz]; exact (Array.getElem?_eq_some_iff.1 ho).1)
   rw [this] at h1; cases h1
  ·have := hall i (by omega)
   rw [Array.getD_eq_getD_getElem?] at this ⊢
   have hl : listed[i]? = some listed[i] := Array.getElem?_eq_getElem (by omega)
   rw [hl] at this ⊢
   exact this
 | succ fuel ih =>
  intro listed t h a w hsz hu hcl c hs
  refine ⟨fun hr => final listed t h a w (ready_nil listed hsz hr) c hs, fun j hj => ?_⟩
  rw [mem_ready] at hj
  obtain ⟨hj1, o, ho, hpre⟩ := hj
  have hjlt : j < ops.size := (Array.getElem?_eq_some_iff.1 ho).1
  obtain ⟨s, hsj, hcs⟩ := hcomp j o (by simpa using ho)
  have hj0 : listed.getD j false = false := by
   rw [Array.getD_eq_getD_getElem?] at hj1 ⊢
   have hl : listed[j]? = some listed[j] := Array.getElem?_eq_getElem (by omega)
   rw [hl] at hj1 ⊢
   exact hj1
  have hp : ∀ i, Pre ops i j -> listed.getD i false = true := by
   intro i hpi
   cases hpi with
   | edge ho' he hb => rw [ho] at ho'; cases ho'; exact hpre _ he hb
   | step ho' he hb hrest => rw [ho] at ho'; cases ho'; exact hcl _ _ (hpre _ he hb) hrest
  have hS' : ∀ i, (listed.setIfInBounds j true).getD i false = (listed.getD i false || i == j) := by
   intro i
   by_cases e : i = j
   ·subst e
    simp [Array.getD_eq_getD_getElem?, hsz, hjlt]
   ·have : (i == j) = false := by simpa using e
    rw [this, Bool.or_false, getD_set_ne false (fun h => e h.symm)]
  obtain ⟨pre, post, e1, e2, hpr⟩ := zfF (sis := sis.map (repS L)) (S := fun i => listed.getD i false) (S' := fun i => (listed.setIfInBounds j true).getD i false) (by simp; omega) hj0 hS'
  have hsj' : sis.getD j default = s := zbw hsj
  rw [e1, zez, hsj'] at c
  have c2 := Swp.front pre (fun si hsi => by
   obtain ⟨i, hij, hSi, rfl⟩ := hpr si hsi
   have hnp : ¬ Pre ops i j := fun hpp => by have := hp i hpp; simp only [hSi] at this; cases this
   have hjl : j < sis.length := by omega
   obtain ⟨f1, f2⟩ := zg6 hf hij (by simpa using hjl) hnp
   rw [zez _ _ j, hsj'] at f1 f2
   refine ⟨?_, f1, f2⟩
   rw [zez, zji]
   cases htt : zbD (sis.getD i default) s with
   | false => rfl
   | true => exact absurd (zbt hd hij hjl (by rw [hsj']; exact htt)) hnp) c
  refine zeJ hcs (hgd o (by simpa using Array.mem_of_getElem? ho)) ho (zkn hL c2) hs fun t' h' a' w' hk hs' => ?_
  refine ih _ t' h' a' w' (by simpa using hsz) (by have := zbH hj1; omega) ?_ (by rw [e2]; exact hk) hs'
  intro i k hk hpik
  simp only [hS', Bool.or_eq_true, beq_iff_eq] at hk ⊢
  rcases hk with hk | rfl
  ·exact .inl (hcl i k hk hpik)
  ·exact .inl (hp i hpik)

theorem znX {L : Plains} (hL : L.ok P) {K : Tm -> H -> Prop} {Q : Exit -> Act -> World -> Prop} (hmix : P.follows .mixedOrders = true) (hK : ∀ t h a w, K t h -> St N ds W0 μ0 h0 t h a w -> Q .normal a w)
  (hm : ops.toList.mapM (zaj P N ops) = some sis) (hgd : ∀ o ∈ ops.toList, ∀ d b, za1 ops o = some (some (d, b)) -> d < N) (hd : zbp ops sis = true) (hf : zbG ops (sis.map (repS L)) = []) {t : Tm} {h : H} (c : Swp P K (sis.map (repS L)) t h) {a : Act} {w : World} (hs : St N ds W0 μ0 h0 t h a w) {id : Nat} :
  (Code.region id ops true).wpIn (RF ro) 0 P Q a w := by
 have hs' : St N ds W0 μ0 h0 t h a w.drew := by
  obtain ⟨μ, h1, h2, h3, hr, x0⟩ := hs
  exact ⟨μ, h1, h2, h3, hr.drew, x0⟩
 have hz : ∀ i, (Array.replicate ops.size false).getD i false = false := by
  intro i
  rw [Array.getD_eq_getD_getElem?, Array.getElem?_replicate]; split <;> rfl
 refine wpIn_region_any hmix (znt hL hK hm hgd hd hf ops.size (Array.replicate ops.size false) t h a _ (by simp) (zbC _) ?_ ?_ hs')
 ·intro i j hj; simp [Array.getD_eq_getD_getElem?, Array.getElem?_replicate] at hj; split at hj <;> simp at hj
 ·have : (zcc (sis.map (repS L)) fun i => (Array.replicate ops.size false).getD i false) = sis.map (repS L) := by
   unfold zcc
   rw [List.filter_eq_self.2 (by intro i _; simp [hz])]
   refine List.ext_getElem (by simp) fun i h1 h2 => ?_
   have h3 : i < sis.length := by simpa using h2
   simp [List.getD_eq_getElem?_getD, h3]
  rw [this]; exact c
end go
end Go.Am
