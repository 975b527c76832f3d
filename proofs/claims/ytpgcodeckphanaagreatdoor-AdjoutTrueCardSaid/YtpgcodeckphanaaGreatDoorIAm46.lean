/-
 AM, PART 46. Drawn regions, in whatever order: an invariant over what has not come up yet.
-/
import Derived.Test.YtpgcodeckphanaaGreatDoorIAm10e
namespace Go.Am

variable {P : Program}
def zpa (fr : List (Nat × Nat)) (sis : List SI) (i j : Nat) : Bool :=
 !zbD (sis.getD i default) (sis.getD j default) && ((((sis.getD i default).cls != 2 || (sis.getD j default).cls == 0) && ((sis.getD i default).cls == 0 || (sis.getD j default).cls != 2)) || fr.contains (i, j))
def zjw (P : Program) (fr : List (Nat × Nat)) (sis : List SI) (J : List Nat -> Tm -> H -> Prop) : Prop :=
 ∀ (pre : List Nat) (j : Nat) (post : List Nat) (t : Tm) (h : H), j < sis.length -> (∀ i ∈ pre, i < j ∧ zpa fr sis i j = true) -> (∀ i ∈ post, j < i ∧ i < sis.length) -> J (pre ++ j :: post) t h -> Sstep P (sis.getD j default) t h (J (pre ++ post))
theorem zkd {ops : Array Oper} {sis : List SI} {i j : Nat} (hij : i < j) (hj : j < sis.length) (hp : ¬ Pre ops i j) (hm : (i, j) ∉ zbG ops sis) :
  ((sis.getD i default).cls ≠ 2 ∨ (sis.getD j default).cls = 0) ∧ ((sis.getD i default).cls = 0 ∨ (sis.getD j default).cls ≠ 2) := by
 have hb : ((zeb ops.toList []).getD j 0).testBit i = false := by
  cases hb : ((zeb ops.toList []).getD j 0).testBit i with
  | false => rfl
  | true => exact absurd (zc4 ops.toList [] (by simp) (by simp) j i hb) hp
 unfold zbG at hm
 simp only [List.mem_flatMap, List.mem_range, List.mem_map, List.mem_filter, Bool.and_eq_true, Bool.not_eq_true', Bool.or_eq_true, beq_iff_eq, bne_iff_ne] at hm
 have hc : ¬ ((((sis.getD i default).cls = 2) ∧ (sis.getD j default).cls ≠ 0) ∨ ((sis.getD i default).cls ≠ 0 ∧ (sis.getD j default).cls = 2)) := fun h => hm ⟨j, hj, i, ⟨hij, hb, h⟩, rfl⟩
 refine ⟨?_, ?_⟩
 ·by_cases h : (sis.getD i default).cls = 2
  ·right
   by_cases h2 : (sis.getD j default).cls = 0
   ·exact h2
   ·exact absurd (.inl ⟨h, h2⟩) hc
  ·exact .inl h
 ·by_cases h : (sis.getD i default).cls = 0
  ·exact .inl h
  ·right
   intro h2
   exact hc (.inr ⟨h, h2⟩)
def zgm (n : Nat) (S : Nat -> Bool) : List Nat := (List.range n).filter fun i => !S i
theorem zhG {n : Nat} {S S' : Nat -> Bool} {j : Nat} (hj : j < n) (hS : S j = false) (hS' : ∀ i, S' i = (S i || i == j)) :
  ∃ pre post, zgm n S = pre ++ j :: post ∧ zgm n S' = pre ++ post ∧ (∀ i ∈ pre, i < j ∧ S i = false) ∧ ∀ i ∈ post, j < i ∧ i < n := by
 refine ⟨(List.range j).filter fun i => !S i, (List.range' (j + 1) (n - j - 1)).filter fun i => !S i, ?_, ?_, ?_, ?_⟩
 ·unfold zgm
  rw [zbq hj, List.filter_append, List.filter_cons_of_pos (by simp [hS])]
 ·unfold zgm
  rw [zbq hj, List.filter_append, List.filter_cons_of_neg (by simp [hS'])]
  congr 1
  ·refine List.filter_congr fun i hi => ?_
   have : i ≠ j := by have := List.mem_range.1 hi; omega
   simp [hS', this]
  ·refine List.filter_congr fun i hi => ?_
   have : i ≠ j := by have := List.mem_range'_1.1 hi; omega
   simp [hS', this]
 ·intro i hi
  simp only [List.mem_filter, List.mem_range, Bool.not_eq_true'] at hi
  exact hi
 ·intro i hi
  have := List.mem_range'_1.1 (List.mem_filter.1 hi).1
  omega
theorem ziF {n : Nat} {S : Nat -> Bool} (h : ∀ i, i < n -> S i = true) : zgm n S = [] := by
 unfold zgm
 rw [List.filter_eq_nil_iff]
 intro i hi
 simp [h i (List.mem_range.1 hi)]

section go
variable {N : Nat} {W0 : World} {μ0 : Nat -> Pl} {h0 : H} {ops : Array Oper} {sis : List SI} {J : List Nat -> Tm -> H -> Prop} {ro : Option Nat} {ds : List Deferred}

theorem znn {K : Tm -> H -> Prop} {Q : Exit -> Act -> World -> Prop} (hK : ∀ t h a w, K t h -> St N ds W0 μ0 h0 t h a w -> Q .normal a w) (hm : ops.toList.mapM (zaj P N ops) = some sis) (hgd : ∀ o ∈ ops.toList, ∀ d b, za1 ops o = some (some (d, b)) -> d < N)
  (hd : zbp ops sis = true) (hJ : zjw P (zbG ops sis) sis J) (hE : ∀ t h, J [] t h -> K t h) : ∀ (fuel : Nat) (listed : Array Bool) (t : Tm) (h : H) (a : Act) (w : World), listed.size = ops.size -> zaX listed = fuel -> zdp ops (fun i => listed.getD i false) ->
  J (zgm sis.length fun i => listed.getD i false) t h -> St N ds W0 μ0 h0 t h a w -> wpAnyIn (RF ro) 0 P .any ops Q fuel listed a w := by
 have mapLen : ∀ (l : List Oper) (ss : List SI), l.mapM (zaj P N ops) = some ss -> ss.length = l.length ∧ ∀ (j : Nat) (o : Oper), l[j]? = some o -> ∃ s, ss[j]? = some s ∧ zaj P N ops o = some s := by
  intro l
  induction l with
  | nil => intro ss e; simp at e; subst e; simp
  | cons o l ih =>
   intro ss e
   simp only [List.mapM_cons, Option.bind_eq_bind, Option.pure_def] at e
   obtain ⟨s, hs, e⟩ := bind_some e
   obtain ⟨ss', hss, e⟩ := bind_some e
   cases e
   obtain ⟨h1, h2⟩ := ih ss' hss
   refine ⟨by simp [h1], fun j o' ho => ?_⟩
   cases j with
   | zero => simp at ho; subst ho; exact ⟨s, rfl, hs⟩
   | succ j => simpa using h2 j o' (by simpa using ho)
 obtain ⟨hlen, hcomp⟩ := mapLen _ _ hm
 have hlen' : sis.length = ops.size := by simpa using hlen
 have final : ∀ (listed : Array Bool) (t : Tm) (h : H) (a : Act) (w : World), (∀ i, i < sis.length -> listed.getD i false = true) -> J (zgm sis.length fun i => listed.getD i false) t h -> St N ds W0 μ0 h0 t h a w -> Q .normal a w := by
  intro listed t h a w hall c hs
  rw [ziF hall] at c
  exact hK _ _ _ _ (hE _ _ c) hs
 have ready_nil : ∀ (listed : Array Bool), listed.size = ops.size -> Region.ready .any ops listed = [] -> ∀ i, i < sis.length -> listed.getD i false = true := by
  intro listed hsz hr
  have : ∀ n i, i < n -> i < sis.length -> listed.getD i false = true := by
   intro n
   induction n with
   | zero => intro i hi; omega
   | succ n ih =>
    intro i hi hin
    by_cases e : i = n
    ·subst e
     cases hl : listed.getD i false with
     | true => rfl
     | false =>
      exfalso
      have ho : ops[i]? = some ops[i] := Array.getElem?_eq_getElem (by omega)
      have : i ∈ Region.ready .any ops listed := by
       rw [mem_ready]
       refine ⟨?_, ops[i], ho, fun e he hb => ih e.on (zaR hd ho he hb) (by have := zaR hd ho he hb; omega)⟩
       rw [Array.getD_eq_getD_getElem?] at hl ⊢
       have : listed[i]? = some listed[i] := Array.getElem?_eq_getElem (by omega)
       rw [this] at hl ⊢
       simpa using hl
      rw [hr] at this; cases this
    ·exact ih i (by omega) hin
  exact fun i hi => this (i + 1) i (by omega) hi
 intro fuel
 induction fuel with
 | zero =>
  intro listed t h a w hsz hu _ c hs
  have hall : ∀ i, i < listed.size -> listed.getD i true = true := by
   intro i hi
   have hl : listed[i]? = some listed[i] := Array.getElem?_eq_getElem hi
   cases hb : listed[i] with
   | true => simp [Array.getD_eq_getD_getElem?, hl, hb]
   | false =>
    exfalso
    have hmem : false ∈ listed.toList := by
     have := Array.getElem_mem hi
     rw [hb] at this
     simpa using this
    have : false ∈ listed.toList.filter (!·) := by simpa [List.mem_filter] using hmem
    unfold zaX at hu
    rw [List.eq_nil_of_length_eq_zero hu] at this
    cases this
  refine ⟨?_, final listed t h a w (fun i hi => ?_) c hs⟩
  ·apply List.eq_nil_iff_forall_not_mem.2
   intro i hi
   rw [mem_ready] at hi
   obtain ⟨h1, o, ho, _⟩ := hi
   have := hall i (by rw [hsz]; exact (Array.getElem?_eq_some_iff.1 ho).1)
   rw [this] at h1; cases h1
  ·have := hall i (by omega)
   rw [Array.getD_eq_getD_getElem?] at this ⊢
   have hl : listed[i]? = some listed[i] := Array.getElem?_eq_getElem (by omega)
   rw [hl] at this ⊢
   exact this
 | succ fuel ih =>
  intro listed t h a w hsz hu hcl c hs
  refine ⟨fun hr => final listed t h a w (ready_nil listed hsz hr) c hs, fun j hj => ?_⟩
  rw [mem_ready] at hj
  obtain ⟨hj1, o, ho, hpre⟩ := hj
  have hjlt : j < ops.size := (Array.getElem?_eq_some_iff.1 ho).1
  obtain ⟨s, hsj, hcs⟩ := hcomp j o (by simpa using ho)
  have hj0 : listed.getD j false = false := by
   rw [Array.getD_eq_getD_getElem?] at hj1 ⊢
   have hl : listed[j]? = some listed[j] := Array.getElem?_eq_getElem (by omega)
   rw [hl] at hj1 ⊢
   exact hj1
  have hp : ∀ i, Pre ops i j -> listed.getD i false = true := by
   intro i hpi
   cases hpi with
   | edge ho' he hb => rw [ho] at ho'; cases ho'; exact hpre _ he hb
   | step ho' he hb hrest => rw [ho] at ho'; cases ho'; exact hcl _ _ (hpre _ he hb) hrest
  have hS' : ∀ i, (listed.setIfInBounds j true).getD i false = (listed.getD i false || i == j) := by
   intro i
   by_cases e : i = j
   ·subst e
    simp [Array.getD_eq_getD_getElem?, hsz, hjlt]
   ·have : (i == j) = false := by simpa using e
    rw [this, Bool.or_false, getD_set_ne false (fun h => e h.symm)]
  obtain ⟨pre, post, e1, e2, hpr, hpo⟩ := zhG (n := sis.length) (S := fun i => listed.getD i false) (S' := fun i => (listed.setIfInBounds j true).getD i false) (by omega) hj0 hS'
  have hsj' : sis.getD j default = s := zbw hsj
  rw [e1] at c
  have c3 : Sstep P s t h (J (pre ++ post)) := by
   have := hJ pre j post t h (by omega) (fun i hi => by
    obtain ⟨hij, hSi⟩ := hpr i hi
    have hnp : ¬ Pre ops i j := fun hpp => by have := hp i hpp; simp only [hSi] at this; cases this
    have hjl : j < sis.length := by omega
    refine ⟨hij, ?_⟩
    have htt : zbD (sis.getD i default) (sis.getD j default) = false := by
     cases htt : zbD (sis.getD i default) (sis.getD j default) with
     | false => rfl
     | true => exact absurd (zbt hd hij hjl htt) hnp
    unfold zpa
    rw [htt]
    by_cases hm : (i, j) ∈ zbG ops sis
    ·have : (zbG ops sis).contains (i, j) = true := by simpa using hm
     rw [this]; simp
    ·have h9 := zkd hij hjl hnp hm
     have h1 : ((sis.getD i default).cls != 2 || (sis.getD j default).cls == 0) = true := by simpa using h9.1
     have h2 : ((sis.getD i default).cls == 0 || (sis.getD j default).cls != 2) = true := by simpa using h9.2
     rw [h1, h2]; simp) hpo c
   rwa [hsj'] at this
  refine zeJ hcs (hgd o (by simpa using Array.mem_of_getElem? ho)) ho c3 hs fun t' h' a' w' hk hs' => ?_
  refine ih _ t' h' a' w' (by simpa using hsz) (by have := zbH hj1; omega) ?_ (by rw [e2]; exact hk) hs'
  intro i k hk hpik
  simp only [hS', Bool.or_eq_true, beq_iff_eq] at hk ⊢
  rcases hk with hk | rfl
  ·exact .inl (hcl i k hk hpik)
  ·exact .inl (hp i hpik)

theorem zom {K : Tm -> H -> Prop} {Q : Exit -> Act -> World -> Prop} (hmix : P.follows .mixedOrders = true) (hK : ∀ t h a w, K t h -> St N ds W0 μ0 h0 t h a w -> Q .normal a w)
  (hm : ops.toList.mapM (zaj P N ops) = some sis) (hgd : ∀ o ∈ ops.toList, ∀ d b, za1 ops o = some (some (d, b)) -> d < N) (hd : zbp ops sis = true) (hJ : zjw P (zbG ops sis) sis J) (hE : ∀ t h, J [] t h -> K t h) {t : Tm} {h : H} (c : J (List.range sis.length) t h) {a : Act} {w : World} (hs : St N ds W0 μ0 h0 t h a w) {id : Nat} :
  (Code.region id ops true).wpIn (RF ro) 0 P Q a w := by
 have hs' : St N ds W0 μ0 h0 t h a w.drew := by
  obtain ⟨μ, h1, h2, h3, hr, x0⟩ := hs
  exact ⟨μ, h1, h2, h3, hr.drew, x0⟩
 have hz : ∀ i, (Array.replicate ops.size false).getD i false = false := by
  intro i
  rw [Array.getD_eq_getD_getElem?, Array.getElem?_replicate]; split <;> rfl
 refine wpIn_region_any hmix (znn hK hm hgd hd hJ hE ops.size (Array.replicate ops.size false) t h a _ (by simp) (zbC _) ?_ ?_ hs')
 ·intro i j hj; simp [Array.getD_eq_getD_getElem?, Array.getElem?_replicate] at hj; split at hj <;> simp at hj
 ·unfold zgm
  rw [List.filter_eq_self.2 (by intro i _; simp [hz])]
  exact c
end go
end Go.Am
