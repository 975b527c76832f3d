/-
 AM, PART 10e. Regions that draw their order and in which calls stand unordered beside looks at objects that they leave as they are: the walk of the text serves.
-/
import Derived.Test.YtpgcodeckphanaaGreatDoorIAm10d
namespace Go.Am

variable {P : Program}

def Keep (F : List Nat) (h h' : H) : Prop := ∀ i ∈ F, h'.get i = h.get i
theorem Keep.refl (F : List Nat) (h : H) : Keep F h h := fun _ _ => rfl
def FootIn (F : List Nat) (s : SI) (t : Tm) : Prop := match zao s.guard t with
 | some true => match s.ins with
  | .op i => ∀ k ∈ i.foot t, k ∈ F
  | .call _ _ => False
 | _ => True
theorem zjg {i : I} {t t' : Tm} (e : ∀ k ∈ i.rd, t k = t' k) : i.foot t = i.foot t' := by
 cases i <;> simp only [I.foot]
 case load a => rw [A.ev_congr fun k hk => e k (by simp [I.rd, hk])]
 case store n a x => rw [A.ev_congr (x := a) fun k hk => e k (by simp [I.rd, hk])]
 case resl n a x => rw [A.ev_congr (x := a) fun k hk => e k (by simp [I.rd, hk])]
 case strOf a => rw [A.ev_congr fun k hk => e k (by simp [I.rd, hk])]
 case len a => rw [A.ev_congr fun k hk => e k (by simp [I.rd, hk])]
 case append s x => rw [A.ev_congr (x := s) fun k hk => e k (by simp [I.rd, hk]), A.ev_congr (x := x) fun k hk => e k (by simp [I.rd, hk])]
 case copy d s => rw [A.ev_congr (x := d) fun k hk => e k (by simp [I.rd, hk]), A.ev_congr (x := s) fun k hk => e k (by simp [I.rd, hk])]
 case lookup x _ => rw [A.ev_congr (x := x) fun k hk => e k (by simp [I.rd, hk])]
 case mapSet x _ _ => rw [A.ev_congr (x := x) fun k hk => e k (by simp [I.rd, hk])]
 case mapDel x _ => rw [A.ev_congr (x := x) fun k hk => e k (by simp [I.rd, hk])]
 case clearSl x => rw [A.ev_congr (x := x) fun k hk => e k (by simp [I.rd, hk])]
 case clearMap x => rw [A.ev_congr (x := x) fun k hk => e k (by simp [I.rd, hk])]
theorem FootIn.congr {F : List Nat} {s : SI} {t t' : Tm} (ht : ∀ i ∈ s.looks, t i = t' i) (f : FootIn F s t) : FootIn F s t' := by
 unfold FootIn at f ⊢
 rw [<- zcM ht]
 split at f
 ·split at f
  ·rename_i i hi
   rw [<- zjg (t := t) (t' := t') fun k hk => ht k (by simp [SI.looks, hi, X.rd, hk])]
   exact f
  ·exact f
 ·trivial
theorem zfG {F : List Nat} {s : SI} {t : Tm} {h h' : H} (f : FootIn F s t) (hc : s.cls ≠ 2) (k : Keep F h h') : zdS s t h' = zdS s t h := by
 unfold zdS
 unfold FootIn at f
 split
 ·rfl
 ·rfl
 ·rename_i hg
  rw [hg] at f
  split
  ·rfl
  ·rename_i i hi
   rw [hi] at f
   simp only at f
   have hc' : i.cls ≠ 2 := by simpa [SI.cls, hi] using hc
   have e1 : exec i t h'.get h'.next = exec i t h.get h'.next := zgL fun j hj => k j (f j hj)
   have e2 : ∀ (k k' : Nat), exec i t h.get k = exec i t h.get k' := by
    intro k k'
    cases i <;> first | rfl | (exact absurd rfl hc')
   rw [e1, e2 _ h.next]

def Astep (P : Program) (F : List Nat) (s : SI × Nat) (t : Tm) (h : H) (K : Tm -> H -> Prop) : Prop :=
 Sstep P s.1 t h (fun t' h' => (s.2 = 1 -> Keep F h h') ∧ K t' h') ∧ (s.2 = 2 -> FootIn F s.1 t)
def Awp (P : Program) (F : List Nat) (K : Tm -> H -> Prop) : List (SI × Nat) -> Tm -> H -> Prop
 | [], t, h => K t h
 | s :: l, t, h => Astep P F s t h (Awp P F K l)
theorem Astep.mono {F : List Nat} {s : SI × Nat} {t : Tm} {h : H} {K K' : Tm -> H -> Prop} (hk : ∀ t h, K t h -> K' t h) (c : Astep P F s t h K) : Astep P F s t h K' :=
 ⟨c.1.mono fun _ _ ⟨a, b⟩ => ⟨a, hk _ _ b⟩, c.2⟩

def zqo (i j : SI × Nat) : Prop := zbD i.1 j.1 = false ∧ (((i.1.cls ≠ 2 ∨ j.1.cls = 0) ∧ (i.1.cls = 0 ∨ j.1.cls ≠ 2)) ∨ (i.2 = 1 ∧ j.2 = 2 ∧ j.1.cls ≠ 2) ∨ (i.2 = 2 ∧ j.2 = 1 ∧ i.1.cls ≠ 2))

theorem Astep.swap {F : List Nat} {i j : SI × Nat} (f : zqo i j) {t : Tm} {h : H} {K : Tm -> H -> Prop} (c : Astep P F i t h fun t' h' => Astep P F j t' h' K) : Astep P F j t h fun t' h' => Astep P F i t' h' K := by
 obtain ⟨i, mi⟩ := i
 obtain ⟨j, mj⟩ := j
 obtain ⟨ht, f⟩ := f
 simp only at ht f
 obtain ⟨c, fi⟩ := c
 simp only at c fi
 by_cases hj : j.cls = 2
 ·have hi : i.cls ≠ 2 := by
   rcases f with ⟨_, f2⟩ | ⟨_, _, h3⟩ | ⟨_, _, h3⟩
   ·rcases f2 with f2 | f2
    ·omega
    ·exact absurd hj f2
   ·exact absurd hj h3
   ·exact h3
  obtain ⟨vi, hv, -, c, fj⟩ := (Sstep.val hi).1 c
  refine ⟨c.move (zbj ht t vi) fun v h' _ hk => ?_, fun e => (fj e).congr (zbj ht t vi)⟩
  obtain ⟨kp, hk⟩ := hk
  refine ⟨kp, ?_, fun e => (fi e).congr fun k hk => (zbs ht t v k hk).symm⟩
  refine (Sstep.val hi).2 ⟨vi, ?_, fun _ => Keep.refl _ _, ?_⟩
  ·rcases f with ⟨_, f2⟩ | ⟨_, _, h3⟩ | ⟨e1, e2, _⟩
   ·rw [zbc (t' := t) (h' := h) (zbs ht t v) (.inl (f2.resolve_right (fun h => h hj)))]; exact hv
   ·exact absurd hj h3
   ·rw [zbc (t' := t) (h' := h') (zbs ht t v) (.inr rfl), zfG (fi e1) hi (kp e2)]; exact hv
  ·show K _ _
   rw [<- zeO ht]; exact hk
 ·have c' := c.mono (K' := fun t' h' => (mi = 1 -> Keep F h h') ∧ (mj = 2 -> FootIn F j t') ∧ ∃ v, zdS j t' h' = some v ∧ K (t'.put j.dst v) h') fun t' h' ⟨a, hk, fj⟩ => by
   obtain ⟨v, hv, _, hk⟩ := (Sstep.val hj).1 hk
   exact ⟨a, fj, v, hv, hk⟩
  have same : ∀ (v : V) (h' : H), (i.cls ≠ 2 -> h' = h) -> (mi = 1 -> Keep F h h') -> (mj = 2 -> FootIn F j (t.put i.dst v)) -> zdS j (t.put i.dst v) h' = zdS j t h := fun v h' hh kp fj => by
   rcases f with ⟨f1, _⟩ | ⟨e1, e2, _⟩ | ⟨_, _, h3⟩
   ·exact zbc (zbj ht t v) (f1.elim (fun h2 => .inr (hh h2)) .inl)
   ·rw [zbc (t' := t) (h' := h') (zbj ht t v) (.inr rfl)]
    exact zfG ((fj e2).congr (zbj ht t v)) hj (kp e1)
   ·exact zbc (zbj ht t v) (.inr (hh h3))
  obtain ⟨v0, h0, hh0, kp0, fj0, vj, hvj, _⟩ := c'.sat
  rw [same v0 h0 hh0 kp0 fj0] at hvj
  refine ⟨(Sstep.val hj).2 ⟨vj, hvj, fun _ => Keep.refl _ _, ?_⟩, fun e => (fj0 e).congr (zbj ht t v0)⟩
  refine ⟨c'.move (fun k hk => (zbs ht t vj k hk).symm) fun v h' hh hk => ?_, fun e => (fi e).congr fun k hk => (zbs ht t vj k hk).symm⟩
  obtain ⟨kp, fj, u, hu, hk⟩ := hk
  rw [same v h' hh kp fj, hvj] at hu
  cases hu
  refine ⟨kp, ?_⟩
  show K _ _
  rw [<- zeO ht]; exact hk

theorem Awp.front {F : List Nat} {K : Tm -> H -> Prop} {j : SI × Nat} {post : List (SI × Nat)} : ∀ (pre : List (SI × Nat)), (∀ i ∈ pre, zqo i j) -> ∀ {t : Tm} {h : H}, Awp P F K (pre ++ j :: post) t h -> Awp P F K (j :: (pre ++ post)) t h
 | [], _, t, h, c => c
 | i :: pre, hf, t, h, c => by
  have c' : Astep P F i t h fun t' h' => Awp P F K (j :: (pre ++ post)) t' h' := Astep.mono (fun t' h' hk => Awp.front pre (fun i hi => hf i (by simp [hi])) hk) c
  exact Astep.swap (hf i (by simp)) c'

def zfb (sis : List SI) (ms : Nat -> Nat) (p : Nat × Nat) : Bool :=
 (ms p.1 == 1 && ms p.2 == 2 && (sis.getD p.2 default).cls != 2) || (ms p.1 == 2 && ms p.2 == 1 && (sis.getD p.1 default).cls != 2)
theorem ziW {ops : Array Oper} {sis : List SI} {ms : Nat -> Nat} (hf : ∀ p ∈ zbG ops sis, zfb sis ms p = true) {i j : Nat} (hij : i < j) (hj : j < sis.length) (hp : ¬ Pre ops i j) :
  (((sis.getD i default).cls ≠ 2 ∨ (sis.getD j default).cls = 0) ∧ ((sis.getD i default).cls = 0 ∨ (sis.getD j default).cls ≠ 2)) ∨ (ms i = 1 ∧ ms j = 2 ∧ (sis.getD j default).cls ≠ 2) ∨ (ms i = 2 ∧ ms j = 1 ∧ (sis.getD i default).cls ≠ 2) := by
 have hb : ((zeb ops.toList []).getD j 0).testBit i = false := by
  cases hb : ((zeb ops.toList []).getD j 0).testBit i with
  | false => rfl
  | true => exact absurd (zc4 ops.toList [] (by simp) (by simp) j i hb) hp
 by_cases hm : (i, j) ∈ zbG ops sis
 ·right
  have := hf _ hm
  simp only [zfb, Bool.or_eq_true, Bool.and_eq_true, beq_iff_eq, bne_iff_ne, ne_eq] at this
  rcases this with ⟨⟨a, b⟩, c⟩ | ⟨⟨a, b⟩, c⟩
  ·exact .inl ⟨a, b, c⟩
  ·exact .inr ⟨a, b, c⟩
 ·left
  unfold zbG at hm
  simp only [List.mem_flatMap, List.mem_range, List.mem_map, List.mem_filter, Bool.and_eq_true, Bool.not_eq_true', Bool.or_eq_true, beq_iff_eq, bne_iff_ne] at hm
  have hc : ¬ ((((sis.getD i default).cls = 2) ∧ (sis.getD j default).cls ≠ 0) ∨ ((sis.getD i default).cls ≠ 0 ∧ (sis.getD j default).cls = 2)) := fun h => hm ⟨j, hj, i, ⟨hij, hb, h⟩, rfl⟩
  refine ⟨?_, ?_⟩
  ·by_cases h : (sis.getD i default).cls = 2
   ·right
    by_cases h2 : (sis.getD j default).cls = 0
    ·exact h2
    ·exact absurd (.inl ⟨h, h2⟩) hc
   ·exact .inl h
  ·by_cases h : (sis.getD i default).cls = 0
   ·exact .inl h
   ·right
    intro h2
    exact hc (.inr ⟨h, h2⟩)

def zee (sis : List SI) (ms : Nat -> Nat) (i : Nat) : SI × Nat := (sis.getD i default, ms i)
def zf6 (sis : List SI) (ms : Nat -> Nat) (S : Nat -> Bool) : List (SI × Nat) := ((List.range sis.length).filter fun i => !S i).map (zee sis ms)
theorem zhc {sis : List SI} {ms : Nat -> Nat} {S S' : Nat -> Bool} {j : Nat} (hj : j < sis.length) (hS : S j = false) (hS' : ∀ i, S' i = (S i || i == j)) :
  ∃ pre post, zf6 sis ms S = pre ++ zee sis ms j :: post ∧ zf6 sis ms S' = pre ++ post ∧ ∀ s ∈ pre, ∃ i, i < j ∧ S i = false ∧ s = zee sis ms i := by
 refine ⟨((List.range j).filter fun i => !S i).map (zee sis ms), ((List.range' (j + 1) (sis.length - j - 1)).filter fun i => !S i).map (zee sis ms), ?_, ?_, ?_⟩
 ·unfold zf6
  rw [zbq hj, List.filter_append, List.filter_cons_of_pos (by simp [hS])]
  simp
 ·unfold zf6
  rw [zbq hj, List.filter_append, List.filter_cons_of_neg (by simp [hS'])]
  rw [List.map_append]
  congr 2
  ·refine List.filter_congr fun i hi => ?_
   have : i ≠ j := by have := List.mem_range.1 hi; omega
   simp [hS', this]
  ·refine List.filter_congr fun i hi => ?_
   have : i ≠ j := by have := List.mem_range'_1.1 hi; omega
   simp [hS', this]
 ·intro s hs
  simp only [List.mem_map, List.mem_filter, List.mem_range, Bool.not_eq_true'] at hs
  obtain ⟨i, ⟨h1, h2⟩, rfl⟩ := hs
  exact ⟨i, h1, h2, rfl⟩
theorem ziE {sis : List SI} {ms : Nat -> Nat} {S : Nat -> Bool} (h : ∀ i, i < sis.length -> S i = true) : zf6 sis ms S = [] := by
 unfold zf6
 rw [List.map_eq_nil_iff, List.filter_eq_nil_iff]
 intro i hi
 simp [h i (List.mem_range.1 hi)]

section go
variable {N : Nat} {W0 : World} {μ0 : Nat -> Pl} {h0 : H} {ops : Array Oper} {sis : List SI} {ms : Nat -> Nat} {F : List Nat} {ro : Option Nat} {ds : List Deferred}

theorem zm6 {K : Tm -> H -> Prop} {Q : Exit -> Act -> World -> Prop} (hK : ∀ t h a w, K t h -> St N ds W0 μ0 h0 t h a w -> Q .normal a w) (hm : ops.toList.mapM (zaj P N ops) = some sis) (hgd : ∀ o ∈ ops.toList, ∀ d b, za1 ops o = some (some (d, b)) -> d < N)
  (hd : zbp ops sis = true) (hf : ∀ p ∈ zbG ops sis, zfb sis ms p = true) : ∀ (fuel : Nat) (listed : Array Bool) (t : Tm) (h : H) (a : Act) (w : World), listed.size = ops.size -> zaX listed = fuel -> zdp ops (fun i => listed.getD i false) ->
  Awp P F K (zf6 sis ms fun i => listed.getD i false) t h -> St N ds W0 μ0 h0 t h a w -> wpAnyIn (RF ro) 0 P .any ops Q fuel listed a w := by
 have mapLen : ∀ (l : List Oper) (ss : List SI), l.mapM (zaj P N ops) = some ss -> ss.length = l.length ∧ ∀ (j : Nat) (o : Oper), l[j]? = some o -> ∃ s, ss[j]? = some s ∧ zaj P N ops o = some s := by
  intro l
  induction l with
  | nil => intro ss e; simp at e; subst e; simp
  | cons o l ih =>
   intro ss e
   simp only [List.mapM_cons, Option.bind_eq_bind, Option.pure_def] at e
   obtain ⟨s, hs, e⟩ := bind_some e
   obtain ⟨ss', hss, e⟩ := bind_some e
   cases e
   obtain ⟨h1, h2⟩ := ih ss' hss
   refine ⟨by simp [h1], fun j o' ho => ?_⟩
   cases j with
   | zero => simp at ho; subst ho; exact ⟨s, rfl, hs⟩
   | succ j => simpa using h2 j o' (by simpa using ho)
 obtain ⟨hlen, hcomp⟩ := mapLen _ _ hm
 have hlen' : sis.length = ops.size := by simpa using hlen
 have final : ∀ (listed : Array Bool) (t : Tm) (h : H) (a : Act) (w : World), (∀ i, i < sis.length -> listed.getD i false = true) -> Awp P F K (zf6 sis ms fun i => listed.getD i false) t h -> St N ds W0 μ0 h0 t h a w -> Q .normal a w := by
  intro listed t h a w hall c hs
  rw [ziE hall] at c
  exact hK _ _ _ _ c hs
 have ready_nil : ∀ (listed : Array Bool), listed.size = ops.size -> Region.ready .any ops listed = [] -> ∀ i, i < sis.length -> listed.getD i false = true := by
  intro listed hsz hr
  have : ∀ n i, i < n -> i < sis.length -> listed.getD i false = true := by
   intro n
   induction n with
   | zero => intro i hi; omega
   | succ n ih =>
    intro i hi hin
    by_cases e : i = n
    ·subst e
     cases hl : listed.getD i false with
     | true => rfl
     | false =>
      exfalso
      have ho : ops[i]? = some ops[i] := Array.getElem?_eq_getElem (by omega)
      have : i ∈ Region.ready .any ops listed := by
       rw [mem_ready]
       refine ⟨?_, ops[i], ho, fun e he hb => ih e.on (zaR hd ho he hb) (by have := zaR hd ho he hb; omega)⟩
       rw [Array.getD_eq_getD_getElem?] at hl ⊢
       have : listed[i]? = some listed[i] := Array.getElem?_eq_getElem (by omega)
       rw [this] at hl ⊢
       simpa using hl
      rw [hr] at this; cases this
    ·exact ih i (by omega) hin
  exact fun i hi => this (i + 1) i (by omega) hi
 intro fuel
 induction fuel with
 | zero =>
  intro listed t h a w hsz hu _ c hs
  have hall : ∀ i, i < listed.size -> listed.getD i true = true := by
   intro i hi
   have hl : listed[i]? = some listed[i] := Array.getElem?_eq_getElem hi
   cases hb : listed[i] with
   | true => simp [Array.getD_eq_getD_getElem?, hl, hb]
   | false =>
    exfalso
    have hmem : false ∈ listed.toList := by
     have := Array.getElem_mem hi
     rw [hb] at this
     simpa using this
    have : false ∈ listed.toList.filter (!·) := by simpa [List.mem_filter] using hmem
    unfold zaX at hu
    rw [List.eq_nil_of_length_eq_zero hu] at this
    cases this
  refine ⟨?_, final listed t h a w (fun i hi => ?_) c hs⟩
  ·apply List.eq_nil_iff_forall_not_mem.2
   intro i hi
   rw [mem_ready] at hi
   obtain ⟨h1, o, ho, _⟩ := hi
   have := hall i (by rw [hsz]; exact (Array.getElem?_eq_some_iff.1 ho).1)
   rw [this] at h1; cases h1
  ·have := hall i (by omega)
   rw [Array.getD_eq_getD_getElem?] at this ⊢
   have hl : listed[i]? = some listed[i] := Array.getElem?_eq_getElem (by omega)
   rw [hl] at this ⊢
   exact this
 | succ fuel ih =>
  intro listed t h a w hsz hu hcl c hs
  refine ⟨fun hr => final listed t h a w (ready_nil listed hsz hr) c hs, fun j hj => ?_⟩
  rw [mem_ready] at hj
  obtain ⟨hj1, o, ho, hpre⟩ := hj
  have hjlt : j < ops.size := (Array.getElem?_eq_some_iff.1 ho).1
  obtain ⟨s, hsj, hcs⟩ := hcomp j o (by simpa using ho)
  have hj0 : listed.getD j false = false := by
   rw [Array.getD_eq_getD_getElem?] at hj1 ⊢
   have hl : listed[j]? = some listed[j] := Array.getElem?_eq_getElem (by omega)
   rw [hl] at hj1 ⊢
   exact hj1
  have hp : ∀ i, Pre ops i j -> listed.getD i false = true := by
   intro i hpi
   cases hpi with
   | edge ho' he hb => rw [ho] at ho'; cases ho'; exact hpre _ he hb
   | step ho' he hb hrest => rw [ho] at ho'; cases ho'; exact hcl _ _ (hpre _ he hb) hrest
  have hS' : ∀ i, (listed.setIfInBounds j true).getD i false = (listed.getD i false || i == j) := by
   intro i
   by_cases e : i = j
   ·subst e
    simp [Array.getD_eq_getD_getElem?, hsz, hjlt]
   ·have : (i == j) = false := by simpa using e
    rw [this, Bool.or_false, getD_set_ne false (fun h => e h.symm)]
  obtain ⟨pre, post, e1, e2, hpr⟩ := zhc (sis := sis) (ms := ms) (S := fun i => listed.getD i false) (S' := fun i => (listed.setIfInBounds j true).getD i false) (by omega) hj0 hS'
  have hsj' : sis.getD j default = s := zbw hsj
  rw [e1] at c
  have c2 := Awp.front pre (fun si hsi => by
   obtain ⟨i, hij, hSi, rfl⟩ := hpr si hsi
   have hnp : ¬ Pre ops i j := fun hpp => by have := hp i hpp; simp only [hSi] at this; cases this
   have hjl : j < sis.length := by omega
   refine ⟨?_, ziW hf hij hjl hnp⟩
   show zbD (sis.getD i default) (sis.getD j default) = false
   cases htt : zbD (sis.getD i default) (sis.getD j default) with
   | false => rfl
   | true => exact absurd (zbt hd hij hjl htt) hnp) c
  have c3 : Sstep P s t h fun t' h' => Awp P F K (pre ++ post) t' h' := by
   have := c2.1
   simp only [zee, hsj'] at this
   exact this.mono fun _ _ x => x.2
  refine zeJ hcs (hgd o (by simpa using Array.mem_of_getElem? ho)) ho c3 hs fun t' h' a' w' hk hs' => ?_
  refine ih _ t' h' a' w' (by simpa using hsz) (by have := zbH hj1; omega) ?_ (by rw [e2]; exact hk) hs'
  intro i k hk hpik
  simp only [hS', Bool.or_eq_true, beq_iff_eq] at hk ⊢
  rcases hk with hk | rfl
  ·exact .inl (hcl i k hk hpik)
  ·exact .inl (hp i hpik)

theorem zn8 {K : Tm -> H -> Prop} {Q : Exit -> Act -> World -> Prop} (hmix : P.follows .mixedOrders = true) (hK : ∀ t h a w, K t h -> St N ds W0 μ0 h0 t h a w -> Q .normal a w)
  (hm : ops.toList.mapM (zaj P N ops) = some sis) (hgd : ∀ o ∈ ops.toList, ∀ d b, za1 ops o = some (some (d, b)) -> d < N) (hd : zbp ops sis = true) (hf : ∀ p ∈ zbG ops sis, zfb sis ms p = true) {t : Tm} {h : H} (c : Awp P F K ((List.range sis.length).map (zee sis ms)) t h) {a : Act} {w : World} (hs : St N ds W0 μ0 h0 t h a w) {id : Nat} :
  (Code.region id ops true).wpIn (RF ro) 0 P Q a w := by
 have hs' : St N ds W0 μ0 h0 t h a w.drew := by
  obtain ⟨μ, h1, h2, h3, hr, x0⟩ := hs
  exact ⟨μ, h1, h2, h3, hr.drew, x0⟩
 have hz : ∀ i, (Array.replicate ops.size false).getD i false = false := by
  intro i
  rw [Array.getD_eq_getD_getElem?, Array.getElem?_replicate]; split <;> rfl
 refine wpIn_region_any hmix (zm6 (F := F) hK hm hgd hd hf ops.size (Array.replicate ops.size false) t h a _ (by simp) (zbC _) ?_ ?_ hs')
 ·intro i j hj; simp [Array.getD_eq_getD_getElem?, Array.getElem?_replicate] at hj; split at hj <;> simp at hj
 ·unfold zf6
  rw [List.filter_eq_self.2 (by intro i _; simp [hz])]
  exact c
end go
end Go.Am
