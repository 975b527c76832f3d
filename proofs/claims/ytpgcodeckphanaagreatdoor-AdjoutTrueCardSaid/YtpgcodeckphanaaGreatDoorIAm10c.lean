/-
 AM, PART 10c. Regions that draw their order and in which what is unordered is not busy with the heap: the walk of the text serves.
-/
import Derived.Test.YtpgcodeckphanaaGreatDoorIAm10b
namespace Go.Am

variable {P : Program}

def Sstep (P : Program) (s : SI) (t : Tm) (h : H) (K : Tm -> H -> Prop) : Prop :=
 match zao s.guard t with
 | none => False
 | some false => K (t.put s.dst .undef) h
 | some true =>
  match s.ins with
  | .call f args => ∃ Q' : V -> H -> Prop, (∃ v h', Q' v h') ∧ zdA P (f.ev t) (args.map (·.ev t)) h Q' ∧ ∀ v h', Q' v h' -> K (t.put s.dst v) h'
  | .op i => match exec i t h.get h.next with
   | some (v, d) => K (t.put s.dst v) (h.app d)
   | none => False
def Swp (P : Program) (K : Tm -> H -> Prop) : List SI -> Tm -> H -> Prop
 | [], t, h => K t h
 | s :: l, t, h => Sstep P s t h (Swp P K l)

theorem zcM {s : SI} {t t' : Tm} (ht : ∀ i ∈ s.looks, t i = t' i) : zao s.guard t = zao s.guard t' := by
 unfold zao
 cases hgs : s.guard with
 | none => rfl
 | some p =>
  obtain ⟨d, w⟩ := p
  have := ht d (by simp [SI.looks, hgs])
  simp only [this]

theorem Sstep.move {s : SI} {t t' : Tm} {h : H} {K K' : Tm -> H -> Prop} (ht : ∀ i ∈ s.looks, t i = t' i) (hk : ∀ v h', (s.cls ≠ 2 -> h' = h) -> K (t.put s.dst v) h' -> K' (t'.put s.dst v) h') (c : Sstep P s t h K) : Sstep P s t' h K' := by
 unfold Sstep at c ⊢
 rw [<- zcM ht]
 split at c
 ·exact c
 ·exact hk _ _ (fun _ => rfl) c
 ·split at c
  ·rename_i f args hi
   have e1 : f.ev t = f.ev t' := A.ev_congr fun k hk => ht k (by simp [SI.looks, hi, X.rd, hk])
   have e2 : args.map (·.ev t) = args.map (·.ev t') := zcr fun k hk => ht k (by
    simp only [SI.looks, hi, X.rd, List.mem_append]; exact .inl (.inr hk))
   obtain ⟨Q', hs, hc, hq⟩ := c
   rw [e1, e2] at hc
   exact ⟨Q', hs, hc, fun v h' q => hk v h' (fun hn => absurd (by simp [SI.cls, hi]) hn) (hq v h' q)⟩
  ·rename_i i hi
   have ea : exec i t h.get h.next = exec i t' h.get h.next := zd4 fun k hk => ht k (by simp [SI.looks, hi, X.rd, hk])
   split at c
   ·rename_i v d he
    rw [ea] at he
    simp only [he]
    refine hk v _ (fun hn => ?_) c
    have : i.cls ≠ 2 := by simpa [SI.cls, hi] using hn
    rw [zcl this he]; rfl
   ·exact c.elim

theorem Sstep.mono {s : SI} {t : Tm} {h : H} {K K' : Tm -> H -> Prop} (hk : ∀ t h, K t h -> K' t h) (c : Sstep P s t h K) : Sstep P s t h K' := c.move (fun _ _ => rfl) fun _ _ _ => hk _ _
theorem Sstep.sat {s : SI} {t : Tm} {h : H} {K : Tm -> H -> Prop} (c : Sstep P s t h K) : ∃ v h', (s.cls ≠ 2 -> h' = h) ∧ K (t.put s.dst v) h' := by
 unfold Sstep at c
 split at c
 ·exact c.elim
 ·exact ⟨_, _, fun _ => rfl, c⟩
 ·split at c
  ·rename_i f args hi
   obtain ⟨Q', ⟨v, h', q⟩, _, hq⟩ := c
   exact ⟨v, h', fun hn => absurd (by simp [SI.cls, hi]) hn, hq v h' q⟩
  ·rename_i i hi
   split at c
   ·rename_i v d he
    refine ⟨v, _, fun hn => ?_, c⟩
    have : i.cls ≠ 2 := by simpa [SI.cls, hi] using hn
    rw [zcl this he]; rfl
   ·exact c.elim

def zdS (s : SI) (t : Tm) (h : H) : Option V :=
 match zao s.guard t with
 | none => none
 | some false => some .undef
 | some true => match s.ins with
  | .call _ _ => none
  | .op i => (exec i t h.get h.next).map (·.1)
theorem Sstep.val {s : SI} (hc : s.cls ≠ 2) {t : Tm} {h : H} {K : Tm -> H -> Prop} : Sstep P s t h K ↔ ∃ v, zdS s t h = some v ∧ K (t.put s.dst v) h := by
 unfold Sstep zdS
 split
 ·simp
 ·simp
 ·split
  ·rename_i hi; exact absurd (by simp [SI.cls, hi]) hc
  ·rename_i i hi
   have hc' : i.cls ≠ 2 := by simpa [SI.cls, hi] using hc
   split
   ·rename_i v d he
    rw [zcl hc' he]
    simp [he, H.app]
   ·rename_i he
    simp [he]
theorem zbc {s : SI} {t t' : Tm} {h h' : H} (ht : ∀ i ∈ s.looks, t i = t' i) (hh : s.cls = 0 ∨ h = h') : zdS s t h = zdS s t' h' := by
 unfold zdS
 rw [<- zcM ht]
 split
 ·rfl
 ·rfl
 ·split
  ·rfl
  ·rename_i i hi
   rw [zd4 (t := t) (t' := t') fun k hk => ht k (by simp [SI.looks, hi, X.rd, hk])]
   rcases hh with h0 | rfl
   ·rw [zjZ (get' := h'.get) (next' := h'.next) (by simpa [SI.cls, hi] using h0)]
   ·rfl

theorem zbj {a b : SI} (ht : zbD a b = false) (t : Tm) (v : V) : ∀ i ∈ b.looks, (t.put a.dst v) i = t i := by
 intro i hi
 cases hd : a.dst with
 | none => rfl
 | some d =>
  by_cases e : i = d
  ·subst e
   rw [(zeM hd hi).1] at ht; cases ht
  ·simp [Tm.put, e]
theorem zbs {a b : SI} (ht : zbD a b = false) (t : Tm) (v : V) : ∀ i ∈ a.looks, (t.put b.dst v) i = t i := by
 intro i hi
 cases hd : b.dst with
 | none => rfl
 | some d =>
  by_cases e : i = d
  ·subst e
   rw [(zeM hd hi).2] at ht; cases ht
  ·simp [Tm.put, e]
theorem zeO {a b : SI} (ht : zbD a b = false) (t : Tm) (v u : V) : (t.put a.dst v).put b.dst u = (t.put b.dst u).put a.dst v := by
 cases ha : a.dst with
 | none => rfl
 | some d =>
  cases hb : b.dst with
  | none => rfl
  | some e =>
   have : d ≠ e := by
    rintro rfl
    rw [(zih ha hb).1] at ht; cases ht
   funext k
   simp only [Tm.put]
   by_cases h1 : k = d <;> by_cases h2 : k = e <;> simp_all

def Free (i j : SI) : Prop := zbD i j = false ∧ (i.cls ≠ 2 ∨ j.cls = 0) ∧ (i.cls = 0 ∨ j.cls ≠ 2)

theorem Sstep.swap {i j : SI} (f : Free i j) {t : Tm} {h : H} {K : Tm -> H -> Prop} (c : Sstep P i t h fun t' h' => Sstep P j t' h' K) : Sstep P j t h fun t' h' => Sstep P i t' h' K := by
 obtain ⟨ht, f1, f2⟩ := f
 by_cases hj : j.cls = 2
 ·have hi0 : i.cls = 0 := f2.resolve_right (fun h => h hj)
  have hi : i.cls ≠ 2 := by omega
  obtain ⟨vi, hv, c⟩ := (Sstep.val hi).1 c
  refine c.move (zbj ht t vi) fun v h' _ hk => ?_
  refine (Sstep.val hi).2 ⟨vi, ?_, ?_⟩
  ·rw [zbc (t' := t) (h' := h) (zbs ht t v) (.inl hi0)]; exact hv
  ·rw [<- zeO ht]; exact hk
 ·have c' := c.mono (K' := fun t' h' => ∃ v, zdS j t' h' = some v ∧ K (t'.put j.dst v) h') fun t' h' hk => (Sstep.val hj).1 hk
  have same : ∀ (v : V) (h' : H), (i.cls ≠ 2 -> h' = h) -> zdS j (t.put i.dst v) h' = zdS j t h := fun v h' hh => zbc (zbj ht t v) (f1.elim (fun h2 => .inr (hh h2)) .inl)
  obtain ⟨v0, h0, hh0, vj, hvj, _⟩ := c'.sat
  rw [same v0 h0 hh0] at hvj
  refine (Sstep.val hj).2 ⟨vj, hvj, ?_⟩
  refine c'.move (fun k hk => (zbs ht t vj k hk).symm) fun v h' hh hk => ?_
  obtain ⟨u, hu, hk⟩ := hk
  rw [same v h' hh, hvj] at hu
  cases hu
  rw [<- zeO ht]; exact hk

theorem Swp.front {K : Tm -> H -> Prop} {j : SI} {post : List SI} : ∀ (pre : List SI), (∀ i ∈ pre, Free i j) -> ∀ {t : Tm} {h : H}, Swp P K (pre ++ j :: post) t h -> Swp P K (j :: (pre ++ post)) t h
 | [], _, t, h, c => c
 | i :: pre, hf, t, h, c => by
  have c' : Sstep P i t h fun t' h' => Swp P K (j :: (pre ++ post)) t' h' := Sstep.mono (fun t' h' hk => Swp.front pre (fun i hi => hf i (by simp [hi])) hk) c
  exact Sstep.swap (hf i (by simp)) c'

theorem zg6 {ops : Array Oper} {sis : List SI} (hf : zbG ops sis = []) {i j : Nat} (hij : i < j) (hj : j < sis.length) (hp : ¬ Pre ops i j) : ((sis.getD i default).cls ≠ 2 ∨ (sis.getD j default).cls = 0) ∧ ((sis.getD i default).cls = 0 ∨ (sis.getD j default).cls ≠ 2) := by
 have hb : ((zeb ops.toList []).getD j 0).testBit i = false := by
  cases hb : ((zeb ops.toList []).getD j 0).testBit i with
  | false => rfl
  | true => exact absurd (zc4 ops.toList [] (by simp) (by simp) j i hb) hp
 unfold zbG at hf
 rw [List.flatMap_eq_nil_iff] at hf
 have h1 := hf j (by simpa using hj)
 rw [List.map_eq_nil_iff, List.filter_eq_nil_iff] at h1
 have h2 := h1 i (by simpa using hij)
 simp only [hb, Bool.not_false, Bool.true_and, Bool.or_eq_true, Bool.and_eq_true, beq_iff_eq, bne_iff_ne, ne_eq, not_or, not_and, Decidable.not_not] at h2
 refine ⟨?_, ?_⟩
 ·by_cases h : (sis.getD i default).cls = 2
  ·exact .inr (h2.1 h)
  ·exact .inl h
 ·by_cases h : (sis.getD i default).cls = 0
  ·exact .inl h
  ·exact .inr (h2.2 h)

theorem zbq {n j : Nat} (h : j < n) : List.range n = List.range j ++ j :: List.range' (j + 1) (n - j - 1) := by
 rw [List.range_eq_range', List.range_eq_range', show n = j + (n - j) by omega, <- List.range'_append_1]
 congr 1
 rw [show 0 + j = j by omega, show n - j = (n - j - 1) + 1 by omega, List.range'_succ]
 simp

def zcc (sis : List SI) (S : Nat -> Bool) : List SI := ((List.range sis.length).filter fun i => !S i).map fun i => sis.getD i default
theorem zfF {sis : List SI} {S S' : Nat -> Bool} {j : Nat} (hj : j < sis.length) (hS : S j = false) (hS' : ∀ i, S' i = (S i || i == j)) :
  ∃ pre post, zcc sis S = pre ++ sis.getD j default :: post ∧ zcc sis S' = pre ++ post ∧ ∀ s ∈ pre, ∃ i, i < j ∧ S i = false ∧ s = sis.getD i default := by
 refine ⟨((List.range j).filter fun i => !S i).map fun i => sis.getD i default, ((List.range' (j + 1) (sis.length - j - 1)).filter fun i => !S i).map fun i => sis.getD i default, ?_, ?_, ?_⟩
 ·unfold zcc
  rw [zbq hj, List.filter_append, List.filter_cons_of_pos (by simp [hS])]
  simp
 ·unfold zcc
  rw [zbq hj, List.filter_append, List.filter_cons_of_neg (by simp [hS'])]
  rw [List.map_append]
  congr 2
  ·refine List.filter_congr fun i hi => ?_
   have : i ≠ j := by have := List.mem_range.1 hi; omega
   simp [hS', this]
  ·refine List.filter_congr fun i hi => ?_
   have : i ≠ j := by have := List.mem_range'_1.1 hi; omega
   simp [hS', this]
 ·intro s hs
  simp only [List.mem_map, List.mem_filter, List.mem_range, Bool.not_eq_true'] at hs
  obtain ⟨i, ⟨h1, h2⟩, rfl⟩ := hs
  exact ⟨i, h1, h2, rfl⟩

section go
variable {N : Nat} {W0 : World} {μ0 : Nat -> Pl} {h0 : H} {ops : Array Oper} {sis : List SI} {ro : Option Nat} {ds : List Deferred}

theorem zeJ {Q' : Exit -> Act -> World -> Prop} {o : Oper} {s : SI} (hsi : zaj P N ops o = some s) (hg : ∀ d b, za1 ops o = some (some (d, b)) -> d < N) {t : Tm} {h : H} {a : Act} {w : World} {j : Nat} (hoj : ops[j]? = some o)
  {K : Tm -> H -> Prop} (hst : Sstep P s t h K) (hs : St N ds W0 μ0 h0 t h a w) {next : Act -> World -> Prop} (hn : ∀ t' h' a' w', K t' h' -> St N ds W0 μ0 h0 t' h' a' w' -> next a' w') : wpOpIn (RF ro) 0 P ops Q' j next a w := by
 simp only [zaj, Option.bind_eq_bind, Option.pure_def] at hsi
 obtain ⟨gd, hgo, hsi⟩ := bind_some hsi
 obtain ⟨ins, hins, hsi⟩ := bind_some hsi
 split at hsi
 ·rename_i hdst
  cases hsi
  obtain ⟨μ, h1, h2, h3, hr, x0⟩ := hs
  unfold wpOpIn
  simp only [hoj]
  unfold Sstep at hst
  split at hst
  ·exact hst.elim
  ·rename_i hgv
   have hw := zdd hgo h3 (fun d b e => by rw [h2]; exact hg d b (by rw [hgo, e])) hgv
   simp only [hw, Bool.false_eq_true, if_false]
   exact ⟨fun _ _ => zeW _ _, hn _ _ _ _ hst (St.put hdst h1 h2 h3 hr zdM (Ext.refl _ _) x0)⟩
  ·rename_i hgv
   have hw := zdd hgo h3 (fun d b e => by rw [h2]; exact hg d b (by rw [hgo, e])) hgv
   simp only [hw, if_true]
   unfold zeG at hins
   split at hins
   rotate_left
   ·obtain ⟨⟨f, args⟩, hcc, rfl⟩ := zae hins
    obtain ⟨Q1, _, hcall, hq1⟩ := hst
    exact zhK h3 hr hcc hcall fun v cv h' μ' w' hq hr' hv' x => hn _ _ _ _ (hq1 v h' hq) (St.put hdst h1 h2 h3 hr' hv' x x0)
   ·rename_i ii hci
    cases hins
    simp only at hst
    split at hst
    ·rename_i v d hex
     obtain ⟨nx, cv, w', μ', hrun, hnx, hr', hv', x, _⟩ := zhi (P := P) hr (hr.next _ (Nat.le_refl _)) (zem h3) hci hex
     rw [H.appAt_next] at hr' hv' x
     have hst' : St N ds W0 μ0 h0 (t.put o.dst v) (h.app d) (a.put o.dst cv) w' := St.put hdst h1 h2 h3 hr' hv' x x0
     unfold Oper.wpIn
     refine ⟨fun _ _ => zeW _ _, ?_⟩
     rw [Oper.semAt_eq _ _ _ (zbv hci), hrun]
     rcases hnx with rfl | ⟨rfl, rfl⟩
     ·rw [Oper.uponIn_value]; exact hn _ _ _ _ hst hst'
     ·rw [Oper.uponIn_skip]; exact hn _ _ _ _ hst hst'
    ·exact hst.elim
 ·cases hsi

theorem zgy {S : Nat -> Bool} (h : ∀ i, i < sis.length -> S i = true) : zcc sis S = [] := by
 unfold zcc
 rw [List.map_eq_nil_iff, List.filter_eq_nil_iff]
 intro i hi
 simp [h i (List.mem_range.1 hi)]

theorem zm8 {K : Tm -> H -> Prop} {Q : Exit -> Act -> World -> Prop} (hK : ∀ t h a w, K t h -> St N ds W0 μ0 h0 t h a w -> Q .normal a w) (hm : ops.toList.mapM (zaj P N ops) = some sis) (hgd : ∀ o ∈ ops.toList, ∀ d b, za1 ops o = some (some (d, b)) -> d < N)
  (hd : zbp ops sis = true) (hf : zbG ops sis = []) : ∀ (fuel : Nat) (listed : Array Bool) (t : Tm) (h : H) (a : Act) (w : World), listed.size = ops.size -> zaX listed = fuel -> zdp ops (fun i => listed.getD i false) ->
  Swp P K (zcc sis fun i => listed.getD i false) t h -> St N ds W0 μ0 h0 t h a w -> wpAnyIn (RF ro) 0 P .any ops Q fuel listed a w := by
 have mapLen : ∀ (l : List Oper) (ss : List SI), l.mapM (zaj P N ops) = some ss -> ss.length = l.length ∧ ∀ (j : Nat) (o : Oper), l[j]? = some o -> ∃ s, ss[j]? = some s ∧ zaj P N ops o = some s := by
  intro l
  induction l with
  | nil => intro ss e; simp at e; subst e; simp
  | cons o l ih =>
   intro ss e
   simp only [List.mapM_cons, Option.bind_eq_bind, Option.pure_def] at e
   obtain ⟨s, hs, e⟩ := bind_some e
   obtain ⟨ss', hss, e⟩ := bind_some e
   cases e
   obtain ⟨h1, h2⟩ := ih ss' hss
   refine ⟨by simp [h1], fun j o' ho => ?_⟩
   cases j with
   | zero => simp at ho; subst ho; exact ⟨s, rfl, hs⟩
   | succ j => simpa using h2 j o' (by simpa using ho)
 obtain ⟨hlen, hcomp⟩ := mapLen _ _ hm
 have hlen' : sis.length = ops.size := by simpa using hlen
 have final : ∀ (listed : Array Bool) (t : Tm) (h : H) (a : Act) (w : World), (∀ i, i < sis.length -> listed.getD i false = true) -> Swp P K (zcc sis fun i => listed.getD i false) t h -> St N ds W0 μ0 h0 t h a w -> Q .normal a w := by
  intro listed t h a w hall c hs
  rw [zgy hall] at c
  exact hK _ _ _ _ c hs
 have ready_nil : ∀ (listed : Array Bool), listed.size = ops.size -> Region.ready .any ops listed = [] -> ∀ i, i < sis.length -> listed.getD i false = true := by
  intro listed hsz hr
  have : ∀ n i, i < n -> i < sis.length -> listed.getD i false = true := by
   intro n
   induction n with
   | zero => intro i hi; omega
   | succ n ih =>
    intro i hi hin
    by_cases e : i = n
    ·subst e
     cases hl : listed.getD i false with
     | true => rfl
     | false =>
      exfalso
      have ho : ops[i]? = some ops[i] := Array.getElem?_eq_getElem (by omega)
      have : i ∈ Region.ready .any ops listed := by
       rw [mem_ready]
       refine ⟨?_, ops[i], ho, fun e he hb => ih e.on (zaR hd ho he hb) (by have := zaR hd ho he hb; omega)⟩
       rw [Array.getD_eq_getD_getElem?] at hl ⊢
       have : listed[i]? = some listed[i] := Array.getElem?_eq_getElem (by omega)
       rw [this] at hl ⊢
       simpa using hl
      rw [hr] at this; cases this
    ·exact ih i (by omega) hin
  exact fun i hi => this (i + 1) i (by omega) hi
 intro fuel
 induction fuel with
 | zero =>
  intro listed t h a w hsz hu _ c hs
  have hall : ∀ i, i < listed.size -> listed.getD i true = true := by
   intro i hi
   have hl : listed[i]? = some listed[i] := Array.getElem?_eq_getElem hi
   cases hb : listed[i] with
   | true => simp [Array.getD_eq_getD_getElem?, hl, hb]
   | false =>
    exfalso
    have hmem : false ∈ listed.toList := by
     have := Array.getElem_mem hi
     rw [hb] at this
     simpa using this
    have : false ∈ listed.toList.filter (!·) := by simpa [List.mem_filter] using hmem
    unfold zaX at hu
    rw [List.eq_nil_of_length_eq_zero hu] at this
    cases this
  refine ⟨?_, final listed t h a w (fun i hi => ?_) c hs⟩
  ·apply List.eq_nil_iff_forall_not_mem.2
   intro i hi
   rw [mem_ready] at hi
   obtain ⟨h1, o, ho, _⟩ := hi
   have := hall i (by rw [hsz]; exact (Array.getElem?_eq_some_iff.1 ho).1)
   rw [this] at h1; cases h1
  ·have := hall i (by omega)
   rw [Array.getD_eq_getD_getElem?] at this ⊢
   have hl : listed[i]? = some listed[i] := Array.getElem?_eq_getElem (by omega)
   rw [hl] at this ⊢
   exact this
 | succ fuel ih =>
  intro listed t h a w hsz hu hcl c hs
  refine ⟨fun hr => final listed t h a w (ready_nil listed hsz hr) c hs, fun j hj => ?_⟩
  rw [mem_ready] at hj
  obtain ⟨hj1, o, ho, hpre⟩ := hj
  have hjlt : j < ops.size := (Array.getElem?_eq_some_iff.1 ho).1
  obtain ⟨s, hsj, hcs⟩ := hcomp j o (by simpa using ho)
  have hj0 : listed.getD j false = false := by
   rw [Array.getD_eq_getD_getElem?] at hj1 ⊢
   have hl : listed[j]? = some listed[j] := Array.getElem?_eq_getElem (by omega)
   rw [hl] at hj1 ⊢
   exact hj1
  have hp : ∀ i, Pre ops i j -> listed.getD i false = true := by
   intro i hpi
   cases hpi with
   | edge ho' he hb => rw [ho] at ho'; cases ho'; exact hpre _ he hb
   | step ho' he hb hrest => rw [ho] at ho'; cases ho'; exact hcl _ _ (hpre _ he hb) hrest
  have hS' : ∀ i, (listed.setIfInBounds j true).getD i false = (listed.getD i false || i == j) := by
   intro i
   by_cases e : i = j
   ·subst e
    simp [Array.getD_eq_getD_getElem?, hsz, hjlt]
   ·have : (i == j) = false := by simpa using e
    rw [this, Bool.or_false, getD_set_ne false (fun h => e h.symm)]
  obtain ⟨pre, post, e1, e2, hpr⟩ := zfF (sis := sis) (S := fun i => listed.getD i false) (S' := fun i => (listed.setIfInBounds j true).getD i false) (by omega) hj0 hS'
  have hsj' : sis.getD j default = s := zbw hsj
  rw [e1, hsj'] at c
  have c2 := Swp.front pre (fun si hsi => by
   obtain ⟨i, hij, hSi, rfl⟩ := hpr si hsi
   have hnp : ¬ Pre ops i j := fun hpp => by have := hp i hpp; simp only [hSi] at this; cases this
   have hjl : j < sis.length := by omega
   obtain ⟨f1, f2⟩ := zg6 hf hij hjl hnp
   rw [hsj'] at f1 f2
   refine ⟨?_, f1, f2⟩
   cases htt : zbD (sis.getD i default) s with
   | false => rfl
   | true => exact absurd (zbt hd hij hjl (by rw [hsj']; exact htt)) hnp) c
  refine zeJ hcs (hgd o (by simpa using Array.mem_of_getElem? ho)) ho c2 hs fun t' h' a' w' hk hs' => ?_
  refine ih _ t' h' a' w' (by simpa using hsz) (by have := zbH hj1; omega) ?_ (by rw [e2]; exact hk) hs'
  intro i k hk hpik
  simp only [hS', Bool.or_eq_true, beq_iff_eq] at hk ⊢
  rcases hk with hk | rfl
  ·exact .inl (hcl i k hk hpik)
  ·exact .inl (hp i hpik)

theorem zn1 {K : Tm -> H -> Prop} {Q : Exit -> Act -> World -> Prop} (hmix : P.follows .mixedOrders = true) (hK : ∀ t h a w, K t h -> St N ds W0 μ0 h0 t h a w -> Q .normal a w)
  (hm : ops.toList.mapM (zaj P N ops) = some sis) (hgd : ∀ o ∈ ops.toList, ∀ d b, za1 ops o = some (some (d, b)) -> d < N) (hd : zbp ops sis = true) (hf : zbG ops sis = []) {t : Tm} {h : H} (c : Swp P K sis t h) {a : Act} {w : World} (hs : St N ds W0 μ0 h0 t h a w) {id : Nat} :
  (Code.region id ops true).wpIn (RF ro) 0 P Q a w := by
 have hs' : St N ds W0 μ0 h0 t h a w.drew := by
  obtain ⟨μ, h1, h2, h3, hr, x0⟩ := hs
  exact ⟨μ, h1, h2, h3, hr.drew, x0⟩
 have hz : ∀ i, (Array.replicate ops.size false).getD i false = false := by
  intro i
  rw [Array.getD_eq_getD_getElem?, Array.getElem?_replicate]; split <;> rfl
 refine wpIn_region_any hmix (zm8 hK hm hgd hd hf ops.size (Array.replicate ops.size false) t h a _ (by simp) (zbC _) ?_ ?_ hs')
 ·intro i j hj; simp [Array.getD_eq_getD_getElem?, Array.getElem?_replicate] at hj; split at hj <;> simp at hj
 ·have : (zcc sis fun i => (Array.replicate ops.size false).getD i false) = sis := by
   unfold zcc
   rw [List.filter_eq_self.2 (by intro i _; simp [hz])]
   refine List.ext_getElem (by simp) fun i h1 h2 => ?_
   simp [List.getD_eq_getElem?_getD, h2]
  rw [this]; exact c
end go
end Go.Am
