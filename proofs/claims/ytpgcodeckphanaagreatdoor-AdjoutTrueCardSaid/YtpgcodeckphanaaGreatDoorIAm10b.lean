/-
 AM, PART 10, b. Regions that draw their order: the walk of the text serves for every order.
-/
import Derived.Test.YtpgcodeckphanaaGreatDoorIAm10
namespace Go.Am

def zbT (p : Nat -> Bool) : Nat -> Option Nat
 | 0 => none
 | m + 1 => if p m then some m else zbT p m
theorem zba {p q : Nat -> Bool} {j : Nat} : ∀ (n : Nat), j ≤ n -> (∀ i, i < j -> p i = q i) -> (∀ i, j ≤ i -> i < n -> p i = false) -> zbT p n = zbT q j := by
 intro n
 induction n with
 | zero =>
      intro hj _ _; have : j = 0 := by omega
      subst this; rfl
 | succ n ih =>
  intro hj h1 h2
  by_cases e : j = n + 1
  ·subst e
   clear ih hj h2
   have : ∀ m, m ≤ n + 1 -> zbT p m = zbT q m := by
    intro m
    induction m with
    | zero => intro _; rfl
    | succ m ihm => intro hm; simp only [zbT, h1 m (by omega), ihm (by omega)]
   exact this _ (Nat.le_refl _)
  ·simp only [zbT, h2 n (by omega) (by omega), Bool.false_eq_true, if_false]
   exact ih (by omega) h1 (fun i a b => h2 i a (by omega))
theorem zir {p : Nat -> Bool} {j : Nat} : ∀ (n : Nat), j < n -> p j = true -> (∀ i, j < i -> i < n -> p i = false) -> zbT p n = some j := by
 intro n
 induction n with
 | zero => intro h; omega
 | succ n ih =>
  intro hj hp h2
  by_cases e : j = n
  ·subst e; simp [zbT, hp]
  ·simp only [zbT, h2 n (by omega) (by omega), Bool.false_eq_true, if_false]
   exact ih (by omega) hp (fun i a b => h2 i a (by omega))
theorem zdi {p : Nat -> Bool} {n : Nat} (h : ∀ i, i < n -> p i = false) : zbT p n = none := by
 rw [zba (q := p) (j := 0) n (Nat.zero_le _) (fun i hi => by omega) (fun i _ hi => h i hi)]; rfl
theorem zmb {p : Nat -> Prop} {n : Nat} (h : ∃ i, i < n ∧ p i) : ∃ i, i < n ∧ p i ∧ ∀ k, k < i -> ¬ p k := by
 obtain ⟨i, hi, hp⟩ := h
 induction i using Nat.strongRecOn with
 | _ i ih =>
  by_cases hex : ∃ k, k < i ∧ p k
  ·obtain ⟨k, hk, hpk⟩ := hex
   exact ih k hk (by omega) hpk
  ·exact ⟨i, hi, hp, fun k hk hpk => hex ⟨k, hk, hpk⟩⟩
def Ev.has (e : Ev) (i : Nat) : Bool := e.up.any (·.1 == i)
theorem zge {g : Nat -> Option O} {i : Nat} : ∀ {l : List (Nat × O)}, l.any (·.1 == i) = true -> upds g l i = upds (fun _ => none) l i
 | [], h => by simp at h
 | (k, o) :: l, h => by
  simp only [upds]
  by_cases e : i = k
  ·simp [e]
  ·have : (k == i) = false := by simp; exact fun h => e h.symm
   simp only [List.any_cons, this, Bool.false_or] at h
   simp only [e, if_false]
   exact zge h
theorem zdP {g : Nat -> Option O} {i : Nat} : ∀ {l : List (Nat × O)}, l.any (·.1 == i) = false -> upds g l i = g i
 | [], _ => rfl
 | (k, o) :: l, h => by
  simp only [List.any_cons, Bool.or_eq_false_iff] at h
  have : i ≠ k := by intro e; subst e; simp at h
  simp only [upds, this, if_false]
  exact zdP h.2
theorem zef {e : Ev} {i : Nat} : e.has i = true ↔ ∃ x ∈ e.up, x.1 = i := by
 simp [Ev.has, List.any_eq_true]
theorem zeX : ∀ {os : List O} {k i : Nat}, (names k os).any (·.1 == i) = true ↔ k ≤ i ∧ i < k + os.length
 | [], k, i => by simp [names]
 | o :: os, k, i => by
  simp only [names, List.any_cons, Bool.or_eq_true, beq_iff_eq, zeX (os := os), List.length_cons]
  omega
theorem zgE {g : Nat -> Option O} : ∀ {os : List O} {k i : Nat}, k ≤ i -> i < k + os.length -> upds g (names k os) i = os[i - k]?
 | [], k, i, h1, h2 => by simp at h2; omega
 | o :: os, k, i, h1, h2 => by
  simp only [names, upds]
  by_cases e : i = k
  ·subst e; simp
  ·rw [if_neg e, zgE (by omega) (by simp at h2; omega)]
   rw [show i - k = (i - (k + 1)) + 1 from by omega]
   simp
theorem zdu : ∀ (os : List O) (h : H), (zaS h os).next = h.next + os.length
 | [], h => rfl
 | o :: os, h => by simp [zaS, zdu os]; omega
theorem zdh : ∀ (os : List O) (h : H) (i : Nat), i < h.next -> (zaS h os).get i = h.get i
 | [], h, i, _ => rfl
 | o :: os, h, i, hi => by
  rw [zaS, zdh os _ i (by simp; omega), H.get_push, if_neg (by omega)]
theorem zd5 : ∀ (os : List O) (h : H) (r : Nat), r < os.length -> (zaS h os).get (h.next + r) = os[r]?
 | [], h, r, hr => by simp at hr
 | o :: os, h, r, hr => by
  cases r with
  | zero => rw [zaS, zdh os _ _ (by simp), H.get_push]; simp
  | succ r =>
   have := zd5 os (h.push o) r (by simpa using hr)
   simp only [H.next_push] at this
   rw [zaS, show h.next + (r + 1) = h.next + 1 + r from by omega, this]
   simp

section any
variable {P : Program} {N : Nat} {W0 : World} {μ0 : Nat -> Pl} {h0 : H} {K : Tm -> H -> Prop} {ops : Array Oper} {sis : List SI} {t : Tm} {h : H} {e1 : Nat} {tf : Nat -> Tm} {gf : Nat -> Nat -> Option O} {vf : Nat -> V} {ef : Nat -> Ev} {evs : List Ev} {ro : Option Nat} {ds : List Deferred}

def zcQ (sis : List SI) (i : Nat) : Option Nat := (sis.getD i default).dst
def tmS (sis : List SI) (t : Tm) (vf : Nat -> V) (S : Nat -> Bool) : Tm := fun k => match zbT (fun i => S i && zcQ sis i == some k) sis.length with | some i => vf i | none => t k
def gS (n : Nat) (get : Nat -> Option O) (ef : Nat -> Ev) (S : Nat -> Bool) : Nat -> Option O := fun i => match zbT (fun j => S j && (ef j).has i) n with | some j => upds (fun _ => none) (ef j).up i | none => get i

theorem zbw {sis : List SI} {j : Nat} {s : SI} (e : sis[j]? = some s) : sis.getD j default = s := by simp [List.getD_eq_getElem?_getD, e]

abbrev Tr (P : Program) (K : Tm -> H -> Prop) (ops : Array Oper) (sis : List SI) (t : Tm) (h : H) (e1 : Nat) := Trace P K (zbG ops sis) h.next e1 0 sis t h.get

theorem Trace.tf_eq (tr : Tr P K ops sis t h e1 tf gf vf ef evs) : ∀ j, j ≤ sis.length -> ∀ k, tf j k = match zbT (fun i => zcQ sis i == some k) j with | some i => vf i | none => t k := by
 intro j
 induction j with
 | zero => intro _ k; simp [zbT, tr.t0]
 | succ j ih =>
  intro hj k
  have hs : sis[j]? = some sis[j] := List.getElem?_eq_getElem (by omega)
  rw [(tr.step j _ hs).2.1]
  have hd : zcQ sis j = (sis[j]).dst := by rw [zcQ, zbw hs]
  simp only [zbT, hd]
  cases hdj : (sis[j]).dst with
  | none => simp [Tm.put, ih (by omega) k]
  | some d =>
   by_cases e : k = d
   ·subst e; simp [Tm.put]
   ·have e' : (some d == some k) = false := by simp; exact fun h => e h.symm
    simp [Tm.put, e, e', ih (by omega) k]
theorem Trace.gf_eq (tr : Tr P K ops sis t h e1 tf gf vf ef evs) : ∀ j, j ≤ sis.length -> ∀ i, gf j i = match zbT (fun j => (ef j).has i) j with | some j => upds (fun _ => none) (ef j).up i | none => h.get i := by
 intro j
 induction j with
 | zero => intro _ i; simp [zbT, tr.g0]
 | succ j ih =>
  intro hj i
  have hs : sis[j]? = some sis[j] := List.getElem?_eq_getElem (by omega)
  rw [(tr.step j _ hs).2.2]
  simp only [zbT]
  by_cases he : (ef j).has i = true
  ·rw [if_pos he]; exact zge he
  ·rw [if_neg he, zdP (Bool.eq_false_iff.2 he)]; exact ih (by omega) i

theorem Trace.own (tr : Tr P K ops sis t h e1 tf gf vf ef evs) {j : Nat} {s : SI} (hs : sis[j]? = some s) {i : Nat} (hi : (ef j).has i = true) : (∃ o, gf j i = some o) ∨ (h.next + j * room ≤ i ∧ i < h.next + j * room + room) := by
 have hst := (tr.step j s hs).1
 simp only [Nat.zero_add] at hst
 unfold StepOk at hst
 split at hst
 ·exact hst.elim
 ·rw [hst.2] at hi; simp [Ev.has] at hi
 ·split at hst
  ·obtain ⟨rd, os, hc, he⟩ := hst
   rw [he] at hi
   have := zeX.1 hi
   have := hc.1
   exact .inr (by omega)
  ·obtain ⟨d, hex, he⟩ := hst
   rw [he] at hi
   cases d with
   | keep => simp [Ev.has, D.ups] at hi
   | set k o =>
    simp [Ev.has, D.ups] at hi; subst hi
    exact .inl (zlg hex)
   | push o =>
    simp [Ev.has, D.ups] at hi; subst hi
    exact .inr ⟨Nat.le_refl _, by unfold room; omega⟩
theorem Trace.fresh (tr : Tr P K ops sis t h e1 tf gf vf ef evs) (hn : ∀ i, h.next ≤ i -> h.get i = none) : ∀ j, j ≤ sis.length -> ∀ i, h.next + j * room ≤ i -> gf j i = none := by
 intro j
 induction j with
 | zero => intro _ i hi; rw [tr.g0]; exact hn i (by omega)
 | succ j ih =>
  intro hj i hi
  have hs : sis[j]? = some sis[j] := List.getElem?_eq_getElem (by omega)
  have hij : h.next + j * room + room ≤ i := by rw [Nat.add_mul] at hi; omega
  have hnone := ih (by omega) i (by omega)
  rw [(tr.step j _ hs).2.2]
  cases he : (ef j).has i with
  | false => rw [zdP he]; exact hnone
  | true =>
   rcases tr.own hs he with ⟨o, ho⟩ | h2
   ·rw [hnone] at ho; cases ho
   ·omega

def zdp (ops : Array Oper) (S : Nat -> Bool) : Prop := ∀ i j, S j = true -> Pre ops i j -> S i = true

theorem zbt (hd : zbp ops sis = true) {i j : Nat} (hij : i < j) (hj : j < sis.length) (ht : zbD (sis.getD i default) (sis.getD j default) = true) : Pre ops i j := by
 simp only [zbp, Bool.and_eq_true, List.all_eq_true, List.mem_range, Bool.or_eq_true, Bool.not_eq_true'] at hd
 have := hd.1 j hj i hij
 rw [ht] at this
 exact zc4 ops.toList [] (by simp) (by simp) j i (this.resolve_left (by simp))
theorem zaR (hd : zbp ops sis = true) {j : Nat} {o : Oper} (ho : ops[j]? = some o) {e : Edge} (he : e ∈ o.after) (hb : Region.binds .any e = true) : e.on < j := by
 simp only [zbp, Bool.and_eq_true, List.all_eq_true, List.mem_range, Bool.or_eq_true, Bool.not_eq_true', Array.all_eq_true_iff_forall_mem, decide_eq_true_eq] at hd
 have hlt := (Array.getElem?_eq_some_iff.1 ho).1
 have := hd.2 j hlt e (by simpa [Array.getD_eq_getD_getElem?, ho] using he)
 exact this.resolve_left (by simp [hb])

theorem zeM {a b : SI} {d : Nat} (h1 : a.dst = some d) (h2 : d ∈ b.looks) : zbD a b = true ∧ zbD b a = true := by
 have : b.looks.contains d = true := by simpa using h2
 simp only [zbD, h1, this, Bool.true_or, Bool.or_true, and_self]
theorem zih {a b : SI} {d : Nat} (h1 : a.dst = some d) (h2 : b.dst = some d) : zbD a b = true ∧ zbD b a = true := by
 simp [zbD, h1, h2]

theorem Trace.cls_up (tr : Tr P K ops sis t h e1 tf gf vf ef evs) {j : Nat} {s : SI} (hs : sis[j]? = some s) {i : Nat} (hi : (ef j).has i = true) : s.cls = 2 := by
 have hst := (tr.step j s hs).1
 unfold StepOk at hst
 split at hst
 ·exact hst.elim
 ·rw [hst.2] at hi; simp [Ev.has] at hi
 ·split at hst
  ·rename_i hx; simp [SI.cls, hx]
  ·rename_i ii hx
   obtain ⟨d, hex, he⟩ := hst
   by_cases hc : ii.cls = 2
   ·simpa [SI.cls, hx] using hc
   ·have := zcl hc hex
    subst this
    rw [he] at hi; simp [Ev.has, D.ups] at hi
theorem zlJ {i : I} {t : Nat -> V} {k : Nat} (hk : k ∈ i.foot t) : i.cls ≠ 0 := by
 cases i <;> simp only [I.foot, List.not_mem_nil] at hk <;> simp only [I.cls]
 case len kd x =>
  split at hk
  ·rename_i e; simp [e]
  ·simp at hk
 all_goals omega
theorem Trace.cls_rd (tr : Tr P K ops sis t h e1 tf gf vf ef evs) {j : Nat} {s : SI} (hs : sis[j]? = some s) {i : Nat} (hi : i ∈ (ef j).rd) : s.cls ≠ 0 := by
 have hst := (tr.step j s hs).1
 unfold StepOk at hst
 split at hst
 ·exact hst.elim
 ·rw [hst.2] at hi; simp at hi
 ·split at hst
  ·rename_i hx; simp [SI.cls, hx]
  ·rename_i ii hx
   obtain ⟨d, hex, he⟩ := hst
   rw [he] at hi
   simpa [SI.cls, hx] using zlJ hi

theorem Trace.apart (tr : Tr P K ops sis t h e1 tf gf vf ef evs) {i j : Nat} (hij : i < j) (hj : j < sis.length) (hc : ((sis.getD i default).cls = 2 ∧ (sis.getD j default).cls ≠ 0) ∨ ((sis.getD i default).cls ≠ 0 ∧ (sis.getD j default).cls = 2)) :
  Pre ops i j ∨ Am.apart (ef i) (ef j) := by
 cases hb : (((zeb ops.toList []).getD j 0).testBit i) with
 | true => exact .inl (zc4 ops.toList [] (by simp) (by simp) j i hb)
 | false =>
  right
  have hmem : (i, j) ∈ zbG ops sis := by
   unfold zbG
   simp only [List.mem_flatMap, List.mem_range, List.mem_map, List.mem_filter, Bool.and_eq_true, Bool.not_eq_true', Bool.or_eq_true, beq_iff_eq, bne_iff_ne]
   exact ⟨j, hj, i, ⟨hij, hb, by rcases hc with h | h; exact .inl h; exact .inr h⟩, rfl⟩
  have := tr.fin.1 (i, j) hmem
  have e1 := tr.evof i (by omega)
  have e2 := tr.evof j hj
  simp only [Nat.zero_add] at e1 e2
  simpa [e1, e2] using this

theorem zn7 (tr : Tr P K ops sis t h e1 tf gf vf ef evs) (hd : zbp ops sis = true) {S : Nat -> Bool} (hc : zdp ops S) {j : Nat} {s : SI} (hs : sis[j]? = some s) (hj : S j = false) (hp : ∀ i, Pre ops i j -> S i = true) :
  ∀ k ∈ s.looks, tf j k = tmS sis t vf S k := by
 have hlt : j < sis.length := (List.getElem?_eq_some_iff.1 hs).1
 have hsj := zbw hs
 intro k hk
 rw [tr.tf_eq j (by omega) k]
 unfold tmS
 rw [zba (q := fun i => zcQ sis i == some k) (j := j) sis.length (by omega)]
 ·intro i hi
  by_cases e : zcQ sis i = some k
  ·have ht := (zeM (a := sis.getD i default) (b := s) e hk).1
   rw [<- hsj] at ht
   have := hp i (zbt hd hi hlt ht)
   simp [this]
  ·have : (zcQ sis i == some k) = false := by simpa using e
   simp [this]
 ·intro i hi hin
  by_cases e : zcQ sis i = some k
  ·rcases Nat.lt_or_ge j i with hji | hji
   ·have ht := (zeM (a := sis.getD i default) (b := s) e hk).2
    rw [<- hsj] at ht
    have hpre := zbt hd hji hin ht
    cases hSi : S i
    ·simp
    ·have := hc j i hSi hpre; rw [hj] at this; cases this
   ·have : i = j := by omega
    subst this; simp [hj]
  ·have : (zcQ sis i == some k) = false := by simpa using e
   simp [this]
theorem zmj (tr : Tr P K ops sis t h e1 tf gf vf ef evs) {S : Nat -> Bool} (hc : zdp ops S) {j : Nat} {s : SI} (hs : sis[j]? = some s) (hj : S j = false) (hp : ∀ i, Pre ops i j -> S i = true) :
  ∀ k ∈ (ef j).rd, gf j k = gS sis.length h.get ef S k := by
 have hlt : j < sis.length := (List.getElem?_eq_some_iff.1 hs).1
 have hsj := zbw hs
 intro k hk
 have hcj : (sis.getD j default).cls ≠ 0 := by rw [hsj]; exact tr.cls_rd hs hk
 have at_ : ∀ i, i < sis.length -> (ef i).has k = true -> (sis.getD i default).cls = 2 := fun i hi hh => by
  have hsi : sis[i]? = some sis[i] := List.getElem?_eq_getElem hi
  rw [zbw hsi]; exact tr.cls_up hsi hh
 rw [tr.gf_eq j (by omega) k]
 unfold gS
 rw [zba (q := fun i => (ef i).has k) (j := j) sis.length (by omega)]
 ·intro i hi
  cases hh : (ef i).has k with
  | false => simp
  | true =>
   rcases tr.apart hi hlt (.inl ⟨at_ i (by omega) hh, hcj⟩) with hpre | ha
   ·simp [hp i hpre]
   ·obtain ⟨x, hx, rfl⟩ := zef.1 hh
    exact absurd hk (ha.1 x hx).1
 ·intro i hi hin
  cases hh : (ef i).has k with
  | false => simp
  | true =>
   rcases Nat.lt_or_ge j i with hji | hji
   ·rcases tr.apart hji hin (.inr ⟨hcj, at_ i hin hh⟩) with hpre | ha
    ·cases hSi : S i
     ·simp
     ·have := hc j i hSi hpre; rw [hj] at this; cases this
    ·obtain ⟨x, hx, rfl⟩ := zef.1 hh
     exact absurd hk (ha.2 x hx)
   ·have : i = j := by omega
    subst this; simp [hj]

theorem ziT (tr : Tr P K ops sis t h e1 tf gf vf ef evs) (hn : ∀ i, h.next ≤ i -> h.get i = none) {S : Nat -> Bool} (hc : zdp ops S) {j : Nat} {s : SI} (hs : sis[j]? = some s) (hj : S j = false) {k : Nat} (h1 : h.next + j * room ≤ k) (h2 : k < h.next + j * room + room) :
  gS sis.length h.get ef S k = none := by
 have hlt : j < sis.length := (List.getElem?_eq_some_iff.1 hs).1
 have at_ : ∀ i, i < sis.length -> (ef i).has k = true -> (sis.getD i default).cls = 2 := fun i hi hh => by
  have hsi : sis[i]? = some sis[i] := List.getElem?_eq_getElem hi
  rw [zbw hsi]; exact tr.cls_up hsi hh
 have below : ∀ i, i < j -> (ef i).has k = false := by
  intro i hi
  cases hh : (ef i).has k with
  | false => rfl
  | true =>
   exfalso
   have hsi : sis[i]? = some sis[i] := List.getElem?_eq_getElem (by omega)
   have hle : i * room + room ≤ j * room := by
    have := Nat.mul_le_mul_right room (show i + 1 ≤ j from hi)
    rw [Nat.add_mul] at this; omega
   rcases tr.own hsi hh with ⟨o, ho⟩ | hr
   ·rw [tr.fresh hn i (by omega) k (by omega)] at ho; cases ho
   ·omega
 unfold gS
 rw [zdi]
 ·exact hn k (by omega)
 ·intro i hi
  cases hh : (ef i).has k with
  | false => simp
  | true =>
   rcases Nat.lt_trichotomy i j with hij | rfl | hij
   ·rw [below i hij] at hh; cases hh
   ·simp [hj]
   ·-- the first one that turns it is j
    have hsi : sis[i]? = some sis[i] := List.getElem?_eq_getElem hi
    obtain ⟨m, hm, hmh, hmin⟩ := zmb (p := fun m => (ef m).has k = true) ⟨i, Nat.lt_succ_self i, hh⟩
    have hsm : sis[m]? = some sis[m] := List.getElem?_eq_getElem (by omega)
    have hmj : m = j := by
     rcases tr.own hsm hmh with ⟨o, ho⟩ | hr
     ·exfalso
      rw [tr.gf_eq m (by omega) k, zdi (fun x hx => by
       cases hxh : (ef x).has k with
       | false => rfl
       | true => exact absurd hxh (hmin x hx))] at ho
      rw [hn k (by omega)] at ho; cases ho
     ·rcases Nat.lt_trichotomy m j with hlt2 | e | hgt
      ·rw [below m hlt2] at hmh; cases hmh
      ·exact e
      ·exfalso
       have hle : j * room + room ≤ m * room := by
        have := Nat.mul_le_mul_right room (show j + 1 ≤ m from hgt)
        rw [Nat.add_mul] at this; omega
       omega
    subst hmj
    cases hSi : S i with
    | false => simp
    | true =>
     exfalso
     have hcm := at_ m hlt hmh
     have hci := at_ i hi hh
     rcases tr.apart hij hi (.inl ⟨hcm, by omega⟩) with hpre | ha
     ·have := hc m i hSi hpre; rw [hj] at this; cases this
     ·obtain ⟨x, hx, hxk⟩ := zef.1 hmh
      obtain ⟨y, hy, hyk⟩ := zef.1 hh
      exact (ha.1 x hx).2 y hy (by rw [hxk, hyk])

theorem zl5 (hd : zbp ops sis = true) {S S' : Nat -> Bool} (hc : zdp ops S) {j : Nat} {s : SI} (hs : sis[j]? = some s) (hj : S j = false) (hS' : ∀ i, S' i = (S i || i == j)) :
  tmS sis t vf S' = (tmS sis t vf S).put s.dst (vf j) := by
 have hlt : j < sis.length := (List.getElem?_eq_some_iff.1 hs).1
 have hsj := zbw hs
 have hdj : zcQ sis j = s.dst := by rw [zcQ, zbw hs]
 have later : ∀ i, j < i -> i < sis.length -> zbD (sis.getD j default) (sis.getD i default) = true -> S' i = false := by
  intro i hi hin ht
  have hpre := zbt hd hi hin ht
  cases hSi : S i
  ·rw [hS', hSi]; simp; omega
  ·have := hc j i hSi hpre; rw [hj] at this; cases this
 funext k
 unfold tmS
 have same : s.dst ≠ some k -> zbT (fun i => S' i && zcQ sis i == some k) sis.length = zbT (fun i => S i && zcQ sis i == some k) sis.length := by
  intro hne
  refine zba (j := sis.length) _ (Nat.le_refl _) (fun i _ => ?_) (fun i a b => by omega)
  rw [hS']
  by_cases e : i = j
  ·subst e
   have : (zcQ sis i == some k) = false := by rw [hdj]; simpa using hne
   simp [this]
  ·have : (i == j) = false := by simpa using e
   simp [this]
 cases hsd : s.dst with
 | none =>
  rw [same (by rw [hsd]; simp)]
  rfl
 | some d =>
  by_cases e : k = d
  ·subst e
   rw [zir (j := j) sis.length hlt (by rw [hS', hdj, hsd]; simp)]
   ·simp [Tm.put]
   ·intro i hi hin
    by_cases ei : zcQ sis i = some k
    ·have := later i hi hin (by rw [hsj]; exact (zih (a := s) (b := sis.getD i default) hsd ei).1)
     simp [this]
    ·have : (zcQ sis i == some k) = false := by simpa using ei
     simp [this]
  ·rw [same (by rw [hsd]; simp; exact fun h => e h.symm)]
   simp [Tm.put, e]
theorem zjX (tr : Tr P K ops sis t h e1 tf gf vf ef evs) {S S' : Nat -> Bool} (hc : zdp ops S) {j : Nat} {s : SI} (hs : sis[j]? = some s) (hj : S j = false) (hS' : ∀ i, S' i = (S i || i == j)) :
  gS sis.length h.get ef S' = upds (gS sis.length h.get ef S) (ef j).up := by
 have hlt : j < sis.length := (List.getElem?_eq_some_iff.1 hs).1
 funext k
 cases hh : (ef j).has k with
 | true =>
  rw [zge hh]
  unfold gS
  rw [zir (j := j) sis.length hlt (by rw [hS', hh]; simp)]
  intro i hi hin
  cases hhi : (ef i).has k with
  | false => simp
  | true =>
   have hsi : sis[i]? = some sis[i] := List.getElem?_eq_getElem hin
   have hci : (sis.getD i default).cls = 2 := by rw [zbw hsi]; exact tr.cls_up hsi hhi
   have hcj : (sis.getD j default).cls = 2 := by rw [zbw hs]; exact tr.cls_up hs hh
   rcases tr.apart hi hin (.inl ⟨hcj, by omega⟩) with hpre | ha
   ·cases hSi : S i
    ·rw [hS', hSi]; simp; omega
    ·have := hc j i hSi hpre; rw [hj] at this; cases this
   ·obtain ⟨x, hx, hxk⟩ := zef.1 hh
    obtain ⟨y, hy, hyk⟩ := zef.1 hhi
    exact absurd (by rw [hxk, hyk]) ((ha.1 x hx).2 y hy)
 | false =>
  rw [zdP hh]
  unfold gS
  have : zbT (fun i => S' i && (ef i).has k) sis.length = zbT (fun i => S i && (ef i).has k) sis.length := by
   refine zba (j := sis.length) _ (Nat.le_refl _) (fun i _ => ?_) (fun i a b => by omega)
   rw [hS']
   by_cases ei : i = j
   ·subst ei; simp [hh]
   ·have : (i == j) = false := by simpa using ei
    simp [this]
  rw [this]

theorem Ext.same {μ : Nat -> Pl} {h h' : H} (e : ∀ i, h'.get i = h.get i) : Ext μ h μ h' := fun i o ho => ⟨o, by rw [e]; exact ho, rfl, Nat.le_refl _, fun _ => rfl⟩
theorem St.same {t : Tm} {h h' : H} {a : Act} {w : World} (hs : St N ds W0 μ0 h0 t h a w) (e : ∀ i, h'.get i = h.get i) (hn : ∀ i, h'.next ≤ i -> h'.get i = none) : St N ds W0 μ0 h0 t h' a w := by
 obtain ⟨μ, h1, h2, h3, hr, x0⟩ := hs
 have x : Ext μ h μ h' := Ext.same e
 refine ⟨μ, h1, h2, fun k => (h3 k).ext x, ⟨hr.glob, hr.below, hn, fun i o ho => ?_, fun i j oi oj hij hi hj ho => ?_⟩, x0.trans x⟩
 ·rw [e] at ho; exact (hr.obj i o ho).keep x rfl (Nat.le_refl _) rfl
 ·rw [e] at hi hj; exact hr.sep i j oi oj hij hi hj ho

theorem zoh {Q' : Exit -> Act -> World -> Prop} {o : Oper} {s : SI} (hsi : zaj P N ops o = some s) (hg : ∀ d b, za1 ops o = some (some (d, b)) -> d < N) {t : Tm} {g : Nat -> Option O} {k : Nat} (hk1 : k + room ≤ e1) (hfree : ∀ i, k ≤ i -> i < k + room -> g i = none)
  {v : V} {ev : Ev} {a : Act} {w : World} {j : Nat} (hoj : ops[j]? = some o)
  (hst : StepOk P e1 k s t g v ev) (hs : St N ds W0 μ0 h0 t ⟨e1, g⟩ a w) {next : Act -> World -> Prop} (hn : ∀ a' w', St N ds W0 μ0 h0 (t.put s.dst v) ⟨e1, upds g ev.up⟩ a' w' -> next a' w') : wpOpIn (RF ro) 0 P ops Q' j next a w := by
 have hroom : 0 < room := by unfold room; omega
 simp only [zaj, Option.bind_eq_bind, Option.pure_def] at hsi
 obtain ⟨gd, hgo, hsi⟩ := bind_some hsi
 obtain ⟨ins, hins, hsi⟩ := bind_some hsi
 split at hsi
 ·rename_i hdst
  cases hsi
  obtain ⟨μ, h1, h2, h3, hr, x0⟩ := hs
  unfold wpOpIn
  simp only [hoj]
  unfold StepOk at hst
  split at hst
  ·exact hst.elim
  ·rename_i hgv
   have hw := zdd hgo h3 (fun d b e => by rw [h2]; exact hg d b (by rw [hgo, e])) hgv
   obtain ⟨rfl, rfl⟩ := hst
   simp only [hw, Bool.false_eq_true, if_false]
   exact ⟨fun _ _ => zeW _ _, hn _ _ (St.put hdst h1 h2 h3 hr zdM (Ext.refl _ _) x0)⟩
  ·rename_i hgv
   have hw := zdd hgo h3 (fun d b e => by rw [h2]; exact hg d b (by rw [hgo, e])) hgv
   simp only [hw, if_true]
   unfold zeG at hins
   split at hins
   rotate_left
   ·obtain ⟨⟨f, args⟩, hcc, rfl⟩ := zae hins
    obtain ⟨rd, os, ⟨hlen, hvi, hoi, hcall⟩, rfl⟩ := hst
    refine zhK h3 hr hcc (hcall ⟨e1, g⟩ rfl (fun _ _ => rfl)) fun v' cv h'' μ' w' hq hr' hv' x => ?_
    obtain ⟨rfl, rfl⟩ := hq
    -- the new names
    have new_get : ∀ i, k ≤ i -> i < k + os.length -> upds g (names k os) i = os[i - k]? := fun i a b => zgE a b
    have old_get : ∀ i, ¬ (k ≤ i ∧ i < k + os.length) -> upds g (names k os) i = g i := fun i a => zdP (by
     cases hh : (names k os).any (·.1 == i) with
     | false => rfl
     | true => exact absurd (zeX.1 hh) a)
    have live_lt : ∀ i o, g i = some o -> i < e1 := fun i o ho => by
     rcases Nat.lt_or_ge i e1 with h | h
     ·exact h
     ·have := hr.next i h; rw [show (H.mk e1 g).get i = g i from rfl, ho] at this; cases this
    have out : ∀ i o, g i = some o -> ¬ (k ≤ i ∧ i < k + room) := fun i o ho hh => by rw [hfree i hh.1 hh.2] at ho; cases ho
    have shift_out : ∀ i, ¬ (k ≤ i ∧ i < k + room) -> shift k e1 i = i := fun i hi => by unfold shift; rw [if_neg hi]
    have shift_in : ∀ i, k ≤ i -> i < k + room -> shift k e1 i = e1 + (i - k) := fun i a b => by unfold shift; rw [if_pos ⟨a, b⟩]; omega
    have push_old : ∀ i, i < e1 -> (zaS ⟨e1, g⟩ (os.map (O.ren (shift k e1)))).get i = g i := fun i hi => zdh _ ⟨e1, g⟩ i hi
    have push_new : ∀ r, r < os.length -> (zaS ⟨e1, g⟩ (os.map (O.ren (shift k e1)))).get (e1 + r) = (os[r]?).map (O.ren (shift k e1)) := fun r hr2 => by
     rw [zd5 _ ⟨e1, g⟩ r (by simpa using hr2)]; simp
    have push_end : ∀ i, e1 + os.length ≤ i -> (zaS ⟨e1, g⟩ (os.map (O.ren (shift k e1)))).get i = none := fun i hi => hr'.next i (by rw [zdu]; simpa using hi)
    -- what is live there is live here
    have liveHere : ∀ i, i < e1 -> (∃ o, (zaS ⟨e1, g⟩ (os.map (O.ren (shift k e1)))).get (shift k e1 i) = some o) -> ∃ o, upds g (names k os) i = some o := by
     intro i hi ⟨o, ho⟩
     by_cases hin : k ≤ i ∧ i < k + room
     ·rw [shift_in i hin.1 hin.2] at ho
      by_cases hl : i - k < os.length
      ·rw [new_get i hin.1 (by omega)]
       exact ⟨os[i - k], List.getElem?_eq_getElem hl⟩
      ·rw [push_end _ (by omega)] at ho; cases ho
     ·rw [shift_out i hin, push_old i hi] at ho
      exact ⟨o, by rw [old_get i (by omega)]; exact ho⟩
    have R : Renames (shift k e1) (zaS ⟨e1, g⟩ (os.map (O.ren (shift k e1)))) ⟨e1, upds g (names k os)⟩ := by
     refine ⟨fun i o ho => ?_, fun i j oi oj hi hj e => ?_, fun i o ho m hm => ?_, fun i hi => ?_⟩
     ·simp only at ho
      by_cases hin : k ≤ i ∧ i < k + os.length
      ·rw [new_get i hin.1 hin.2] at ho
       rw [shift_in i hin.1 (by omega), push_new _ (by omega), ho]
       rfl
      ·rw [old_get i hin] at ho
       have := out i o ho
       rw [shift_out i this, push_old i (live_lt i o ho), ho, O.ren_id o]
       intro m hm
       obtain ⟨o', ho'⟩ := (hr.obj i o ho).live m hm
       exact shift_out m (out m o' ho')
     ·simp only at hi hj
      have place : ∀ i o, upds g (names k os) i = some o -> (shift k e1 i = e1 + (i - k) ∧ k ≤ i ∧ i < k + room) ∨ (shift k e1 i = i ∧ i < e1) := by
       intro i o ho
       by_cases hin : k ≤ i ∧ i < k + os.length
       ·exact .inl ⟨shift_in i hin.1 (by omega), hin.1, by omega⟩
       ·rw [old_get i hin] at ho
        exact .inr ⟨shift_out i (out i o ho), live_lt i o ho⟩
      rcases place i oi hi with ⟨a, _, _⟩ | ⟨a, _⟩ <;> rcases place j oj hj with ⟨a', _, _⟩ | ⟨a', _⟩ <;> rw [a, a'] at e <;> omega
     ·simp only at ho ⊢
      by_cases hin : k ≤ i ∧ i < k + os.length
      ·rw [new_get i hin.1 hin.2] at ho
       have hmem : o ∈ os := List.mem_of_getElem? ho
       have hlt := hoi o hmem m hm
       -- the object is live there
       have hob := hr'.obj (e1 + (i - k)) (o.ren (shift k e1)) (by rw [push_new _ (by omega), ho]; rfl)
       exact liveHere m hlt (hob.live _ (by rw [O.ids_ren]; exact List.mem_map_of_mem hm))
      ·rw [old_get i hin] at ho
       obtain ⟨o', ho'⟩ := (hr.obj i o ho).live m hm
       have := out m o' ho'
       exact ⟨o', by rw [old_get m (by omega)]; exact ho'⟩
     ·simp only at hi ⊢
      rw [old_get i (by omega)]
      exact hr.next i hi
    have hvlive : ∀ i ∈ v.ids, ∃ o, (H.mk e1 (upds g (names k os))).get i = some o := by
     intro i hi
     exact liveHere i (hvi i hi) (hv'.live _ (by rw [V.ids_ren]; exact List.mem_map_of_mem hi))
    refine hn _ _ (St.put (μ' := fun i => μ' (shift k e1 i)) hdst h1 h2 h3 (hr'.rename R) (hv'.back fun i hi => R.ok (hvlive i hi)) ?_ x0)
    intro i o ho
    have hnot := out i o ho
    have hold : upds g (names k os) i = g i := old_get i (by omega)
    refine ⟨o, by rw [show (H.mk e1 (upds g (names k os))).get i = upds g (names k os) i from rfl, hold]; exact ho, rfl, Nat.le_refl _, fun _ => ?_⟩
    obtain ⟨o2, ho2, _, _, m2⟩ := x i o ho
    rw [push_old i (live_lt i o ho)] at ho2
    rw [show (H.mk e1 g).get i = g i from rfl] at ho
    rw [ho] at ho2; cases ho2
    show μ' (shift k e1 i) = μ i
    rw [shift_out i hnot]
    exact m2 rfl
   ·rename_i ii hci
    cases hins
    obtain ⟨d, hex, rfl⟩ := hst
    obtain ⟨nx, cv, w', μ', hrun, hnx, hr', hv', x, _⟩ := zhi (P := P) (h := ⟨e1, g⟩) hr (fr := k) (hfree k (Nat.le_refl _) (by omega)) (zem h3) hci hex
    have hheap : (H.mk e1 g).appAt k d = ⟨e1, upds g (d.ups k)⟩ := by
     cases d with
     | keep => rfl
     | set i o => rfl
     | push o =>
      refine H.ext' ?_ fun i => rfl
      show max e1 (k + 1) = e1
      omega
    rw [hheap] at hr' hv' x
    have hst' := hn _ _ (St.put (v := v) hdst h1 h2 h3 hr' hv' x x0)
    unfold Oper.wpIn
    refine ⟨fun _ _ => zeW _ _, ?_⟩
    rw [Oper.semAt_eq _ _ _ (zbv hci), hrun]
    rcases hnx with rfl | ⟨rfl, rfl⟩
    ·rw [Oper.uponIn_value]; exact hst'
    ·rw [Oper.uponIn_skip]; exact hst'
 ·cases hsi

def zaX (listed : Array Bool) : Nat := (listed.toList.filter (!·)).length

theorem zbH {listed : Array Bool} {j : Nat} (hj : listed.getD j true = false) : zaX (listed.setIfInBounds j true) + 1 = zaX listed := by
 have key : ∀ (l : List Bool) (j : Nat), l[j]? = some false -> ((l.set j true).filter (!·)).length + 1 = (l.filter (!·)).length := by
  intro l
  induction l with
  | nil => intro j h; simp at h
  | cons b l ih =>
   intro j h
   cases j with
   | zero => simp at h; subst h; simp
   | succ j =>
    simp only [List.getElem?_cons_succ] at h
    have := ih j h
    cases b <;> simp_all
 unfold zaX
 rw [Array.toList_setIfInBounds]
 refine key _ _ ?_
 rw [Array.getD_eq_getD_getElem?] at hj
 cases hl : listed[j]? with
 | none => simp [hl] at hj
 | some b => simp [hl] at hj; subst hj; simpa using hl

theorem zpq {Q : Exit -> Act -> World -> Prop} (hK : ∀ t h a w, K t h -> St N ds W0 μ0 h0 t h a w -> Q .normal a w) (hm : ops.toList.mapM (zaj P N ops) = some sis) (hgd : ∀ o ∈ ops.toList, ∀ d b, za1 ops o = some (some (d, b)) -> d < N)
  (hd : zbp ops sis = true) (hn : ∀ i, h.next ≤ i -> h.get i = none) (he1 : e1 = h.next + sis.length * room) (tr : Tr P K ops sis t h e1 tf gf vf ef evs) : ∀ (fuel : Nat) (listed : Array Bool) (a : Act) (w : World), listed.size = ops.size -> zaX listed = fuel -> zdp ops (fun i => listed.getD i false) ->
  St N ds W0 μ0 h0 (tmS sis t vf (fun i => listed.getD i false)) ⟨e1, gS sis.length h.get ef (fun i => listed.getD i false)⟩ a w -> wpAnyIn (RF ro) 0 P .any ops Q fuel listed a w := by
 have mapLen : ∀ (l : List Oper) (ss : List SI), l.mapM (zaj P N ops) = some ss -> ss.length = l.length ∧ ∀ (j : Nat) (o : Oper), l[j]? = some o -> ∃ s, ss[j]? = some s ∧ zaj P N ops o = some s := by
  intro l
  induction l with
  | nil => intro ss e; simp at e; subst e; simp
  | cons o l ih =>
   intro ss e
   simp only [List.mapM_cons, Option.bind_eq_bind, Option.pure_def] at e
   obtain ⟨s, hs, e⟩ := bind_some e
   obtain ⟨ss', hss, e⟩ := bind_some e
   cases e
   obtain ⟨h1, h2⟩ := ih ss' hss
   refine ⟨by simp [h1], fun j o' ho => ?_⟩
   cases j with
   | zero => simp at ho; subst ho; exact ⟨s, rfl, hs⟩
   | succ j => simpa using h2 j o' (by simpa using ho)
 obtain ⟨hlen, hcomp⟩ := mapLen _ _ hm
 have hlen' : sis.length = ops.size := by simpa using hlen
 have final : ∀ (listed : Array Bool) (a : Act) (w : World), (∀ i, i < sis.length -> listed.getD i false = true) -> St N ds W0 μ0 h0 (tmS sis t vf (fun i => listed.getD i false)) ⟨e1, gS sis.length h.get ef (fun i => listed.getD i false)⟩ a w -> Q .normal a w := by
  intro listed a w hall hs
  have ea : tmS sis t vf (fun i => listed.getD i false) = tf sis.length := by
   funext k
   rw [tr.tf_eq _ (Nat.le_refl _) k]
   unfold tmS
   rw [zba (q := fun i => zcQ sis i == some k) (j := sis.length) _ (Nat.le_refl _) (fun i hi => by simp only [hall i hi, Bool.true_and]) (fun i a b => by omega)]
  have eb : gS sis.length h.get ef (fun i => listed.getD i false) = gf sis.length := by
   funext i
   rw [tr.gf_eq _ (Nat.le_refl _) i]
   unfold gS
   rw [zba (q := fun j => (ef j).has i) (j := sis.length) _ (Nat.le_refl _) (fun j hj => by simp only [hall j hj, Bool.true_and]) (fun j a b => by omega)]
  rw [ea, eb] at hs
  obtain ⟨_, nx, _, hnx, hk⟩ := tr.fin
  refine hK _ _ _ _ hk (hs.same (fun _ => rfl) fun i hi => ?_)
  rcases Nat.lt_or_ge i e1 with h | h
  ·exact hnx i hi h
  ·obtain ⟨μ, _, _, _, hr, _⟩ := hs
   exact hr.next i h
 -- nothing ready: all listed
 have ready_nil : ∀ (listed : Array Bool), listed.size = ops.size -> Region.ready .any ops listed = [] -> ∀ i, i < sis.length -> listed.getD i false = true := by
  intro listed hsz hr
  have : ∀ n i, i < n -> i < sis.length -> listed.getD i false = true := by
   intro n
   induction n with
   | zero => intro i hi; omega
   | succ n ih =>
    intro i hi hin
    by_cases e : i = n
    ·subst e
     cases hl : listed.getD i false with
     | true => rfl
     | false =>
      exfalso
      have ho : ops[i]? = some ops[i] := Array.getElem?_eq_getElem (by omega)
      have : i ∈ Region.ready .any ops listed := by
       rw [mem_ready]
       refine ⟨?_, ops[i], ho, fun e he hb => ih e.on (zaR hd ho he hb) (by have := zaR hd ho he hb; omega)⟩
       rw [Array.getD_eq_getD_getElem?] at hl ⊢
       have : listed[i]? = some listed[i] := Array.getElem?_eq_getElem (by omega)
       rw [this] at hl ⊢
       simpa using hl
      rw [hr] at this; cases this
    ·exact ih i (by omega) hin
  exact fun i hi => this (i + 1) i (by omega) hi
 intro fuel
 induction fuel with
 | zero =>
  intro listed a w hsz hu _ hs
  have hall : ∀ i, i < listed.size -> listed.getD i true = true := by
   intro i hi
   have hl : listed[i]? = some listed[i] := Array.getElem?_eq_getElem hi
   cases hb : listed[i] with
   | true => simp [Array.getD_eq_getD_getElem?, hl, hb]
   | false =>
    exfalso
    have hmem : false ∈ listed.toList := by
     have := Array.getElem_mem hi
     rw [hb] at this
     simpa using this
    have : false ∈ listed.toList.filter (!·) := by simpa [List.mem_filter] using hmem
    unfold zaX at hu
    rw [List.eq_nil_of_length_eq_zero hu] at this
    cases this
  refine ⟨?_, final listed a w (fun i hi => ?_) hs⟩
  ·apply List.eq_nil_iff_forall_not_mem.2
   intro i hi
   rw [mem_ready] at hi
   obtain ⟨h1, o, ho, _⟩ := hi
   have := hall i (by rw [hsz]; exact (Array.getElem?_eq_some_iff.1 ho).1)
   rw [this] at h1; cases h1
  ·have := hall i (by omega)
   rw [Array.getD_eq_getD_getElem?] at this ⊢
   have hl : listed[i]? = some listed[i] := Array.getElem?_eq_getElem (by omega)
   rw [hl] at this ⊢
   exact this
 | succ fuel ih =>
  intro listed a w hsz hu hcl hs
  refine ⟨fun hr => final listed a w (ready_nil listed hsz hr) hs, fun j hj => ?_⟩
  rw [mem_ready] at hj
  obtain ⟨hj1, o, ho, hpre⟩ := hj
  have hjlt : j < ops.size := (Array.getElem?_eq_some_iff.1 ho).1
  obtain ⟨s, hsj, hcs⟩ := hcomp j o (by simpa using ho)
  have hj0 : listed.getD j false = false := by
   rw [Array.getD_eq_getD_getElem?] at hj1 ⊢
   have hl : listed[j]? = some listed[j] := Array.getElem?_eq_getElem (by omega)
   rw [hl] at hj1 ⊢
   exact hj1
  have hp : ∀ i, Pre ops i j -> listed.getD i false = true := by
   intro i hpi
   cases hpi with
   | edge ho' he hb => rw [ho] at ho'; cases ho'; exact hpre _ he hb
   | step ho' he hb hrest => rw [ho] at ho'; cases ho'; exact hcl _ _ (hpre _ he hb) hrest
  have see1 := zn7 tr hd hcl hsj hj0 hp
  have see2 := zmj tr hcl hsj hj0 hp
  have hstep := (tr.step j s hsj).1
  simp only [Nat.zero_add] at hstep
  have hstep2 := hstep.congr see1 see2
  have hS' : ∀ i, (listed.setIfInBounds j true).getD i false = (listed.getD i false || i == j) := by
   intro i
   by_cases e : i = j
   ·subst e
    simp [Array.getD_eq_getD_getElem?, hsz, hjlt]
   ·have : (i == j) = false := by simpa using e
    rw [this, Bool.or_false, getD_set_ne false (fun h => e h.symm)]
  have ea := zl5 (t := t) (vf := vf) hd (S' := fun i => (listed.setIfInBounds j true).getD i false) hcl hsj hj0 hS'
  have eb := zjX tr (S' := fun i => (listed.setIfInBounds j true).getD i false) hcl hsj hj0 hS'
  have hle : h.next + j * room + room ≤ e1 := by
   have := Nat.mul_le_mul_right room (show j + 1 ≤ sis.length from by omega)
   rw [Nat.add_mul] at this; omega
  refine zoh hcs (hgd o (by simpa using Array.mem_of_getElem? ho)) hle (fun i h1 h2 => ziT tr hn hcl hsj hj0 h1 h2) ho hstep2 hs fun a' w' hs' => ?_
  refine ih _ a' w' (by simpa using hsz) (by have := zbH hj1; omega) ?_ (by rw [ea, eb]; exact hs')
  intro i k hk hpik
  simp only [hS', Bool.or_eq_true, beq_iff_eq] at hk ⊢
  rcases hk with hk | rfl
  ·exact .inl (hcl i k hk hpik)
  ·exact .inl (hp i hpik)
end any

theorem zbC (n : Nat) : zaX (Array.replicate n false) = n := by simp [zaX]

theorem zgp {P : Program} {N : Nat} {W0 : World} {ro : Option Nat} {ds : List Deferred} {μ0 : Nat -> Pl} {h0 : H} {K : Tm -> H -> Prop} {ops : Array Oper} {sis : List SI} {Q : Exit -> Act -> World -> Prop} (hmix : P.follows .mixedOrders = true) (hK : ∀ t h a w, K t h -> St N ds W0 μ0 h0 t h a w -> Q .normal a w)
  (hm : ops.toList.mapM (zaj P N ops) = some sis) (hgd : ∀ o ∈ ops.toList, ∀ d b, za1 ops o = some (some (d, b)) -> d < N) (hd : zbp ops sis = true) {t : Tm} {h : H} (d : Dwp P K (zbG ops sis) h.next (h.next + sis.length * room) sis t h.get []) {a : Act} {w : World} (hs : St N ds W0 μ0 h0 t h a w) {id : Nat} :
  (Code.region id ops true).wpIn (RF ro) 0 P Q a w := by
 obtain ⟨tf, gf, vf, ef, evs, tr⟩ := d.trace
 simp only [List.length_nil, List.nil_append] at tr
 have hn : ∀ i, h.next ≤ i -> h.get i = none := by
  obtain ⟨μ, _, _, _, hr, _⟩ := hs
  exact hr.next
 have hs' : St N ds W0 μ0 h0 t h a w.drew := by
  obtain ⟨μ, h1, h2, h3, hr, x0⟩ := hs
  exact ⟨μ, h1, h2, h3, hr.drew, x0⟩
 refine wpIn_region_any hmix (zpq hK hm hgd hd hn rfl tr ops.size (Array.replicate ops.size false) a _ (by simp) (zbC _) ?_ ?_)
 ·intro i j hj; simp [Array.getD_eq_getD_getElem?, Array.getElem?_replicate] at hj; split at hj <;> simp at hj
 ·have e1 : tmS sis t vf (fun i => (Array.replicate ops.size false).getD i false) = t := by
   funext k
   unfold tmS
   rw [zdi fun i _ => by
    have : (Array.replicate ops.size false).getD i false = false := by
     rw [Array.getD_eq_getD_getElem?, Array.getElem?_replicate]; split <;> rfl
    simp only [this, Bool.false_and]]
  have e2 : gS sis.length h.get ef (fun i => (Array.replicate ops.size false).getD i false) = h.get := by
   funext i
   unfold gS
   rw [zdi fun i _ => by
    have : (Array.replicate ops.size false).getD i false = false := by
     rw [Array.getD_eq_getD_getElem?, Array.getElem?_replicate]; split <;> rfl
    simp only [this, Bool.false_and]]
  rw [e1, e2]
  exact hs'.same (fun _ => rfl) fun i hi => hn i (by show h.next ≤ i; have : h.next + sis.length * room ≤ i := hi; omega)
end Go.Am
