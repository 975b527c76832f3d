/-
 AM, PART 28. An object whose cells are lists that grow (Rws); what a call makes afresh, told by the next names (Acalls.news).
-/
import Derived.Test.YtjahfjcfjnnnjaaGreatDoorYAm27
namespace Go.Am

variable {P : Program}
structure Rws (base h : H) (s lo : Nat) (r : List V -> List V) (ls : List (Nat × V × List (List V))) : Prop where
 ge : Ge (base.set s (.row (r (ls.map fun x => x.2.1)))) h
 wf : h.WF
 gl : ∀ x ∈ ls, Gl h lo x.1 x.2.1 x.2.2
 dj : ls.Pairwise fun a b => ∀ j ∈ a.2.1.ids, j ∉ b.2.1.ids

theorem zfS {α : Type} {R : α -> α -> Prop} {l : List α} {k : Nat} {y : α} (h : l.Pairwise R) (h1 : ∀ i (hi : i < l.length), i < k -> R l[i] y) (h2 : ∀ i (hi : i < l.length), k < i -> R y l[i]) : (l.set k y).Pairwise R := by
 rw [List.pairwise_iff_getElem] at h ⊢
 intro i j hi hj hij
 rw [List.length_set] at hi hj
 rw [List.getElem_set, List.getElem_set]
 split
 ·rename_i e
  split
  ·omega
  ·exact h2 j hj (by omega)
 ·split
  ·exact h1 i hi (by omega)
  ·exact h i j hi hj hij

theorem Rws.addF {base h : H} {s lo : Nat} {r : List V -> List V} {ls : List (Nat × V × List (List V))} (X : Rws base h s lo r ls) (hs : s < lo) (hlo : lo = base.next) (k : Nat) {sz : Nat} {v : V} {es : List (List V)} (hk : ls[k]? = some (sz, v, es)) {e : List V} {bytes : Nat} (he : e.length = sz) (h1 : e.all V.one = true) (hsz : sz ≠ 0)
  (hes : ∀ a ∈ es, a.length = sz) (hb : (es.length + 1) * bytes ≤ 140737488355328) (hb2 : es.length + 1 ≤ 9223372036854775807) :
  ∃ v2 d, zay (h.push (.row e)).get (h.next + 1) sz bytes v (.sl h.next sz 0 1 (some 1)) = some (v2, d) ∧ v2.one = true ∧ ((h.push (.row e)).app d).get s = some (.row (r (ls.map fun x => x.2.1))) ∧
   Rws base (((h.push (.row e)).app d).set s (.row (r ((ls.set k (sz, v2, es ++ [e])).map fun x => x.2.1)))) s lo r (ls.set k (sz, v2, es ++ [e])) ∧
   (∀ j, j < h.next -> j ≠ s -> j ∉ v.ids -> (((h.push (.row e)).app d).set s (.row (r ((ls.set k (sz, v2, es ++ [e])).map fun x => x.2.1)))).get j = h.get j) ∧ ∀ j ∈ v2.ids, j ∈ v.ids ∨ h.next ≤ j := by
 obtain ⟨hg, hw, hgl, hdj⟩ := X
 have n2 := hg.1
 simp only [H.next_set] at n2
 have x2 := hg.get_set (by omega)
 have hkl : k < ls.length := by
  rcases Nat.lt_or_ge k ls.length with h | h
  ·exact h
  ·rw [List.getElem?_eq_none h] at hk; cases hk
 have hkv : ls[k] = (sz, v, es) := by rw [List.getElem?_eq_getElem hkl] at hk; exact Option.some.inj hk
 have gv : Gl h lo sz v es := by have := hgl ls[k] (List.getElem_mem hkl); rw [hkv] at this; exact this
 obtain ⟨h3, hh3⟩ : ∃ h3, h3 = h.push (.row e) := ⟨_, rfl⟩
 have n3 : h3.next = h.next + 1 := by rw [hh3]; rfl
 have g3 : Ge h h3 := by rw [hh3]; simp
 have w3 : h3.WF := by rw [hh3]; exact hw.push _
 have gg := gv.keep (h' := h3) (by omega) (fun j hj => by rw [g3.2 j (gv.lo j hj).2])
 obtain ⟨v2, d, ea, gl', nn, kk, wk, ids'⟩ := gg.append2 (bytes := bytes) (x := .sl h.next sz 0 1 (some 1)) (e := e) (by omega) hes he (by
  rw [hh3, zaz, if_neg (by omega), zdQ, if_pos rfl]
  simp only [zlw, he, if_true, ziB, Nat.zero_add, Nat.one_mul, Nat.le_refl, List.drop_zero]
  rw [List.take_of_length_le (by omega)]) h1 hsz hb hb2
 rw [n3] at ea
 rw [<- hh3]
 have x4 : (h3.app d).get s = some (.row (r (ls.map fun x => x.2.1))) := by rw [kk _ (fun hm => by have := (gg.lo _ hm).1; omega) (by omega), g3.2 _ (by omega), x2]
 have other : ∀ i (hi : i < ls.length), i ≠ k -> (∀ j ∈ ls[i].2.1.ids, j ∉ v.ids) := fun i hi hne j hj hv => by
  rw [List.pairwise_iff_getElem] at hdj
  rcases Nat.lt_or_ge i k with h | h
  ·have := hdj i k hi hkl h j hj
   rw [hkv] at this; exact this hv
  ·have := hdj k i hkl hi (by omega) j (by rw [hkv]; exact hv)
   exact this hj
 refine ⟨v2, d, ea, gl'.one, x4, ⟨⟨by simp; omega, fun j hj => ?_⟩, (wk w3).set (by omega) _, fun x hx => ?_, zfS hdj (fun i hi hlt j hj hj2 => ?_) (fun i hi hlt j hj hj2 => ?_)⟩, fun j hj hjs hjv => ?_, fun j hj => ?_⟩
 ·simp only [H.next_set] at hj
  rw [H.get_set, H.get_set]
  split
  ·rfl
  ·rename_i hne
   rw [kk j (fun hm => by have := (gg.lo j hm).1; omega) (by omega), g3.2 j (by omega), hg.get_ne hj hne]
 ·obtain ⟨i, hi, rfl⟩ := List.mem_iff_getElem.1 hx
  rw [List.length_set] at hi
  rw [List.getElem_set]
  split
  ·exact gl'.keep (by simp) (fun j hj => by rw [H.get_set, if_neg (by have := (gl'.lo j hj).1; omega)])
  ·rename_i hne
   have gi := hgl ls[i] (List.getElem_mem hi)
   refine gi.keep (by simp; omega) (fun j hj => ?_)
   have hl := gi.lo j hj
   rw [H.get_set, if_neg (by omega), kk j (fun hm => other i hi (fun e => hne e.symm) j hj hm) (by omega), g3.2 j (by omega)]
 ·rcases ids' j hj2 with h | h
  ·exact other i hi (by omega) j hj h
  ·have := ((hgl ls[i] (List.getElem_mem hi)).lo j hj).2; omega
 ·rcases ids' j hj with h | h
  ·exact other i hi (by omega) j hj2 h
  ·have := ((hgl ls[i] (List.getElem_mem hi)).lo j hj2).2; omega
 ·rw [H.get_set, if_neg hjs, kk j hjv (by omega), g3.2 j hj]
 ·rcases ids' j hj with h | h
  ·exact .inl h
  ·exact .inr (by omega)
theorem Rws.add {base h : H} {s lo : Nat} {r : List V -> List V} {ls : List (Nat × V × List (List V))} (X : Rws base h s lo r ls) (hs : s < lo) (hlo : lo = base.next) (k : Nat) {sz : Nat} {v : V} {es : List (List V)} (hk : ls[k]? = some (sz, v, es)) {e : List V} {bytes : Nat} (he : e.length = sz) (h1 : e.all V.one = true) (hsz : sz ≠ 0)
  (hes : ∀ a ∈ es, a.length = sz) (hb : (es.length + 1) * bytes ≤ 140737488355328) (hb2 : es.length + 1 ≤ 9223372036854775807) :
  ∃ v2 d, zay (h.push (.row e)).get (h.next + 1) sz bytes v (.sl h.next sz 0 1 (some 1)) = some (v2, d) ∧ v2.one = true ∧ ((h.push (.row e)).app d).get s = some (.row (r (ls.map fun x => x.2.1))) ∧
   Rws base (((h.push (.row e)).app d).set s (.row (r ((ls.set k (sz, v2, es ++ [e])).map fun x => x.2.1)))) s lo r (ls.set k (sz, v2, es ++ [e])) := by
 obtain ⟨v2, d, a1, a2, a3, a4, _, _⟩ := X.addF hs hlo k hk (bytes := bytes) he h1 hsz hes hb hb2
 exact ⟨v2, d, a1, a2, a3, a4⟩

theorem Rws.step {base h h' : H} {s lo : Nat} {r : List V -> List V} {ls : List (Nat × V × List (List V))} (X : Rws base h s lo r ls) (g : Ge h h') (w : h'.WF) : Rws base h' s lo r ls :=
 ⟨X.ge.trans g, w, fun x hx => (X.gl x hx).keep g.1 (fun j hj => g.2 j ((X.gl x hx).lo j hj).2), X.dj⟩

theorem Acalls.news {f : FuncId} {args : List V} {h : H} {os : List O} {v0 : V} {Q : V -> H -> Prop}
  (c : Acalls P f args h fun v h1 => Ge h h1 ∧ ∃ js : Nat -> Nat, v = v0.ren js ∧ (∀ i, i < h.next -> js i = i) ∧ (∀ i, h.next ≤ i -> i < h.next + os.length -> h.next ≤ js i) ∧ (∀ i j, h.next ≤ i -> i < h.next + os.length -> h.next ≤ j -> j < h.next + os.length -> js i = js j -> i = j) ∧
   ∀ i (hi : i < os.length), h1.get (js (h.next + i)) = some os[i]) (hids : ∀ o ∈ os, o.ids = []) (hv : ∀ i ∈ v0.ids, (∃ o, h.get i = some o) ∨ (h.next ≤ i ∧ i < h.next + os.length))
  (q : Q v0 (zaV h os)) : Acalls P f args h Q := by
 refine Acalls.cl c.1 fun wf cl => Acalls.rename (c.mono ?_)
 rintro v h1 ⟨hg, js, rfl, j1, j2, j3, j4⟩
 have getp : ∀ (os : List O) (h : H) (i : Nat), (zaV h os).get i = if h.next ≤ i ∧ i < h.next + os.length then os[i - h.next]? else h.get i := by
  intro os
  induction os with
  | nil => intro h i; simp [zaV]; intro h1 h2; omega
  | cons o os ih =>
   intro h i
   simp only [zaV]
   rw [ih, H.next_push, H.get_push, List.length_cons]
   by_cases e : i = h.next
   ·subst e; simp; intro h1; omega
   ·rw [if_neg e]
    by_cases h1 : h.next + 1 ≤ i ∧ i < h.next + 1 + os.length
    ·rw [if_pos h1, if_pos (by omega), show i - h.next = (i - (h.next + 1)) + 1 by omega, List.getElem?_cons_succ]
    ·rw [if_neg h1, if_neg (by omega)]
 have nextp : ∀ (os : List O) (h : H), (zaV h os).next = h.next + os.length := by
  intro os
  induction os with
  | nil => intro h; rfl
  | cons o os ih => intro h; simp only [zaV]; rw [ih, H.next_push, List.length_cons]; omega
 have hold : ∀ i o, h.get i = some o -> o.ren js = o := fun i o ho => O.ren_id o fun k hk => by
  obtain ⟨o', ho'⟩ := cl i o ho k hk
  exact j1 k (wf.lt ho')
 have liv : ∀ i o, (zaV h os).get i = some o -> (i < h.next ∧ h.get i = some o) ∨ ((h.next ≤ i ∧ i < h.next + os.length) ∧ ∃ hl : i - h.next < os.length, o = os[i - h.next]) := fun i o ho => by
  rw [getp] at ho
  split at ho
  ·rename_i hi
   obtain ⟨hl, e⟩ := List.getElem?_eq_some_iff.1 ho
   exact .inr ⟨hi, hl, e.symm⟩
  ·exact .inl ⟨wf.lt ho, ho⟩
 refine ⟨js, v0, zaV h os, rfl, ⟨fun i o ho => ?_, fun a b oa ob ha hb e => ?_, fun i o ho k hk => ?_, fun i hi => ?_⟩, fun i hi => ?_, fun i o ho => ?_, q⟩
 ·rcases liv i o ho with ⟨h1', h2'⟩ | ⟨⟨h1', h2'⟩, hl, rfl⟩
  ·rw [j1 i h1', hold i o h2']; exact hg.keeps wf i o h2'
  ·have := j4 (i - h.next) hl
   rw [show h.next + (i - h.next) = i by omega] at this
   rw [this]
   congr 1
   exact (O.ren_id _ (fun k hk => by rw [hids _ (List.getElem_mem hl)] at hk; cases hk)).symm
 ·rcases liv a oa ha with ⟨a1, _⟩ | ⟨a1, _⟩ <;> rcases liv b ob hb with ⟨b1, _⟩ | ⟨b1, _⟩
  ·rw [j1 a a1, j1 b b1] at e; exact e
  ·rw [j1 a a1] at e; have := j2 b b1.1 b1.2; omega
  ·rw [j1 b b1] at e; have := j2 a a1.1 a1.2; omega
  ·exact j3 a b a1.1 a1.2 b1.1 b1.2 e
 ·rcases liv i o ho with ⟨h1', h2'⟩ | ⟨_, hl, rfl⟩
  ·obtain ⟨o', ho'⟩ := cl i o h2' k hk
   exact ⟨o', by rw [getp, if_neg (by have := wf.lt ho'; omega)]; exact ho'⟩
  ·rw [hids _ (List.getElem_mem hl)] at hk; cases hk
 ·rw [nextp] at hi
  rw [getp, if_neg (by omega)]; exact wf i (by omega)
 ·rcases hv i hi with ⟨o, ho⟩ | ⟨h1', h2'⟩
  ·exact ⟨o, by rw [getp, if_neg (by have := wf.lt ho; omega)]; exact ho⟩
  ·exact ⟨os[i - h.next]'(by omega), by rw [getp, if_pos ⟨h1', h2'⟩, List.getElem?_eq_getElem (by omega)]⟩
 ·exact ⟨j1 i (wf.lt ho), o, by rw [getp, if_neg (by have := wf.lt ho; omega)]; exact ho⟩

end Go.Am
