/-
 AM, PART 29. A call's result of lists, some made afresh and some as they came: told by the next names (Acalls.lists), also in a drawn region (zdN).
-/
import Derived.Test.YtjahfjcfjnnnjaaGreatDoorYAm28
namespace Go.Am

variable {P : Program}
structure It where
 fr : Bool
 sz : Nat
 old : V
 es : List (List V)
def zaX : Nat -> List It -> List V
 | _, [] => []
 | k, i :: r => if i.fr = true then glV k i.es.flatten i.es.length :: zaX (k + (glO i.sz i.es.flatten).length) r else i.old :: zaX k r
def zax : List It -> List O
 | [] => []
 | i :: r => if i.fr = true then glO i.sz i.es.flatten ++ zax r else zax r
def Made (h1 : H) (lo : Nat) : List It -> List V -> Prop
 | [], vs => vs = []
 | i :: r, vs => ∃ v vs', vs = v :: vs' ∧ (if i.fr = true then Gl h1 lo i.sz v i.es else v = i.old) ∧ Made h1 lo r vs'
def zaP : List It -> List V -> List Nat
 | i :: r, v :: vs => (if i.fr = true then v.ids else []) ++ zaP r vs
 | _, _ => []
structure ItOk (h : H) (i : It) : Prop where
 sz : i.fr = true -> i.sz ≠ 0
 es : i.fr = true -> ∀ e ∈ i.es, e.length = i.sz
 plain : i.fr = true -> ∀ e ∈ i.es, ∀ v ∈ e, v.ids = []
 old : i.fr = false -> ∀ k ∈ i.old.ids, k < h.next ∧ ∃ o, h.get k = some o

theorem Gl.as2 {h : H} {lo sz : Nat} {v : V} {es : List (List V)} (g : Gl h lo sz v es) (hsz : sz ≠ 0) (hs : ∀ e ∈ es, e.length = sz) :
  (glO sz es.flatten).length = v.ids.length ∧ (∀ (js : Nat -> Nat) (k : Nat), (∀ j ∈ v.ids, js k = j) -> v = (glV k es.flatten es.length).ren js) ∧ (∀ i (hi : i < (glO sz es.flatten).length), ∃ hv : i < v.ids.length, h.get v.ids[i] = some (glO sz es.flatten)[i]) ∧ v.ids.length ≤ 1 ∧ ∀ j ∈ v.ids, lo ≤ j := by
 rcases g with ⟨rfl, rfl⟩ | ⟨hne, j, h1, h2, rfl, h3⟩
 ·refine ⟨rfl, fun _ _ _ => rfl, fun i hi => by simp [glO] at hi, by simp [V.ids], by simp [V.ids]⟩
 ·have hf : es.flatten ≠ [] := by
   intro e
   cases es with
   | nil => exact hne rfl
   | cons a l =>
    have ha := hs a (by simp)
    simp only [List.flatten_cons, List.append_eq_nil_iff] at e
    rw [e.1] at ha
    exact hsz ha.symm
  have ho : glO sz es.flatten = [.grow sz es.flatten] := by simp only [glO, hf, if_false]
  rw [ho]
  refine ⟨rfl, fun js k hj => ?_, fun i hi => ?_, by simp [V.ids], by simp [V.ids, h1]⟩
  ·have := hj j (by simp [V.ids])
   simp only [glV, hf, if_false, V.ren, this]
  ·have : i = 0 := by simpa using hi
   subst this
   exact ⟨by simp [V.ids], by simpa [V.ids] using h3⟩
theorem zeA : ∀ {l : List V}, (∀ v ∈ l, v.ids = []) -> V.idss l = []
 | [], _ => rfl
 | v :: l, h => by
  simp only [V.idss, h v (by simp), List.nil_append]
  exact zeA fun w hw => h w (by simp [hw])
theorem zcN {h : H} : ∀ (its : List It), (∀ i ∈ its, ItOk h i) -> ∀ o ∈ zax its, o.ids = []
 | [], _, o, ho => by cases ho
 | i :: r, hi, o, ho => by
  have ih := zcN r fun x hx => hi x (by simp [hx])
  simp only [zax] at ho
  split at ho
  ·rename_i hf
   rcases List.mem_append.1 ho with ho | ho
   ·unfold glO at ho
    split at ho
    ·cases ho
    ·simp only [List.mem_cons, List.not_mem_nil, or_false] at ho
     subst ho
     refine zeA fun v hv => ?_
     obtain ⟨e, he, hve⟩ := List.mem_flatten.1 hv
     exact (hi i (by simp)).plain hf e he v hve
   ·exact ih o ho
  ·exact ih o ho
theorem zf7 {h h1 : H} {js : Nat -> Nat} : ∀ (its : List It) (vs : List V) (k : Nat), (∀ i ∈ its, ItOk h i) -> Made h1 h.next its vs -> (∀ i (hi : i < (zaP its vs).length), js (k + i) = (zaP its vs)[i]) -> (∀ i, i < h.next -> js i = i) ->
  (zaP its vs).length = (zax its).length ∧ vs = (zaX k its).map (V.ren js) ∧ (∀ i (hi : i < (zax its).length), h1.get (js (k + i)) = some (zax its)[i]) ∧ ∀ j ∈ zaP its vs, h.next ≤ j
 | [], vs, k, _, hm, _, _ => by
  have : vs = [] := hm
  subst this
  exact ⟨rfl, rfl, fun i hi => by simp [zax] at hi, by simp [zaP]⟩
 | it :: r, vs, k, hi, hm, hj, hold => by
  obtain ⟨v, vs', rfl, hv, hm'⟩ := hm
  have hok := hi it (by simp)
  cases hf : it.fr with
  | false =>
   rw [if_neg (by simp [hf])] at hv
   have e1 : zaP (it :: r) (v :: vs') = zaP r vs' := by simp [zaP, hf]
   have e2 : zax (it :: r) = zax r := by simp [zax, hf]
   have e3 : zaX k (it :: r) = it.old :: zaX k r := by simp [zaX, hf]
   obtain ⟨a, b, c, d⟩ := zf7 r vs' k (fun x hx => hi x (by simp [hx])) hm' (fun i hi' => by
    have := hj i (by rw [e1]; exact hi')
    simpa [e1] using this) hold
   rw [e1, e2, e3]
   refine ⟨a, ?_, c, d⟩
   rw [List.map_cons, <- b, hv, V.ren_id it.old (fun j hj => hold j (hok.old hf j hj).1)]
  | true =>
   rw [if_pos hf] at hv
   obtain ⟨l1, r1, x1, m1, lo1⟩ := hv.as2 (hok.sz hf) (hok.es hf)
   have e1 : zaP (it :: r) (v :: vs') = v.ids ++ zaP r vs' := by simp [zaP, hf]
   have e2 : zax (it :: r) = glO it.sz it.es.flatten ++ zax r := by simp [zax, hf]
   have e3 : zaX k (it :: r) = glV k it.es.flatten it.es.length :: zaX (k + (glO it.sz it.es.flatten).length) r := by simp [zaX, hf]
   have hj1 : ∀ i (hi' : i < v.ids.length), js (k + i) = v.ids[i] := fun i hi' => by
    have := hj i (by rw [e1, List.length_append]; omega)
    simp only [e1] at this
    rw [this, List.getElem_append_left hi']
   obtain ⟨a, b, c, d⟩ := zf7 r vs' (k + (glO it.sz it.es.flatten).length) (fun x hx => hi x (by simp [hx])) hm' (fun i hi' => by
    have := hj (v.ids.length + i) (by rw [e1, List.length_append]; omega)
    simp only [e1] at this
    rw [l1, Nat.add_assoc, this, List.getElem_append_right (by omega)]
    simp) hold
   rw [e1, e2, e3]
   refine ⟨by rw [List.length_append, List.length_append, a, l1], ?_, fun i hi' => ?_, fun j hj => ?_⟩
   ·rw [List.map_cons, <- b, <- r1 js k (fun j hj => by
     have hl : v.ids = [j] := by
      match hv : v.ids, m1, hj with
      | [x], _, hj => simp at hj; rw [hj]
     have := hj1 0 (by rw [hl]; simp)
     simpa [hl] using this)]
   ·rw [List.length_append] at hi'
    by_cases h1' : i < (glO it.sz it.es.flatten).length
    ·obtain ⟨hv', hg⟩ := x1 i h1'
     rw [hj1 i hv', hg, List.getElem_append_left h1']
    ·have := c (i - (glO it.sz it.es.flatten).length) (by omega)
     rw [show k + (glO it.sz it.es.flatten).length + (i - (glO it.sz it.es.flatten).length) = k + i by omega] at this
     rw [this, List.getElem_append_right (by omega)]
   ·rcases List.mem_append.1 hj with hj | hj
    ·exact lo1 j hj
    ·exact d j hj
theorem zcI {h : H} : ∀ (its : List It) (k : Nat), (∀ i ∈ its, ItOk h i) -> ∀ j ∈ V.idss (zaX k its), (j < h.next ∧ ∃ o, h.get j = some o) ∨ (k ≤ j ∧ j < k + (zax its).length)
 | [], k, _, j, hj => by simp [zaX, V.idss] at hj
 | i :: r, k, hi, j, hj => by
  have hok := hi i (by simp)
  cases hf : i.fr with
  | false =>
   have e2 : zax (i :: r) = zax r := by simp [zax, hf]
   simp only [zaX, hf, Bool.false_eq_true, if_false, V.idss, List.mem_append] at hj
   rw [e2]
   rcases hj with hj | hj
   ·exact .inl (hok.old hf j hj)
   ·exact zcI r k (fun x hx => hi x (by simp [hx])) j hj
  | true =>
   have e2 : zax (i :: r) = glO i.sz i.es.flatten ++ zax r := by simp [zax, hf]
   simp only [zaX, hf, if_true, V.idss, List.mem_append] at hj
   rw [e2, List.length_append]
   rcases hj with hj | hj
   ·right
    unfold glV at hj
    unfold glO
    split at hj
    ·simp [V.ids] at hj
    ·rename_i hne
     simp [V.ids] at hj
     simp [hne, hj]; omega
   ·rcases zcI r _ (fun x hx => hi x (by simp [hx])) j hj with h | ⟨h1, h2⟩
    ·exact .inl h
    ·exact .inr ⟨by omega, by omega⟩
theorem Acalls.lists {f : FuncId} {args : List V} {h : H} {its : List It} {mk : List V -> V} {Q : V -> H -> Prop} (hmk : ∀ σ vs, (mk vs).ren σ = mk (vs.map (V.ren σ))) (hids : ∀ vs, ∀ i ∈ (mk vs).ids, i ∈ V.idss vs) (hit : ∀ i ∈ its, ItOk h i)
  (c : Acalls P f args h fun v h1 => Ge h h1 ∧ ∃ vs, v = mk vs ∧ Made h1 h.next its vs ∧ (zaP its vs).Nodup)
  (q : Q (mk (zaX h.next its)) (zaV h (zax its))) : Acalls P f args h Q := by
 refine Acalls.news (os := zax its) (v0 := mk (zaX h.next its)) (c.mono ?_) (zcN its hit) (fun i hi => ?_) q
 ·rintro v h1 ⟨hg, vs, rfl, hm, hnd⟩
  obtain ⟨js, hjs⟩ : ∃ js : Nat -> Nat, js = fun i => if i < h.next then i else (zaP its vs).getD (i - h.next) i := ⟨_, rfl⟩
  have hold : ∀ i, i < h.next -> js i = i := fun i hi => by rw [hjs]; simp [hi]
  have hat : ∀ i (hi : i < (zaP its vs).length), js (h.next + i) = (zaP its vs)[i] := fun i hi => by
   rw [hjs]; simp only
   rw [if_neg (by omega), show h.next + i - h.next = i by omega, List.getD_eq_getElem?_getD, List.getElem?_eq_getElem hi]; rfl
  obtain ⟨a, b, c', d⟩ := zf7 its vs h.next hit hm hat hold
  refine ⟨hg, js, ?_, hold, fun i h1 h2 => ?_, fun i j h1 h2 h3 h4 e => ?_, c'⟩
  ·rw [hmk, <- b]
  ·have := hat (i - h.next) (by omega)
   rw [show h.next + (i - h.next) = i by omega] at this
   rw [this]; exact d _ (List.getElem_mem _)
  ·have ea := hat (i - h.next) (by omega)
   have eb := hat (j - h.next) (by omega)
   rw [show h.next + (i - h.next) = i by omega] at ea
   rw [show h.next + (j - h.next) = j by omega] at eb
   rw [ea, eb] at e
   have := (List.getElem_inj hnd).1 e
   omega
 ·exact (zcI its h.next hit i (hids _ i hi)).imp (fun h => h.2) id
theorem zcx {h : H} {k e : Nat} (hk : k + room ≤ e) (hn : h.next ≤ k) : ∀ (its : List It) (d : Nat), (∀ i ∈ its, ItOk h i) -> d + (zax its).length ≤ room -> (zaX (k + d) its).map (V.ren (shift k e)) = zaX (e + d) its
 | [], d, _, _ => rfl
 | i :: r, d, hi, hl => by
  have hok := hi i (by simp)
  cases hf : i.fr with
  | false =>
   have e2 : zax (i :: r) = zax r := by simp [zax, hf]
   simp only [zaX, hf, Bool.false_eq_true, if_false, List.map_cons]
   rw [zcx hk hn r d (fun x hx => hi x (by simp [hx])) (by rw [<- e2]; exact hl), V.ren_id i.old (fun j hj => by
    have := (hok.old hf j hj).1
    unfold shift; rw [if_neg (by omega)])]
  | true =>
   have e2 : zax (i :: r) = glO i.sz i.es.flatten ++ zax r := by simp [zax, hf]
   rw [e2, List.length_append] at hl
   simp only [zaX, hf, if_true, List.map_cons]
   rw [Nat.add_assoc, zcx hk hn r _ (fun x hx => hi x (by simp [hx])) (by omega), Nat.add_assoc]
   congr 1
   unfold glV
   split
   ·rfl
   ·rename_i hne
    have : (glO i.sz i.es.flatten).length = 1 := by unfold glO; rw [if_neg hne]; rfl
    have hs : shift k e (k + d) = e + d := by unfold shift; rw [if_pos (by omega)]; omega
    simp only [V.ren, hs]
theorem zdN {f : FuncId} {first cap args : List V} {h : H} {get : Nat -> Option O} {k e : Nat} {its : List It} {mk : List V -> V} (hmk : ∀ σ vs, (mk vs).ren σ = mk (vs.map (V.ren σ))) (hids : ∀ vs, ∀ i ∈ (mk vs).ids, i ∈ V.idss vs) (hit : ∀ i ∈ its, ItOk h i) (hlen : its.length ≤ room)
  (hk : k + room ≤ e) (hn : h.next ≤ k) (hg : ∀ i, i < h.next -> get i = h.get i)
  (c : ∀ h2, Ge h h2 -> Acalls P f (first ++ args ++ cap) h2 fun v h1 => Ge h2 h1 ∧ ∃ vs, v = mk vs ∧ Made h1 h2.next its vs ∧ (zaP its vs).Nodup) :
  zeO P (.func (.func f) first cap) args get k e (mk (zaX k its)) (List.range h.next) (zax its) := by
 have hco : ∀ its : List It, (zax its).length ≤ its.length := by
  intro its
  induction its with
  | nil => simp [zax]
  | cons i r ih =>
   have hg1 : (glO i.sz i.es.flatten).length ≤ 1 := by unfold glO; split <;> simp
   simp only [zax]
   split
   ·rw [List.length_append, List.length_cons]; omega
   ·rw [List.length_cons]; omega
 have hl := hco its
 refine ⟨by omega, fun i hi => ?_, fun o ho i hi => (by rw [zcN its hit o ho] at hi; cases hi), fun h2 hn2 hrd => ?_⟩
 ·rcases zcI its k hit i (hids _ i hi) with h | h <;> omega
 ·have g : Ge h h2 := ⟨by omega, fun i hi => by rw [hrd i (by simpa using hi), hg i hi]⟩
  have hit2 : ∀ i ∈ its, ItOk h2 i := fun i hi => ⟨(hit i hi).sz, (hit i hi).es, (hit i hi).plain, fun hf j hj => by
   obtain ⟨a, o, ho⟩ := (hit i hi).old hf j hj
   exact ⟨by have := g.1; omega, o, by rw [g.2 j a]; exact ho⟩⟩
  refine Acalls.lists hmk hids hit2 (c h2 g) ⟨?_, ?_⟩
  ·rw [hmk]
   have := zcx (h := h) hk hn its 0 hit (by omega)
   simp only [Nat.add_zero] at this
   rw [this, hn2]
  ·congr 1
   symm
   have : ∀ l : List O, (∀ x ∈ l, x.ids = []) -> l.map (O.ren (shift k e)) = l := fun l hl => by
    induction l with
    | nil => rfl
    | cons x l ih => rw [List.map_cons, ih (fun y hy => hl y (by simp [hy])), O.ren_id x (fun i hi => by rw [hl x (by simp)] at hi; cases hi)]
   exact this _ (zcN its hit)
end Go.Am
