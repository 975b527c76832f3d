/-
 AM, PART 13. The frame: a contract over a small heap that is only looked at serves over every heap that holds the same.
-/
import Derived.Test.YtpgcodeckphanaaGreatDoorIAm12
namespace Go.Am

mutual
def V.opens : V -> List Nat
 | .sl i _ _ _ c => match c with | none => [i] | some _ => []
 | .func _ a b => V.openss a ++ V.openss b
 | .iface _ v => V.opens v
 | .agg cs | .tup cs => V.openss cs
 | .ptr _ _ _ | .map _ | .yl _ | .bool _ | .int _ _ | .str _ | .nilptr | .gp _ _ | .any | .nilsl | .slz | .nilmap | .nilfunc | .niliface | .dead => []
def V.openss : List V -> List Nat
 | [] => []
 | v :: vs => V.opens v ++ V.openss vs
end
def O.opens : O -> List Nat
 | .row cs | .grow _ cs | .ro cs => V.openss cs
 | .mapo es _ _ => V.openss (es.map (·.1)) ++ V.openss (es.map (·.2))
 | .miter _ _ _ _ | .defo _ => []
 | .loopo r => V.openss r.tmps

def zfX (σ : Nat -> Nat) (μ μ' : Nat -> Pl) (h h' : H) (i : Nat) : Prop := ∃ o o', h.get i = some o ∧ h'.get (σ i) = some o' ∧ o.len = o'.len ∧ μ' (σ i) = μ i
def zhJ (σ : Nat -> Nat) (h h' : H) (i : Nat) : Prop := ∀ o o', h.get i = some o -> h'.get (σ i) = some o' -> o'.sz = 0 ∨ o'.sz = o.sz

theorem Ref.forth {σ : Nat -> Nat} {μ μ' : Nat -> Pl} {h h' : H} {i n : Nat} {pl : Pl} (r : Ref μ h i n pl) (f : zfX σ μ μ' h h' i) : Ref μ' h' (σ i) n pl := by
 obtain ⟨o, ho, hn, hm⟩ := r
 obtain ⟨o1, o', ho1, ho', hl, hμ⟩ := f
 rw [ho] at ho1; cases ho1
 exact ⟨o', ho', by omega, fun e => by rw [hμ]; exact hm (by omega)⟩

mutual
theorem VR.forth {σ : Nat -> Nat} {μ μ' : Nat -> Pl} {h h' : H} : ∀ {v : V} {c : Value}, VR μ h v c -> (∀ i ∈ v.ids, zfX σ μ μ' h h' i) -> (∀ i ∈ v.opens, zhJ σ h h' i) -> VR μ' h' (v.ren σ) c
 | .ptr i n o, _, ⟨pl, e, r⟩, H, _ => ⟨pl, e, r.forth (H i (by simp [V.ids]))⟩
 | .sl i n o l c, _, ⟨pl, ccap, e, l1, l2, hc, r, ht⟩, H, G => by
  have hf := H i (by simp [V.ids])
  refine ⟨pl, ccap, e, l1, l2, hc, r.forth hf, fun a b o' ho' hl hs => ?_⟩
  obtain ⟨o1, o2, ho1, ho2, hl2, hμ⟩ := hf
  rw [ho'] at ho2; cases ho2
  subst a
  rcases G i (by simp [V.opens]) o1 o' ho1 ho' with h0 | h0
  ·exact absurd h0 hs
  ·rw [h0] at hs ⊢
   exact ht rfl b o1 ho1 (by omega) hs
 | .map i, _, ⟨pl, e, r⟩, H, _ => ⟨pl, e, r.forth (H i (by simp [V.ids]))⟩
 | .yl i, _, ⟨pl, e, r⟩, H, _ => ⟨pl, e, r.forth (H i (by simp [V.ids]))⟩
 | .func f a b, _, ⟨cf, cc, e, r1, r2⟩, H, G => ⟨cf, cc, e, VRs.forth r1 (fun i hi => H i (by simp [V.ids, hi])) (fun i hi => G i (by simp [V.opens, hi])), VRs.forth r2 (fun i hi => H i (by simp [V.ids, hi])) (fun i hi => G i (by simp [V.opens, hi]))⟩
 | .iface t v, _, ⟨cv, e, r⟩, H, G => ⟨cv, e, VR.forth r (fun i hi => H i (by simpa [V.ids] using hi)) (fun i hi => G i (by simpa [V.opens] using hi))⟩
 | .agg cs, _, ⟨cc, e, r⟩, H, G => ⟨cc, e, VRs.forth r (fun i hi => H i (by simpa [V.ids] using hi)) (fun i hi => G i (by simpa [V.opens] using hi))⟩
 | .tup cs, _, ⟨cc, e, r⟩, H, G => ⟨cc, e, VRs.forth r (fun i hi => H i (by simpa [V.ids] using hi)) (fun i hi => G i (by simpa [V.opens] using hi))⟩
 | .bool _, _, r, _, _ | .int _ _, _, r, _, _ | .str _, _, r, _, _ | .nilptr, _, r, _, _ | .gp _ _, _, r, _, _ | .any, _, r, _, _ | .nilsl, _, r, _, _ | .slz, _, r, _, _ | .nilmap, _, r, _, _ | .nilfunc, _, r, _, _ | .niliface, _, r, _, _ => r
 | .dead, _, _, _, _ => trivial
theorem VRs.forth {σ : Nat -> Nat} {μ μ' : Nat -> Pl} {h h' : H} : ∀ {vs : List V} {cs : List Value}, VRs μ h vs cs -> (∀ i ∈ V.idss vs, zfX σ μ μ' h h' i) -> (∀ i ∈ V.openss vs, zhJ σ h h' i) -> VRs μ' h' (V.rens σ vs) cs
 | [], _, r, _, _ => r
 | v :: vs, _, ⟨c, cs', e, r1, r2⟩, H, G => ⟨c, cs', e, VR.forth r1 (fun i hi => H i (by simp [V.idss, hi])) (fun i hi => G i (by simp [V.openss, hi])), VRs.forth r2 (fun i hi => H i (by simp [V.idss, hi])) (fun i hi => G i (by simp [V.openss, hi]))⟩
end

mutual
theorem V.opens_ids : ∀ (v : V) (i : Nat), i ∈ v.opens -> i ∈ v.ids
 | .sl i n o l c, j, hj => by cases c <;> simp_all [V.opens, V.ids]
 | .func f a b, j, hj => by
  simp only [V.opens, V.ids, List.mem_append] at hj ⊢
  exact hj.imp (V.openss_ids a j) (V.openss_ids b j)
 | .iface t v, j, hj => by simpa [V.ids] using V.opens_ids v j (by simpa [V.opens] using hj)
 | .agg cs, j, hj => by simpa [V.ids] using V.openss_ids cs j (by simpa [V.opens] using hj)
 | .tup cs, j, hj => by simpa [V.ids] using V.openss_ids cs j (by simpa [V.opens] using hj)
 | .ptr _ _ _, _, hj | .map _, _, hj | .yl _, _, hj | .bool _, _, hj | .int _ _, _, hj | .str _, _, hj | .nilptr, _, hj | .gp _ _, _, hj | .any, _, hj | .nilsl, _, hj | .slz, _, hj | .nilmap, _, hj | .nilfunc, _, hj | .niliface, _, hj | .dead, _, hj => by simp [V.opens] at hj
theorem V.openss_ids : ∀ (vs : List V) (i : Nat), i ∈ V.openss vs -> i ∈ V.idss vs
 | [], _, hj => by simp [V.openss] at hj
 | v :: vs, j, hj => by
  simp only [V.openss, V.idss, List.mem_append] at hj ⊢
  exact hj.imp (V.opens_ids v j) (V.openss_ids vs j)
end

theorem VRs.thin {μ : Nat -> Pl} {h h' : H} {vs : List V} {cs : List Value} (r : VRs μ h vs cs) (H : ∀ i ∈ V.idss vs, ∃ o o', h.get i = some o ∧ h'.get i = some o' ∧ o.len = o'.len ∧ o'.sz = 0) : VRs μ h' vs cs := by
 have := VRs.forth (σ := id) (μ' := μ) (h' := h') r (fun i hi => by
  obtain ⟨o, o', h1, h2, h3, _⟩ := H i hi
  exact ⟨o, o', h1, h2, h3, rfl⟩) (fun i hi o o' h1 h2 => by
  obtain ⟨⟨oo, hoo⟩, _⟩ : (∃ o, h.get i = some o) ∧ True := ⟨⟨o, h1⟩, trivial⟩
  by_cases hm : i ∈ V.idss vs
  ·obtain ⟨o3, o4, h3, h4, h5, h6⟩ := H i hm
   simp only [id] at h2
   rw [h4] at h2; cases h2
   exact .inl h6
  ·exact absurd (V.openss_ids vs i hi) hm)
 rw [V.rens_id (σ := id) vs (fun _ _ => rfl)] at this
 exact this

def O.freeze : O -> Option O
 | .row cs | .grow _ cs | .ro cs => some (.ro cs)
 | .mapo _ _ _ | .miter _ _ _ _ | .loopo _ | .defo _ => none
theorem O.freeze_ids {o o' : O} (e : o.freeze = some o') : o'.ids = o.ids ∧ o'.len = o.len ∧ o'.sz = 0 ∧ o'.own = false := by
 cases o <;> simp only [O.freeze, Option.some.injEq, reduceCtorEq] at e <;> subst e <;> exact ⟨rfl, rfl, rfl, rfl⟩

structure Small (hF : H) (get : Nat -> Option O) : Prop where
 next : ∀ i, hF.next ≤ i -> hF.get i = none
 obj : ∀ i o, hF.get i = some o -> ∃ o', get i = some o' ∧ o'.freeze = some o
 ids : ∀ i o, hF.get i = some o -> ∀ j ∈ o.ids, ∃ o', hF.get j = some o'

theorem Rel.small {W0 : World} {μ : Nat -> Pl} {h : H} {w : World} (r : Rel W0 μ h w) {hF : H} (S : Small hF h.get) : Rel w μ hF w := by
 refine ⟨r.glob.later r.below, Below.refl _ _, S.next, fun i o ho => ?_, fun i j oi oj _ hi _ hown => ?_⟩
 ·obtain ⟨o', ho', hf⟩ := S.obj i o ho
  have hob := r.obj i o' ho'
  have hlt := hob.lt
  have thin : ∀ {cs : List V} {cc : List Value}, VRs μ h cs cc -> (∀ j ∈ V.idss cs, j ∈ o.ids) -> VRs μ hF cs cc := fun hv hid => hv.thin fun j hj => by
   obtain ⟨oF, hoF⟩ := S.ids i o ho j (hid j hj)
   obtain ⟨o2, ho2, hf2⟩ := S.obj j oF hoF
   obtain ⟨_, a, b, _⟩ := O.freeze_ids hf2
   exact ⟨o2, oF, ho2, hoF, a.symm, b⟩
  cases o' with
  | row cs =>
   cases hf
   obtain ⟨_, hb, cur, e, fz, hh, hv, _⟩ := hob
   refine ⟨hlt, cur.toList, thin hv fun _ h => h, fun k c hk => ?_⟩
   rw [cell_of_row w _ _ cur e fz hh, hb]
   simpa using hk
  | grow s cs =>
   cases hf
   obtain ⟨_, hb, cur, e, fz, hh, hv, _⟩ := hob
   refine ⟨hlt, _, thin hv fun _ h => h, fun k c hk => ?_⟩
   rw [cell_of_row w _ _ cur e fz hh, hb]
   rw [List.getElem?_take] at hk
   split at hk
   ·simpa using hk
   ·cases hk
  | ro cs =>
   cases hf
   obtain ⟨_, cc, hv, hc⟩ := hob
   exact ⟨hlt, cc, thin hv fun _ h => h, hc⟩
  | mapo es _ _ => cases hf
  | miter _ _ _ _ => cases hf
  | loopo _ => cases hf
  | defo _ => cases hf
 ·obtain ⟨o', ho', hf⟩ := S.obj i oi hi
  rw [(O.freeze_ids hf).2.2.2] at hown; cases hown

def zaI (L : List Nat) (e i : Nat) : Nat := if L.contains i then e + L.idxOf i else i
def zer (h : H) (i : Nat) : O := (h.get i).getD (.row [])

def zfp (hF h1 : H) (j : Nat) : Prop := ∃ oF o1, hF.get j = some oF ∧ h1.get j = some o1 ∧ o1.len = oF.len
structure FrameOk (hF h1 : H) (L : List Nat) (v : V) : Prop where
 nodup : L.Nodup
 obj : ∀ i ∈ L, hF.get i = none ∧ ∃ o, h1.get i = some o ∧ o.own = true ∧ (∀ j ∈ o.ids, j ∈ L ∨ zfp hF h1 j) ∧ ∀ j ∈ o.opens, j ∈ L
 ids : ∀ j ∈ v.ids, j ∈ L ∨ zfp hF h1 j
 opens : ∀ j ∈ v.opens, j ∈ L

theorem zbU {L : List Nat} {e i : Nat} (h : i ∈ L) : zaI L e i = e + L.idxOf i := by simp [zaI, h]
theorem zcE {L : List Nat} {e i : Nat} (h : i ∉ L) : zaI L e i = i := by simp [zaI, h]

theorem Acalls.frame {P : Program} {f : FuncId} {args : List V} {hF h2 : H} {Q : V -> List O -> Prop} (S : Small hF h2.get) (hargs : ∀ i ∈ V.idss args, ∃ o, hF.get i = some o)
  (c : Acalls P f args hF fun v h1 => ∃ L, FrameOk hF h1 L v ∧ Q (v.ren (zaI L h2.next)) (L.map fun i => (zer h1 i).ren (zaI L h2.next))) :
  Acalls P f args h2 fun v h' => ∃ os, Q v os ∧ h' = zaS h2 os := by
 refine ⟨c.1, fun W0 μ w cargs hr hv => ?_⟩
 have hv2 : VRs μ hF args cargs := hv.thin fun i hi => by
  obtain ⟨oF, hoF⟩ := hargs i hi
  obtain ⟨o2, ho2, hf2⟩ := S.obj i oF hoF
  obtain ⟨_, a, b, _⟩ := O.freeze_ids hf2
  exact ⟨o2, oF, ho2, hoF, a.symm, b⟩
 refine (c.2 w μ w cargs (hr.small S) hv2).mono ?_
 rintro e w' ⟨v, cv, h1, μ', he, ⟨L, F, hq⟩, hr', hv', x⟩
 have hbW : Below W0.heap.size W0 w' := hr.below.trans (hr'.below.mono hr.below.size)
 have hlen : ∀ i ∈ L, L.idxOf i < L.length := fun i hi => List.idxOf_lt_length_of_mem hi
 have hidx : ∀ i (hi : i ∈ L), L[L.idxOf i]'(hlen i hi) = i := fun i hi => List.getElem_idxOf (hlen i hi)
 have hidx2 : ∀ j (hj : j < L.length), L.idxOf L[j] = j := fun j hj => F.nodup.idxOf_getElem j hj
 let os : List O := L.map fun i => (zer h1 i).ren (zaI L h2.next)
 let hh : H := zaS h2 os
 have hnext : hh.next = h2.next + L.length := by simp [hh, os, zdu]
 have hold : ∀ i, i < h2.next -> hh.get i = h2.get i := fun i hi => zdh _ _ _ hi
 have hnew : ∀ j (hj : j < L.length), hh.get (h2.next + j) = some ((zer h1 L[j]).ren (zaI L h2.next)) := fun j hj => by
  have := zd5 os h2 j (by simpa [os] using hj)
  rw [this]; simp [os, hj]
 have hlive : ∀ i o, h2.get i = some o -> i < h2.next := fun i o ho => by
  rcases Nat.lt_or_ge i h2.next with h | h
  ·exact h
  ·rw [hr.next i h] at ho; cases ho
 let μ2 : Nat -> Pl := fun i => if h2.next ≤ i then μ' (L.getD (i - h2.next) 0) else μ i
 have hμold : ∀ i, i < h2.next -> μ2 i = μ i := fun i hi => by simp only [μ2]; rw [if_neg (by omega)]
 have hμnew : ∀ j (hj : j < L.length), μ2 (h2.next + j) = μ' L[j] := fun j hj => by
  simp only [μ2]; rw [if_pos (by omega), show h2.next + j - h2.next = j by omega, List.getD_eq_getElem?_getD, List.getElem?_eq_getElem hj]; rfl
 have hobjAt : ∀ i o, h1.get i = some o -> zer h1 i = o := fun i o ho => by simp [zer, ho]
 have oldF : ∀ j, zfp hF h1 j -> ∃ oF o1 o', hF.get j = some oF ∧ h1.get j = some o1 ∧ h2.get j = some o' ∧ o1.len = o'.len ∧ μ' j = μ j := by
  rintro j ⟨oF, o1, a, b, cc⟩
  obtain ⟨o', ho', hf⟩ := S.obj j oF a
  obtain ⟨_, l1, _, _⟩ := O.freeze_ids hf
  obtain ⟨o3, ho3, _, _, m⟩ := x j oF a
  rw [b] at ho3; cases ho3
  exact ⟨oF, o1, o', a, b, ho', by omega, m cc.symm⟩
 have notL : ∀ j, zfp hF h1 j -> j ∉ L := by
  rintro j ⟨oF, o1, a, _, _⟩ hj
  rw [(F.obj j hj).1] at a; cases a
 have fwd : ∀ j, (j ∈ L ∨ zfp hF h1 j) -> zfX (zaI L h2.next) μ' μ2 h1 hh j := by
  rintro j (hj | hj)
  ·obtain ⟨_, o, ho, _⟩ := F.obj j hj
   refine ⟨o, o.ren (zaI L h2.next), ho, ?_, (O.ren_len _ o).1.symm, ?_⟩
   ·rw [zbU hj, hnew _ (hlen j hj), hidx j hj, hobjAt j o ho]
   ·rw [zbU hj, hμnew _ (hlen j hj), hidx j hj]
  ·obtain ⟨oF, o1, o', a, b, cc, l, m⟩ := oldF j hj
   have hlt := hlive j o' cc
   refine ⟨o1, o', b, ?_, l, ?_⟩
   ·rw [zcE (notL j hj), hold j hlt]; exact cc
   ·rw [zcE (notL j hj), hμold j hlt]; exact m.symm
 have ofwd : ∀ j ∈ L, zhJ (zaI L h2.next) h1 hh j := by
  intro j hj o o' ho ho'
  rw [zbU hj, hnew _ (hlen j hj), hidx j hj, hobjAt j o ho] at ho'
  cases ho'
  exact .inr (O.ren_len _ o).2.1
 have xx : Ext μ h2 μ2 hh := fun i o ho => ⟨o, by rw [hold i (hlive i o ho)]; exact ho, rfl, Nat.le_refl _, fun _ => hμold i (hlive i o ho)⟩
 have split : ∀ i o, hh.get i = some o -> (i < h2.next ∧ h2.get i = some o) ∨ ∃ j, ∃ hj : j < L.length, i = h2.next + j ∧ ∃ o1, h1.get L[j] = some o1 ∧ o = o1.ren (zaI L h2.next) := by
  intro i o ho
  by_cases hi : i < h2.next
  ·exact .inl ⟨hi, by rw [<- hold i hi]; exact ho⟩
  ·by_cases hj : i - h2.next < L.length
   ·refine .inr ⟨i - h2.next, hj, by omega, ?_⟩
    have e2 := hnew _ hj
    rw [show h2.next + (i - h2.next) = i by omega, ho] at e2
    obtain ⟨_, o1, ho1, _⟩ := F.obj _ (List.getElem_mem hj)
    rw [hobjAt _ _ ho1] at e2
    cases e2
    exact ⟨o1, ho1, rfl⟩
   ·exfalso
    have : ∀ (os : List O) (h : H) (i : Nat), (∀ k, h.next ≤ k -> h.get k = none) -> (zaS h os).next ≤ i -> (zaS h os).get i = none := by
     intro os
     induction os with
     | nil => intro h i hn hi; exact hn i hi
     | cons o os ih =>
      intro h i hn hi
      refine ih (h.push o) i (fun k hk => ?_) hi
      simp only [H.next_push] at hk
      rw [H.get_push, if_neg (by omega)]
      exact hn k (by omega)
    have e3 := this os h2 i hr.next (by show hh.next ≤ i; omega)
    rw [show (zaS h2 os).get i = hh.get i from rfl, ho] at e3
    cases e3
 refine ⟨v.ren (zaI L h2.next), cv, hh, μ2, he, ⟨os, hq, rfl⟩, ?_, hv'.forth (fun i hi => fwd i (F.ids i hi)) (fun i hi => ofwd i (F.opens i hi)), xx⟩
 refine ⟨hr.glob, hbW, fun i hi => ?_, fun i o ho => ?_, fun i j oi oj hij hi hj hown => ?_⟩
 ·cases ho : hh.get i with
  | none => rfl
  | some o =>
   rcases split i o ho with ⟨h, _⟩ | ⟨j, hj, rfl, _⟩ <;> omega
 ·rcases split i o ho with ⟨hi, ho2⟩ | ⟨j, hj, rfl, o1, ho1, rfl⟩
  ·exact (hr.obj i o ho2).keep xx (hμold i hi) hr'.below.size (hr'.below.block _ (hr.obj i o ho2).lt)
  ·have hL := List.getElem_mem hj
   obtain ⟨_, o2, ho2, hown, hids, hopn⟩ := F.obj _ hL
   rw [ho1] at ho2; cases ho2
   have hob := hr'.obj _ o1 ho1
   have hbase := hob.base hown
   have hW := hr.below.size
   have hμ := hμnew j hj
   have mv : ∀ {cs : List V} {cc : List Value}, VRs μ' h1 cs cc -> (∀ k ∈ V.idss cs, k ∈ o1.ids) -> (∀ k ∈ V.openss cs, k ∈ o1.opens) -> VRs μ2 hh (V.rens (zaI L h2.next) cs) cc := fun hv h1 h2 => hv.forth (fun k hk => fwd k (hids k (h1 k hk))) (fun k hk => ofwd k (hopn k (h2 k hk)))
   cases o1 with
   | row cs =>
    obtain ⟨_, b, cur, ee, fz, a, hvv, ht⟩ := hob
    simp only [O.ren, ORel, hμ]
    exact ⟨by omega, b, cur, ee, fz, a, mv hvv (fun _ h => h) (fun _ h => h), ht⟩
   | grow s cs =>
    obtain ⟨_, b, cur, ee, fz, a, hvv, hc, ht⟩ := hob
    simp only [O.ren, ORel, hμ, zdt]
    exact ⟨by omega, b, cur, ee, fz, a, mv hvv (fun _ h => h) (fun _ h => h), hc, ht⟩
   | ro cs => cases hown
   | mapo es bs tk =>
    obtain ⟨_, ces, cl, a, hk, hvv, hp, hcl⟩ := hob
    simp only [O.ren, ORel, hμ, List.map_map, Function.comp_def]
    refine ⟨by omega, ces, cl, a, ?_, ?_, hp, hcl⟩
    ·have := mv hk (fun k h => by simp [O.ids, h]) (fun k h => by simp [O.opens, h])
     rw [zb7, List.map_map] at this; exact this
    ·have := mv hvv (fun k h => by simp [O.ids, h]) (fun k h => by simp [O.opens, h])
     rw [zb7, List.map_map] at this; exact this
   | miter m x y z =>
    obtain ⟨_, b, p, a, hs, rf⟩ := hob
    simp only [O.ren, ORel, hμ]
    exact ⟨by omega, b, p, a, hs, rf.forth (fwd _ (hids _ (by simp [O.ids])))⟩
   | defo _ =>
    obtain ⟨_, a⟩ := hob
    simp only [O.ren, ORel, hμ]
    exact ⟨by omega, a⟩
   | loopo l =>
    obtain ⟨_, fn, ct, p, a, hvv, rf⟩ := hob
    simp only [O.ren, ORel, hμ]
    exact ⟨by omega, fn, ct, p, a, mv hvv (fun k h => by simp [O.ids, h]) (fun k h => by simpa [O.opens] using h), rf.forth (fwd _ (hids _ (by simp [O.ids])))⟩
 ·rcases split i oi hi with ⟨hi1, hi2⟩ | ⟨a, ha, rfl, o1, ho1, rfl⟩ <;> rcases split j oj hj with ⟨hj1, hj2⟩ | ⟨b, hb, rfl, o3, ho3, rfl⟩
  ·rw [hμold i hi1, hμold j hj1]; exact hr.sep i j oi oj hij hi2 hj2 hown
  ·rw [hμold i hi1, hμnew b hb]
   have l1 := (hr.obj i oi hi2).lt
   obtain ⟨_, o4, ho4, hown4, _⟩ := F.obj _ (List.getElem_mem hb)
   have l2 := (hr'.obj _ o4 ho4).base hown4
   omega
  ·rw [hμold j hj1, hμnew a ha]
   have l1 := (hr.obj j oj hj2).lt
   obtain ⟨_, o4, ho4, hown4, _⟩ := F.obj _ (List.getElem_mem ha)
   have l2 := (hr'.obj _ o4 ho4).base hown4
   omega
  ·rw [hμnew a ha, hμnew b hb]
   refine hr'.sep _ _ o1 o3 (fun e => hij ?_) ho1 ho3 ?_
   ·have := (hidx2 a ha).symm.trans ((congrArg L.idxOf e).trans (hidx2 b hb)); omega
   ·rw [(O.ren_len _ o1).2.2] at hown; exact hown
end Go.Am
