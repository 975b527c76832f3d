/-
 AM, PART 9. Other names for objects; objects that nobody needs are let go.
-/
import Derived.Test.YtpgcodeckphanaaGreatDoorIAm8
namespace Go.Am

mutual
def V.ids : V -> List Nat
 | .ptr i _ _ | .sl i _ _ _ _ | .map i | .yl i => [i]
 | .func _ a b => V.idss a ++ V.idss b
 | .iface _ v => V.ids v
 | .agg cs | .tup cs => V.idss cs
 | .bool _ | .int _ _ | .str _ | .nilptr | .gp _ _ | .any | .nilsl | .slz | .nilmap | .nilfunc | .niliface | .dead => []
def V.idss : List V -> List Nat
 | [] => []
 | v :: vs => V.ids v ++ V.idss vs
end
mutual
def V.ren (σ : Nat -> Nat) : V -> V
 | .ptr i n o => .ptr (σ i) n o
 | .sl i n o l c => .sl (σ i) n o l c
 | .map i => .map (σ i)
 | .func f a b => .func f (V.rens σ a) (V.rens σ b)
 | .iface t v => .iface t (V.ren σ v)
 | .agg cs => .agg (V.rens σ cs)
 | .tup cs => .tup (V.rens σ cs)
 | .bool b => .bool b
 | .int k n => .int k n
 | .str s => .str s
 | .nilptr => .nilptr
 | .gp g o => .gp g o
 | .any => .any
 | .nilsl => .nilsl
 | .slz => .slz
 | .nilmap => .nilmap
 | .nilfunc => .nilfunc
 | .niliface => .niliface
 | .dead => .dead
 | .yl i => .yl (σ i)
def V.rens (σ : Nat -> Nat) : List V -> List V
 | [] => []
 | v :: vs => V.ren σ v :: V.rens σ vs
end
def O.ids : O -> List Nat
 | .row cs | .grow _ cs | .ro cs => V.idss cs
 | .mapo es _ _ => V.idss (es.map (·.1)) ++ V.idss (es.map (·.2))
 | .miter m _ _ _ => [m]
 | .defo _ => []
 | .loopo r => r.db :: V.idss r.tmps
def O.ren (σ : Nat -> Nat) : O -> O
 | .row cs => .row (V.rens σ cs)
 | .grow s cs => .grow s (V.rens σ cs)
 | .ro cs => .ro (V.rens σ cs)
 | .mapo es bs tk => .mapo (es.map fun e => (V.ren σ e.1, V.ren σ e.2)) bs tk
 | .miter m a b c => .miter (σ m) a b c
 | .loopo r => .loopo { r with tmps := V.rens σ r.tmps, db := σ r.db }
 | .defo op => .defo op

theorem zb7 (σ : Nat -> Nat) : ∀ vs : List V, V.rens σ vs = vs.map (V.ren σ)
 | [] => rfl
 | v :: vs => by simp [V.rens, zb7 σ vs]
theorem zdt (σ : Nat -> Nat) (vs : List V) : (V.rens σ vs).length = vs.length := by simp [zb7]

mutual
theorem V.ren_id {σ : Nat -> Nat} : ∀ v : V, (∀ i ∈ v.ids, σ i = i) -> v.ren σ = v
 | .ptr i n o, h => by simp [V.ren, h i (by simp [V.ids])]
 | .sl i n o l c, h => by simp [V.ren, h i (by simp [V.ids])]
 | .map i, h => by simp [V.ren, h i (by simp [V.ids])]
 | .yl i, h => by simp [V.ren, h i (by simp [V.ids])]
 | .func f a b, h => by
  simp only [V.ren, V.rens_id a (fun i hi => h i (by simp [V.ids, hi])), V.rens_id b (fun i hi => h i (by simp [V.ids, hi]))]
 | .iface t v, h => by simp only [V.ren, V.ren_id v (fun i hi => h i (by simpa [V.ids] using hi))]
 | .agg cs, h => by simp only [V.ren, V.rens_id cs (fun i hi => h i (by simpa [V.ids] using hi))]
 | .tup cs, h => by simp only [V.ren, V.rens_id cs (fun i hi => h i (by simpa [V.ids] using hi))]
 | .bool _, _ | .int _ _, _ | .str _, _ | .nilptr, _ | .gp _ _, _ | .any, _ | .nilsl, _ | .slz, _ | .nilmap, _ | .nilfunc, _ | .niliface, _ | .dead, _ => rfl
theorem V.rens_id {σ : Nat -> Nat} : ∀ vs : List V, (∀ i ∈ V.idss vs, σ i = i) -> V.rens σ vs = vs
 | [], _ => rfl
 | v :: vs, h => by simp only [V.rens, V.ren_id v (fun i hi => h i (by simp [V.idss, hi])), V.rens_id vs (fun i hi => h i (by simp [V.idss, hi]))]
end
theorem O.ren_id {σ : Nat -> Nat} (o : O) (h : ∀ i ∈ o.ids, σ i = i) : o.ren σ = o := by
 cases o with
 | row cs => simp only [O.ren, V.rens_id cs h]
 | grow s cs => simp only [O.ren, V.rens_id cs h]
 | ro cs => simp only [O.ren, V.rens_id cs h]
 | miter m a b c => simp only [O.ren, h m (by simp [O.ids])]
 | defo _ => rfl
 | loopo r => simp only [O.ren, V.rens_id r.tmps (fun i hi => h i (by simp [O.ids, hi])), h r.db (by simp [O.ids])]
 | mapo es bs tk =>
  have h1 := V.rens_id (σ := σ) (es.map (·.1)) (fun i hi => h i (by simp [O.ids, hi]))
  have h2 := V.rens_id (σ := σ) (es.map (·.2)) (fun i hi => h i (by simp [O.ids, hi]))
  rw [zb7] at h1 h2
  have : ∀ es : List (V × V), (es.map (·.1)).map (V.ren σ) = es.map (·.1) -> (es.map (·.2)).map (V.ren σ) = es.map (·.2) -> (es.map fun e => (V.ren σ e.1, V.ren σ e.2)) = es := by
   intro es
   induction es with
   | nil => intro _ _; rfl
   | cons e es ih =>
    intro a b
    simp only [List.map_cons, List.cons.injEq] at a b ⊢
    exact ⟨by rw [a.1, b.1], ih a.2 b.2⟩
  simp only [O.ren, this es h1 h2]
theorem O.ren_len (σ : Nat -> Nat) (o : O) : (o.ren σ).len = o.len ∧ (o.ren σ).sz = o.sz ∧ (o.ren σ).own = o.own := by
 cases o <;> simp [O.ren, O.len, O.cells, O.sz, O.own, zdt]

mutual
theorem V.ids_ren (σ : Nat -> Nat) : ∀ v : V, (v.ren σ).ids = v.ids.map σ
 | .ptr i n o | .sl i n o l c | .map i | .yl i => rfl
 | .func f a b => by simp only [V.ren, V.ids, V.idss_ren σ a, V.idss_ren σ b, List.map_append]
 | .iface t v => by simp only [V.ren, V.ids, V.ids_ren σ v]
 | .agg cs => by simp only [V.ren, V.ids, V.idss_ren σ cs]
 | .tup cs => by simp only [V.ren, V.ids, V.idss_ren σ cs]
 | .bool _ | .int _ _ | .str _ | .nilptr | .gp _ _ | .any | .nilsl | .slz | .nilmap | .nilfunc | .niliface | .dead => rfl
theorem V.idss_ren (σ : Nat -> Nat) : ∀ vs : List V, V.idss (V.rens σ vs) = (V.idss vs).map σ
 | [] => rfl
 | v :: vs => by simp only [V.rens, V.idss, V.ids_ren σ v, V.idss_ren σ vs, List.map_append]
end
theorem O.ids_ren (σ : Nat -> Nat) (o : O) : (o.ren σ).ids = o.ids.map σ := by
 cases o with
 | row cs => exact V.idss_ren σ cs
 | grow s cs => exact V.idss_ren σ cs
 | ro cs => exact V.idss_ren σ cs
 | miter _ _ _ _ => rfl
 | defo _ => rfl
 | loopo r => simp only [O.ren, O.ids, V.idss_ren σ r.tmps, List.map_cons]
 | mapo es bs tk =>
  have h1 := V.idss_ren σ (es.map (·.1))
  have h2 := V.idss_ren σ (es.map (·.2))
  rw [zb7, List.map_map] at h1 h2
  simp only [O.ren, O.ids, List.map_map, List.map_append, <- h1, <- h2]
  rfl

mutual
theorem VR.live {μ : Nat -> Pl} {h : H} : ∀ {v : V} {c : Value}, VR μ h v c -> ∀ i ∈ v.ids, ∃ o, h.get i = some o
 | .ptr i n o, _, ⟨_, _, o', ho, _⟩, j, hj => by simp [V.ids] at hj; subst hj; exact ⟨o', ho⟩
 | .sl i n o l c, _, ⟨_, _, _, _, _, _, ⟨o', ho, _⟩, _⟩, j, hj => by simp [V.ids] at hj; subst hj; exact ⟨o', ho⟩
 | .map i, _, ⟨_, _, o', ho, _⟩, j, hj => by simp [V.ids] at hj; subst hj; exact ⟨o', ho⟩
 | .yl i, _, ⟨_, _, o', ho, _⟩, j, hj => by simp [V.ids] at hj; subst hj; exact ⟨o', ho⟩
 | .func f a b, _, ⟨_, _, _, r1, r2⟩, j, hj => by
  simp only [V.ids, List.mem_append] at hj
  exact hj.elim (VRs.live r1 j) (VRs.live r2 j)
 | .iface t v, _, ⟨_, _, r⟩, j, hj => VR.live r j (by simpa [V.ids] using hj)
 | .agg cs, _, ⟨_, _, r⟩, j, hj => VRs.live r j (by simpa [V.ids] using hj)
 | .tup cs, _, ⟨_, _, r⟩, j, hj => VRs.live r j (by simpa [V.ids] using hj)
 | .bool _, _, _, j, hj | .int _ _, _, _, j, hj | .str _, _, _, j, hj | .nilptr, _, _, j, hj | .gp _ _, _, _, j, hj | .any, _, _, j, hj | .nilsl, _, _, j, hj | .slz, _, _, j, hj | .nilmap, _, _, j, hj | .nilfunc, _, _, j, hj | .niliface, _, _, j, hj | .dead, _, _, j, hj => by simp [V.ids] at hj
theorem VRs.live {μ : Nat -> Pl} {h : H} : ∀ {vs : List V} {cs : List Value}, VRs μ h vs cs -> ∀ i ∈ V.idss vs, ∃ o, h.get i = some o
 | [], _, _, j, hj => by simp [V.idss] at hj
 | v :: vs, _, ⟨_, _, _, r1, r2⟩, j, hj => by
  simp only [V.idss, List.mem_append] at hj
  exact hj.elim (VR.live r1 j) (VRs.live r2 j)
end
theorem ORel.live {W0 : World} {μ : Nat -> Pl} {h : H} {i : Nat} {w : World} {o : O} (r : ORel W0 μ h i w o) : ∀ j ∈ o.ids, ∃ o', h.get j = some o' := by
 cases o with
 | row cs => obtain ⟨_, _, _, _, _, _, hv, _⟩ := r; exact hv.live
 | grow s cs => obtain ⟨_, _, _, _, _, _, hv, _⟩ := r; exact hv.live
 | ro cs => obtain ⟨_, _, hv, _⟩ := r; exact hv.live
 | mapo es bs tk =>
  obtain ⟨_, _, _, _, hk, hv, _⟩ := r
  intro j hj
  simp only [O.ids, List.mem_append] at hj
  exact hj.elim (hk.live j) (hv.live j)
 | miter m _ _ _ =>
  obtain ⟨_, _, _, _, _, o', ho', _⟩ := r
  intro j hj
  simp only [O.ids, List.mem_singleton] at hj
  exact ⟨o', by rw [hj]; exact ho'⟩
 | defo _ => intro j hj; simp [O.ids] at hj
 | loopo l =>
  obtain ⟨_, _, _, _, _, hv, o', ho', _⟩ := r
  intro j hj
  simp only [O.ids, List.mem_cons] at hj
  exact hj.elim (fun e => ⟨o', by rw [e]; exact ho'⟩) (hv.live j)

def zhT (σ : Nat -> Nat) (h1 h2 : H) (i : Nat) : Prop := ∀ o1, h1.get (σ i) = some o1 -> ∃ o, h2.get i = some o ∧ o.len = o1.len ∧ o.sz = o1.sz

mutual
theorem VR.back {σ : Nat -> Nat} {μ : Nat -> Pl} {h1 h2 : H} : ∀ {v : V} {c : Value}, VR μ h1 (v.ren σ) c -> (∀ i ∈ v.ids, zhT σ h1 h2 i) -> VR (fun i => μ (σ i)) h2 v c
 | .ptr i n o, _, ⟨pl, e, o1, ho1, hn, hm⟩, H => by
  obtain ⟨o2, ho2, e1, e2⟩ := H i (by simp [V.ids]) o1 ho1
  exact ⟨pl, e, o2, ho2, by omega, fun h => hm (by omega)⟩
 | .sl i n o l c, _, ⟨pl, ccap, e, l1, l2, hc, ⟨o1, ho1, hn, hm⟩, ht⟩, H => by
  obtain ⟨o2, ho2, e1, e2⟩ := H i (by simp [V.ids]) o1 ho1
  refine ⟨pl, ccap, e, l1, l2, hc, ⟨o2, ho2, by omega, fun h => hm (by omega)⟩, fun a b o' ho' hl hs => ?_⟩
  rw [ho2] at ho'; cases ho'
  rw [e2] at hs ⊢
  exact ht a b o1 ho1 (by omega) hs
 | .map i, _, ⟨pl, e, o1, ho1, hn, hm⟩, H => by
  obtain ⟨o2, ho2, e1, e2⟩ := H i (by simp [V.ids]) o1 ho1
  exact ⟨pl, e, o2, ho2, by omega, fun h => hm (by omega)⟩
 | .yl i, _, ⟨pl, e, o1, ho1, hn, hm⟩, H => by
  obtain ⟨o2, ho2, e1, e2⟩ := H i (by simp [V.ids]) o1 ho1
  exact ⟨pl, e, o2, ho2, by omega, fun h => hm (by omega)⟩
 | .func f a b, _, ⟨cf, cc, e, r1, r2⟩, H => ⟨cf, cc, e, VRs.back r1 (fun i hi => H i (by simp [V.ids, hi])), VRs.back r2 (fun i hi => H i (by simp [V.ids, hi]))⟩
 | .iface t v, _, ⟨cv, e, r⟩, H => ⟨cv, e, VR.back r (fun i hi => H i (by simpa [V.ids] using hi))⟩
 | .agg cs, _, ⟨cc, e, r⟩, H => ⟨cc, e, VRs.back r (fun i hi => H i (by simpa [V.ids] using hi))⟩
 | .tup cs, _, ⟨cc, e, r⟩, H => ⟨cc, e, VRs.back r (fun i hi => H i (by simpa [V.ids] using hi))⟩
 | .bool _, _, r, _ | .int _ _, _, r, _ | .str _, _, r, _ | .nilptr, _, r, _ | .gp _ _, _, r, _ | .any, _, r, _ | .nilsl, _, r, _ | .slz, _, r, _ | .nilmap, _, r, _ | .nilfunc, _, r, _ | .niliface, _, r, _ => r
 | .dead, _, _, _ => trivial
theorem VRs.back {σ : Nat -> Nat} {μ : Nat -> Pl} {h1 h2 : H} : ∀ {vs : List V} {cs : List Value}, VRs μ h1 (V.rens σ vs) cs -> (∀ i ∈ V.idss vs, zhT σ h1 h2 i) -> VRs (fun i => μ (σ i)) h2 vs cs
 | [], _, r, _ => r
 | v :: vs, _, ⟨c, cs', e, r1, r2⟩, H => ⟨c, cs', e, VR.back r1 (fun i hi => H i (by simp [V.idss, hi])), VRs.back r2 (fun i hi => H i (by simp [V.idss, hi]))⟩
end

structure Renames (σ : Nat -> Nat) (h1 h2 : H) : Prop where
 obj : ∀ i o, h2.get i = some o -> h1.get (σ i) = some (o.ren σ)
 inj : ∀ i j oi oj, h2.get i = some oi -> h2.get j = some oj -> σ i = σ j -> i = j
 names : ∀ i o, h2.get i = some o -> ∀ k ∈ o.ids, ∃ o', h2.get k = some o'
 next : ∀ i, h2.next ≤ i -> h2.get i = none

theorem Renames.ok {σ : Nat -> Nat} {h1 h2 : H} (R : Renames σ h1 h2) {i : Nat} (hi : ∃ o, h2.get i = some o) : zhT σ h1 h2 i := by
 obtain ⟨o, ho⟩ := hi
 intro o1 ho1
 have := R.obj i o ho
 rw [this] at ho1
 cases ho1
 exact ⟨o, ho, (O.ren_len σ o).1.symm, (O.ren_len σ o).2.1.symm⟩

theorem Rel.rename {W0 : World} {μ : Nat -> Pl} {h1 h2 : H} {w : World} (r : Rel W0 μ h1 w) {σ : Nat -> Nat} (R : Renames σ h1 h2) : Rel W0 (fun i => μ (σ i)) h2 w := by
 refine ⟨r.glob, r.below, R.next, fun i o ho => ?_, fun i j oi oj hij hi hj hown => ?_⟩
 ·have hob := r.obj (σ i) _ (R.obj i o ho)
  have hn : ∀ k ∈ o.ids, zhT σ h1 h2 k := fun k hk => R.ok (R.names i o ho k hk)
  cases o with
  | row cs => obtain ⟨a, b, cur, e, fz, hh, hv, ht⟩ := hob; exact ⟨a, b, cur, e, fz, hh, hv.back hn, ht⟩
  | grow s cs =>
   obtain ⟨a, b, cur, e, fz, hh, hv, hc, ht⟩ := hob
   refine ⟨a, b, cur, e, fz, hh, ?_, hc, ht⟩
   rw [zdt] at hv
   exact hv.back hn
  | ro cs => obtain ⟨a, cc, hv, hc⟩ := hob; exact ⟨a, cc, hv.back hn, hc⟩
  | mapo es bs tk =>
   obtain ⟨a, ces, cl, hh, hk, hv, hp, hcl⟩ := hob
   simp only [List.map_map, Function.comp_def] at hk hv
   refine ⟨a, ces, cl, hh, ?_, ?_, hp, hcl⟩
   ·refine VRs.back (σ := σ) (by rw [zb7, List.map_map]; exact hk) fun k hk' => hn k (by simp [O.ids, hk'])
   ·refine VRs.back (σ := σ) (by rw [zb7, List.map_map]; exact hv) fun k hk' => hn k (by simp [O.ids, hk'])
  | miter m x y z =>
   obtain ⟨a, b, p, hh, hs, o1, ho1, hn1, hm1⟩ := hob
   obtain ⟨o2, ho2, e1, _⟩ := hn m (by simp [O.ids]) o1 ho1
   exact ⟨a, b, p, hh, hs, o2, ho2, by omega, fun e => hm1 (by omega)⟩
  | defo _ => exact hob
  | loopo l =>
   obtain ⟨a, fn, ct, p, hh, hv, o1, ho1, hn1, hm1⟩ := hob
   obtain ⟨o2, ho2, e1, _⟩ := hn l.db (by simp [O.ids]) o1 ho1
   exact ⟨a, fn, ct, p, hh, hv.back fun k hk' => hn k (by simp [O.ids, hk']), o2, ho2, by omega, fun e => hm1 (by omega)⟩
 ·refine r.sep (σ i) (σ j) _ _ (fun e => hij (R.inj i j oi oj hi hj e)) (R.obj i oi hi) (R.obj j oj hj) ?_
  rw [(O.ren_len σ oi).2.2]; exact hown

theorem Acalls.rename {P : Program} {f : FuncId} {args : List V} {h : H} {Q : V -> H -> Prop}
  (c : Acalls P f args h fun v h1 => ∃ σ v2 h2, v = v2.ren σ ∧ Renames σ h1 h2 ∧ (∀ i ∈ v2.ids, ∃ o, h2.get i = some o) ∧ (∀ i o, h.get i = some o -> σ i = i ∧ ∃ o', h2.get i = some o') ∧ Q v2 h2) : Acalls P f args h Q := by
 refine ⟨c.1, fun W0 μ w cargs hr hv => (c.2 W0 μ w cargs hr hv).mono ?_⟩
 rintro e w' ⟨v, cv, h1, μ', he, ⟨σ, v2, h2, rfl, R, hids, hold, hq⟩, hr', hv', x⟩
 refine ⟨v2, cv, h2, fun i => μ' (σ i), he, hq, hr'.rename R, hv'.back (fun i hi => R.ok (hids i hi)), fun i o ho => ?_⟩
 obtain ⟨hσ, o', ho'⟩ := hold i o ho
 obtain ⟨o1, ho1, e1, l1, m1⟩ := x i o ho
 have := R.obj i o' ho'
 rw [hσ, ho1] at this
 cases this
 obtain ⟨a, b, _⟩ := O.ren_len σ o'
 exact ⟨o', ho', by omega, by omega, fun e => by show μ' (σ i) = μ i; rw [hσ]; exact m1 (by omega)⟩

theorem Acalls.drop {P : Program} {f : FuncId} {args : List V} {h : H} {Q : V -> H -> Prop}
  (c : Acalls P f args h fun v h1 => (∀ i o, h.get i = some o -> h1.get i = some o) ∧ (∀ i ∈ v.ids, ∃ o, h.get i = some o) ∧ Q v h) : Acalls P f args h Q := by
 refine ⟨c.1, fun W0 μ w cargs hr hv => (c.2 W0 μ w cargs hr hv).mono ?_⟩
 rintro e w' ⟨v, cv, h1, μ', he, ⟨hold, hids, hq⟩, hr', hv', x⟩
 have R : Renames id h1 h := ⟨fun i o ho => by rw [O.ren_id (σ := id) o (fun _ _ => rfl)]; exact hold i o ho, fun i j _ _ _ _ e => e, fun i o ho => (hr.obj i o ho).live, hr.next⟩
 have hv2 : VR μ' h1 (v.ren id) cv := by rw [V.ren_id (σ := id) v (fun _ _ => rfl)]; exact hv'
 refine ⟨v, cv, h, μ', he, hq, hr'.rename R, hv2.back (fun i hi => R.ok (hids i hi)), fun i o ho => ⟨o, ho, rfl, Nat.le_refl _, fun _ => ?_⟩⟩
 obtain ⟨o1, ho1, _, _, m1⟩ := x i o ho
 have := hold i o ho
 rw [ho1] at this; cases this
 exact m1 rfl
end Go.Am
