/-
 AM, PART 15. What a closed run says is so.
-/
import Derived.Test.YtpgcodeckphanaaGreatDoorIAm14
namespace Go.Am

variable {P : Program}

def CfOk (P : Program) (cf : CF) : Prop := ∀ f args h v h', cf f args h = some (v, h') -> ∀ Q : V -> H -> Prop, Q v h'.H -> Acalls P f args h.H Q

theorem zfi (g : Nat -> Option O) : ∀ (l : List Nat) (i : Nat), (frz g l).get i = if i ∈ l then (g i).bind O.freeze else none
 | [], i => by simp [frz, Bt.get_nil]
 | k :: l, i => by
  have ih := zfi g l i
  unfold frz
  split
  ·rename_i o ho
   rw [Bt.get_put, ih]
   by_cases e : i = k
   ·subst e; simp [ho]
   ·simp [e]
  ·rename_i ho
   rw [ih]
   by_cases e : i = k
   ·subst e; simp [ho]
   ·simp [e]

theorem zhA {o : O} (h : (match o with | .row _ | .grow _ _ | .ro _ => true | _ => false) = true) : ∃ o', o.freeze = some o' := by
 cases o <;> first | exact ⟨_, rfl⟩ | cases h

theorem zmc {g : Nat -> Option O} {k : Nat} {rd : List Nat} (h : zh8 g k rd = true) : Small (Hp.H ⟨k, frz g rd⟩) g ∧ (∀ i ∈ rd, ∃ o, (Hp.H ⟨k, frz g rd⟩).get i = some o) ∧ ∀ i o, (Hp.H ⟨k, frz g rd⟩).get i = some o -> i ∈ rd ∧ i < k := by
 simp only [zh8, List.all_eq_true, Bool.and_eq_true] at h
 have live : ∀ i ∈ rd, ∃ o, (frz g rd).get i = some o := by
  intro i hi
  obtain ⟨_, h2⟩ := h i hi
  split at h2
  ·rename_i o ho
   simp only [Bool.and_eq_true] at h2
   obtain ⟨o', ho'⟩ := zhA h2.1
   exact ⟨o', by rw [zfi, if_pos hi, ho]; exact ho'⟩
  ·cases h2
 have mem : ∀ i o, (frz g rd).get i = some o -> i ∈ rd := by
  intro i o ho
  rw [zfi] at ho
  split at ho
  ·assumption
  ·cases ho
 refine ⟨⟨fun i hi => ?_, fun i o ho => ?_, fun i o ho j hj => ?_⟩, live, fun i o ho => ⟨mem i o ho, ?_⟩⟩
 ·cases ho : (frz g rd).get i with
  | none => exact ho
  | some o =>
   have hl := (h i (mem i o ho)).1
   rw [Nat.blt_eq] at hl
   have : k ≤ i := hi
   omega
 ·have hm := mem i o ho
  have ho2 : (frz g rd).get i = some o := ho
  rw [zfi, if_pos hm] at ho2
  cases hg : g i with
  | none => rw [hg] at ho2; cases ho2
  | some o' => rw [hg] at ho2; exact ⟨o', rfl, ho2⟩
 ·have hm := mem i o ho
  have ho2 : (frz g rd).get i = some o := ho
  rw [zfi, if_pos hm] at ho2
  obtain ⟨_, h2⟩ := h i hm
  cases hg : g i with
  | none => rw [hg] at ho2; cases ho2
  | some o' =>
   rw [hg] at ho2 h2
   simp only [Bool.and_eq_true, List.all_eq_true] at h2
   rw [(O.freeze_ids ho2).1] at hj
   exact live j (by simpa using h2.2 j hj)
 ·have := (h i (mem i o ho)).1
  rwa [Nat.blt_eq] at this

theorem zil : ∀ {l : List Nat}, zhP l = true -> l.Nodup
 | [], _ => List.nodup_nil
 | x :: xs, h => by
  simp only [zhP, Bool.and_eq_true, Bool.not_eq_true'] at h
  refine List.nodup_cons.2 ⟨fun hx => ?_, zil h.2⟩
  have := List.contains_iff_mem.2 hx
  rw [h.1] at this; cases this
theorem zp9 {hF h1 : Hp} {j : Nat} (h : oldB hF h1 j = true) : zfp hF.H h1.H j := by
 unfold oldB at h
 split at h
 ·rename_i a b ha hb
  exact ⟨a, b, ha, hb, Nat.eq_of_beq_eq_true h⟩
 ·cases h
theorem zlR {hF h1 : Hp} {L : List Nat} {v : V} (h : zie hF h1 L v = true) : FrameOk hF.H h1.H L v := by
 simp only [zie, Bool.and_eq_true, List.all_eq_true, Bool.or_eq_true] at h
 obtain ⟨⟨⟨hn, ho⟩, hi⟩, hp⟩ := h
 have conv : ∀ {j : Nat}, (L.contains j = true ∨ oldB hF h1 j = true) -> j ∈ L ∨ zfp hF.H h1.H j := fun h => h.imp (fun h => by simpa using h) zp9
 refine ⟨zil hn, fun i hL => ?_, fun j hj => conv (hi j hj), fun j hj => by simpa using hp j hj⟩
 obtain ⟨a, b⟩ := ho i hL
 refine ⟨(by simpa using a : hF.tr.get i = none), ?_⟩
 split at b
 ·rename_i o hob
  simp only [Bool.and_eq_true, List.all_eq_true, Bool.or_eq_true] at b
  exact ⟨o, hob, b.1.1, fun j hj => conv (b.1.2 j hj), fun j hj => by simpa using b.2 j hj⟩
 ·cases b
theorem zlw {a b : Ev} (h : zif a b = true) : apart a b := by
 simp only [zif, Bool.and_eq_true, List.all_eq_true, Bool.not_eq_true'] at h
 have nc : ∀ {l : List Nat} {i : Nat}, l.contains i = false -> i ∉ l := fun h hm => by
  have := List.contains_iff_mem.2 hm
  rw [h] at this; cases this
 refine ⟨fun x hx => ⟨nc (h.1 x hx).1, fun y hy e => ?_⟩, fun y hy => nc (h.2 y hy)⟩
 have := (h.1 x hx).2 y hy
 rw [e, Nat.beq_refl] at this; cases this
theorem zhY (t : Bt O) : ∀ (l : List (Nat × O)) (i : Nat), (upsT t l).get i = upds t.get l i
 | [], i => rfl
 | (k, o) :: l, i => by rw [upsT, Bt.get_put, upds, zhY t l]
theorem zko (t : Bt O) (l : List (Nat × O)) : (upsT t l).get = upds t.get l := funext (zhY t l)

mutual
theorem V.ren_congr {σ τ : Nat -> Nat} : ∀ v : V, (∀ i ∈ v.ids, σ i = τ i) -> v.ren σ = v.ren τ
 | .ptr i n o, h => by simp [V.ren, h i (by simp [V.ids])]
 | .sl i n o l c, h => by simp [V.ren, h i (by simp [V.ids])]
 | .map i, h => by simp [V.ren, h i (by simp [V.ids])]
 | .yl i, h => by simp [V.ren, h i (by simp [V.ids])]
 | .func f a b, h => by
  simp only [V.ren, V.rens_congr a (fun i hi => h i (by simp [V.ids, hi])), V.rens_congr b (fun i hi => h i (by simp [V.ids, hi]))]
 | .iface t v, h => by simp only [V.ren, V.ren_congr v (fun i hi => h i (by simpa [V.ids] using hi))]
 | .agg cs, h => by simp only [V.ren, V.rens_congr cs (fun i hi => h i (by simpa [V.ids] using hi))]
 | .tup cs, h => by simp only [V.ren, V.rens_congr cs (fun i hi => h i (by simpa [V.ids] using hi))]
 | .bool _, _ | .int _ _, _ | .str _, _ | .nilptr, _ | .gp _ _, _ | .any, _ | .nilsl, _ | .slz, _ | .nilmap, _ | .nilfunc, _ | .niliface, _ | .dead, _ => rfl
theorem V.rens_congr {σ τ : Nat -> Nat} : ∀ vs : List V, (∀ i ∈ V.idss vs, σ i = τ i) -> V.rens σ vs = V.rens τ vs
 | [], _ => rfl
 | v :: vs, h => by simp only [V.rens, V.ren_congr v (fun i hi => h i (by simp [V.idss, hi])), V.rens_congr vs (fun i hi => h i (by simp [V.idss, hi]))]
end
mutual
theorem V.ren_ren (σ τ : Nat -> Nat) : ∀ v : V, (v.ren σ).ren τ = v.ren fun i => τ (σ i)
 | .ptr i n o | .sl i n o l c | .map i | .yl i => rfl
 | .func f a b => by simp only [V.ren, V.rens_rens σ τ a, V.rens_rens σ τ b]
 | .iface t v => by simp only [V.ren, V.ren_ren σ τ v]
 | .agg cs => by simp only [V.ren, V.rens_rens σ τ cs]
 | .tup cs => by simp only [V.ren, V.rens_rens σ τ cs]
 | .bool _ | .int _ _ | .str _ | .nilptr | .gp _ _ | .any | .nilsl | .slz | .nilmap | .nilfunc | .niliface | .dead => rfl
theorem V.rens_rens (σ τ : Nat -> Nat) : ∀ vs : List V, V.rens τ (V.rens σ vs) = V.rens (fun i => τ (σ i)) vs
 | [] => rfl
 | v :: vs => by simp only [V.rens, V.ren_ren σ τ v, V.rens_rens σ τ vs]
end
theorem O.ren_ren (σ τ : Nat -> Nat) (o : O) : (o.ren σ).ren τ = o.ren fun i => τ (σ i) := by
 cases o with
 | row cs => simp only [O.ren, V.rens_rens]
 | grow s cs => simp only [O.ren, V.rens_rens]
 | ro cs => simp only [O.ren, V.rens_rens]
 | miter _ _ _ _ => rfl
 | defo _ => rfl
 | loopo r => simp only [O.ren, V.rens_rens]
 | mapo es _ _ => simp only [O.ren, List.map_map, Function.comp_def, V.ren_ren]
theorem O.ren_congr {σ τ : Nat -> Nat} (o : O) (h : ∀ i ∈ o.ids, σ i = τ i) : o.ren σ = o.ren τ := by
 cases o with
 | row cs => simp only [O.ren, V.rens_congr cs h]
 | grow s cs => simp only [O.ren, V.rens_congr cs h]
 | ro cs => simp only [O.ren, V.rens_congr cs h]
 | miter m a b c => simp only [O.ren, h m (by simp [O.ids])]
 | defo _ => rfl
 | loopo r => simp only [O.ren, V.rens_congr r.tmps (fun i hi => h i (by simp [O.ids, hi])), h r.db (by simp [O.ids])]
 | mapo es bs tk =>
  simp only [O.ren, O.mapo.injEq, and_true]
  refine List.map_congr_left fun e he => ?_
  have h1 : e.1.ren σ = e.1.ren τ := V.ren_congr _ fun i hi => h i (by
   simp only [O.ids, List.mem_append]; exact .inl (memIds (List.mem_map_of_mem (f := (·.1)) he) hi))
  have h2 : e.2.ren σ = e.2.ren τ := V.ren_congr _ fun i hi => h i (by
   simp only [O.ids, List.mem_append]; exact .inr (memIds (List.mem_map_of_mem (f := (·.2)) he) hi))
  rw [h1, h2]
where
 memIds : ∀ {vs : List V} {v : V} {i : Nat}, v ∈ vs -> i ∈ v.ids -> i ∈ V.idss vs := by
  intro vs
  induction vs with
  | nil => intro v i h; cases h
  | cons u us ih =>
   intro v i h hi
   simp only [V.idss, List.mem_append]
   rcases List.mem_cons.1 h with rfl | h
   ·exact .inl hi
   ·exact .inr (ih h hi)

theorem zj2 {g : Nat -> Option O} {f : FuncId} {first cap args : List V} {hF h1 : H} {e : Nat} {v : V} {L rd : List Nat} (S : Small hF g) (hrd : ∀ i o, hF.get i = some o -> i ∈ rd) (hargs : ∀ i ∈ V.idss (first ++ args ++ cap), ∃ o, hF.get i = some o)
  (he : hF.next + room ≤ e) (hL : L.length ≤ room) (F : FrameOk hF h1 L v) (c : ∀ Q : V -> H -> Prop, Q v h1 -> Acalls P f (first ++ args ++ cap) hF Q) :
  zfB P (.func (.func f) first cap) args g hF.next e (v.ren (zaI L hF.next)) rd (L.map fun i => (zer h1 i).ren (zaI L hF.next)) := by
 have hlt : ∀ j, zfp hF h1 j -> j < hF.next ∧ j ∉ L := by
  rintro j ⟨oF, o1, a, _, _⟩
  refine ⟨?_, fun hj => by rw [(F.obj j hj).1] at a; cases a⟩
  rcases Nat.lt_or_ge j hF.next with h | h
  ·exact h
  ·rw [S.next j h] at a; cases a
 have nn : ∀ j, (j ∈ L ∨ zfp hF h1 j) -> zaI L hF.next j < e ∧ ∀ e', shift hF.next e' (zaI L hF.next j) = zaI L e' j := by
  rintro j (hj | hj)
  ·have hi := List.idxOf_lt_length_of_mem hj
   rw [zbU hj]
   refine ⟨by omega, fun e' => ?_⟩
   rw [zbU hj, shift, if_pos (by omega)]; omega
  ·obtain ⟨h1, h2⟩ := hlt j hj
   rw [zcE h2]
   refine ⟨by omega, fun e' => ?_⟩
   rw [zcE h2, shift, if_neg (by omega)]
 have objIds : ∀ i ∈ L, ∀ j ∈ (zer h1 i).ids, j ∈ L ∨ zfp hF h1 j := by
  intro i hi j hj
  obtain ⟨_, o, ho, _, hids, _⟩ := F.obj i hi
  rw [show zer h1 i = o by simp [zer, ho]] at hj
  exact hids j hj
 refine ⟨by simpa using hL, fun i hi => ?_, fun o ho i hi => ?_, fun h2 hn hg => ?_⟩
 ·rw [V.ids_ren, List.mem_map] at hi
  obtain ⟨j, hj, rfl⟩ := hi
  exact (nn j (F.ids j hj)).1
 ·rw [List.mem_map] at ho
  obtain ⟨x, hx, rfl⟩ := ho
  rw [O.ids_ren, List.mem_map] at hi
  obtain ⟨j, hj, rfl⟩ := hi
  exact (nn j (objIds x hx j hj)).1
 ·have S2 : Small hF h2.get := ⟨S.next, fun i o ho => by
   obtain ⟨o', a, b⟩ := S.obj i o ho
   exact ⟨o', by rw [hg i (hrd i o ho)]; exact a, b⟩, S.ids⟩
  subst hn
  have fr := Acalls.frame (Q := fun v' os => v' = v.ren (zaI L h2.next) ∧ os = L.map fun i => (zer h1 i).ren (zaI L h2.next)) S2 hargs (c _ ⟨L, F, rfl, rfl⟩)
  simp only [zdA]
  refine fr.mono ?_
  rintro v' h' ⟨os, ⟨rfl, rfl⟩, rfl⟩
  constructor
  ·rw [V.ren_ren]
   exact V.ren_congr v fun j hj => ((nn j (F.ids j hj)).2 _).symm
  ·congr 1
   rw [List.map_map]
   refine List.map_congr_left fun i hi => ?_
   simp only [Function.comp_apply]
   rw [O.ren_ren]
   exact O.ren_congr _ fun j hj => ((nn j (objIds i hi j hj)).2 _).symm

end Go.Am
