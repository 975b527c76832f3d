/-
 AM, PART 33. Flat types by their zdV; flat arguments and slices' elements taken into the abstract heap.
-/
import Derived.Test.YtpgcodeckphanaaGreatDoorIAmL
import Derived.OpenShut
namespace Go.Am
open Go.ChangeShapes Go.WideShapes

inductive Lf
 | bool
 | int (k : IntKind)
 | str
 | any
def Lf.ok : Lf -> V -> Prop
 | .bool, v => ∃ b, v = .bool b
 | .int k, v => ∃ n, v = .int k n ∧ (Lit.int k n).wf = true
 | .str, v => ∃ s, v = .str s ∧ s.length ≤ maxLen
 | .any, v => v = .any
mutual
def zhp {H' : Type} : DataW H' -> List V
 | .lit (.int k n) => [.int k n]
 | .lit (.bool b) => [.bool b]
 | .lit (.string s) => [.str s]
 | .agg ps => zfA ps
 | .nil => [.any]
 | .iface _ _ => [.any]
 | .held _ => [.any]
 | _ => []
def zfA {H' : Type} : List (DataW H') -> List V
 | [] => []
 | d :: r => zhp d ++ zfA r
end
inductive Lfs : List Lf -> List V -> Prop
 | nil : Lfs [] []
 | cons {l : Lf} {v : V} {ls : List Lf} {vs : List V} : l.ok v -> Lfs ls vs -> Lfs (l :: ls) (v :: vs)
theorem Lfs.append : ∀ {a b : List Lf} {x y : List V}, Lfs a x -> Lfs b y -> Lfs (a ++ b) (x ++ y)
 | _, _, _, _, .nil, h => h
 | _, _, _, _, .cons h t, h2 => .cons h (t.append h2)
theorem Lfs.length : ∀ {a : List Lf} {x : List V}, Lfs a x -> x.length = a.length
 | _, _, .nil => rfl
 | _, _, .cons _ t => by simp [t.length]
theorem Lfs.cut : ∀ {a b : List Lf} {x : List V}, Lfs (a ++ b) x -> ∃ y z, x = y ++ z ∧ Lfs a y ∧ Lfs b z
 | [], _, x, h => ⟨[], x, rfl, .nil, h⟩
 | _ :: _, _, _, .cons h t => by
  obtain ⟨y, z, rfl, h1, h2⟩ := Lfs.cut t
  exact ⟨_ :: y, z, rfl, .cons h h1, h2⟩
theorem Lfs.bytes : ∀ {n : Nat} {x : List V}, Lfs (List.replicate n (.int .u8)) x -> ∃ l : List UInt8, l.length = n ∧ x = l.map zcg
 | 0, _, .nil => ⟨[], rfl, rfl⟩
 | n + 1, _, h => by
  rw [List.replicate_succ] at h
  cases h with
  | cons h t =>
   obtain ⟨m, rfl, hm⟩ := h
   obtain ⟨l, rfl, rfl⟩ := Lfs.bytes t
   have hb : 0 ≤ m ∧ m < 256 := by simp [Lit.wf, IntKind.min, IntKind.max, IntKind.bits, IntKind.signed] at hm; omega
   refine ⟨UInt8.ofNat m.toNat :: l, rfl, ?_⟩
   simp only [List.map_cons, zcg, List.cons.injEq, and_true, V.int.injEq, true_and]
   simp; omega
section
variable {H' : Type} {enc : TypeId × Value -> H'} {P : Program} {w : World} {base : Nat} {spare : Nat -> Bool} {held : Bool}

def zct (P : Program) (go : TypeId -> Option (List Lf)) : List Field -> Nat -> Option (List Lf)
 | [], _ => some []
 | f :: r, off => if f.offset = off then match go f.type with
   | some l => if P.cellsOf f.type = l.length then (zct P go r (off + l.length)).map (l ++ ·) else none
   | none => none
  else none
def zdV (P : Program) : Nat -> TypeId -> Option (List Lf)
 | 0, _ => none
 | n + 1, t => match P.underlying t with
  | some .bool => some [.bool]
  | some (.int k) => some [.int k]
  | some .string => some [.str]
  | some (.interface _) => some [.any]
  | some (.struct fs) => match zct P (zdV P n) fs.toList 0 with
   | some l => if P.cellsOf t = l.length then some l else none
   | none => none
  | some (.array m e) => match zdV P n e with
   | some l => if P.cellsOf e = l.length then (if P.cellsOf t = m * l.length then some ((List.replicate m l).flatten) else none) else none
   | none => none
  | _ => none

def zh5 (enc : TypeId × Value -> H') (P : Program) (w : World) (base : Nat) (spare : Nat -> Bool) (held : Bool) (t : TypeId) (l : List Lf) : Prop :=
 ∀ (fuel : Nat) (cs : List Value) (x : DataW H' × List MemPlace), DataW.trod enc P w base spare held fuel t cs = some x -> ∃ vs, Lfs l vs ∧ (∀ μ h, VRs μ h vs cs) ∧ zhp x.1 = vs

theorem zel {go : TypeId -> Option (List Lf)} {m : Nat} (hgo : ∀ t l, go t = some l -> zh5 enc P w base spare held t l) {cs : List Value} :
  ∀ (fs : List Field) (ys : List (DataW H' × List MemPlace)) (off : Nat) (l : List Lf), zct P go fs off = some l -> off + l.length ≤ cs.length -> ys.length = fs.length -> (∀ (i : Nat) (f : Field), fs[i]? = some f -> ∃ y, ys[i]? = some y ∧ DataW.trod enc P w base spare held m f.type ((cs.drop f.offset).take (P.cellsOf f.type)) = some y) ->
   ∃ vs, Lfs l vs ∧ (∀ μ h, VRs μ h vs ((cs.drop off).take l.length)) ∧ zfA (ys.map (·.1)) = vs
 | [], ys, off, l, e, hl, hy, _ => by
  simp only [zct, Option.some.injEq] at e
  subst e
  obtain rfl : ys = [] := List.length_eq_zero_iff.1 hy
  exact ⟨[], .nil, fun _ _ => by simpa using VRs.nil, rfl⟩
 | f :: r, [], off, l, e, hl, hy, _ => by simp at hy
 | f :: r, y :: ys, off, l, e, hl, hy, hf => by
  unfold zct at e
  split at e
  ·rename_i ho
   split at e
   ·rename_i l1 h1
    split at e
    ·rename_i hc
     cases hr : zct P go r (off + l1.length) with
     | none => rw [hr] at e; cases e
     | some l2 =>
      rw [hr] at e
      simp only [Option.map_some, Option.some.injEq] at e
      subst e
      simp only [List.length_append] at hl
      obtain ⟨y', hy', hyy⟩ := hf 0 f rfl
      simp only [List.getElem?_cons_zero, Option.some.injEq] at hy'
      subst hy'
      obtain ⟨v1, k1, r1, d1⟩ := hgo _ _ h1 _ _ _ hyy
      obtain ⟨v2, k2, r2, d2⟩ := zel (cs := cs) (m := m) hgo r ys (off + l1.length) l2 hr (by omega) (by simpa using hy) (fun i g hg => by simpa using hf (i + 1) g (by simpa using hg))
      refine ⟨v1 ++ v2, k1.append k2, fun μ h => ?_, by simp only [List.map_cons, zfA, d1, d2]⟩
      have a := r1 μ h
      have b := r2 μ h
      rw [hc, ho] at a
      have : (cs.drop off).take (l1 ++ l2).length = (cs.drop off).take l1.length ++ (cs.drop (off + l1.length)).take l2.length := by
       rw [List.length_append, List.take_add, List.drop_drop]
      rw [this]
      exact a.append b
    ·cases e
   ·cases e
  ·cases e
theorem zmM {l : List Lf} {cs : List Value} {e : TypeId} {m : Nat} (hgo : zh5 enc P w base spare held e l) : ∀ (ys : List (DataW H' × List MemPlace)) (off : Nat), off + ys.length * l.length ≤ cs.length -> (∀ i (hi : i < ys.length), DataW.trod enc P w base spare held m e ((cs.drop (off + i * l.length)).take l.length) = some ys[i]) ->
   ∃ vs, Lfs (List.replicate ys.length l).flatten vs ∧ (∀ μ h, VRs μ h vs ((cs.drop off).take (ys.length * l.length))) ∧ zfA (ys.map (·.1)) = vs
 | [], off, _, _ => ⟨[], .nil, fun _ _ => by simpa using VRs.nil, rfl⟩
 | y :: ys, off, hl, hf => by
  have hy := hf 0 (by simp)
  obtain ⟨v1, k1, r1, d1⟩ := hgo _ _ _ hy
  simp only [List.length_cons] at hl
  have e1 : off + (ys.length + 1) * l.length = off + l.length + ys.length * l.length := by rw [Nat.add_mul]; omega
  obtain ⟨v2, k2, r2, d2⟩ := zmM (l := l) (cs := cs) (m := m) hgo ys (off + l.length) (by omega) (fun i hi => by
   have hy := hf (i + 1) (by simpa using hi)
   rw [show off + l.length + i * l.length = off + (i + 1) * l.length by rw [Nat.add_mul]; omega]
   simpa using hy)
  refine ⟨v1 ++ v2, by rw [List.length_cons, List.replicate_succ, List.flatten_cons]; exact k1.append k2, fun μ h => ?_, by simp only [List.map_cons, zfA, d2]; rw [<- d1]; rfl⟩
  have a := r1 μ h
  have b := r2 μ h
  have : (cs.drop off).take ((ys.length + 1) * l.length) = (cs.drop off).take l.length ++ (cs.drop (off + l.length)).take (ys.length * l.length) := by
   rw [show (ys.length + 1) * l.length = l.length + ys.length * l.length by rw [Nat.add_mul]; omega, List.take_add, List.drop_drop]
  rw [List.length_cons, this]
  simp only [Nat.zero_mul, Nat.add_zero] at a
  exact a.append b
theorem zfM : ∀ (n : Nat) (t : TypeId) (l : List Lf), zdV P n t = some l -> zh5 enc P w base spare held t l
 | 0, _, _, h => by simp [zdV] at h
 | n + 1, t, l, h => by
  intro fuel cs x hx
  unfold zdV at h
  split at h
  ·rename_i ht
   cases h
   cases fuel with
   | zero => simp [DataW.trod] at hx
   | succ m =>
    unfold DataW.trod at hx
    rw [ht] at hx
    split at hx <;> simp_all
    subst hx
    exact ⟨.cons ⟨_, rfl⟩ .nil, fun μ h => .cons rfl .nil⟩
  ·rename_i k ht
   cases h
   obtain ⟨m, rfl, rfl, hw⟩ := DataW.trod_int ht hx
   exact ⟨_, .cons ⟨m, rfl, hw⟩ .nil, fun μ h => .cons rfl .nil, rfl⟩
  ·rename_i ht
   cases h
   cases fuel with
   | zero => simp [DataW.trod] at hx
   | succ m =>
    unfold DataW.trod at hx
    rw [ht] at hx
    split at hx <;> simp_all
    rename_i s
    obtain ⟨hx1, rfl⟩ := hx
    exact ⟨.cons ⟨s.data.toList, rfl, by rw [Array.length_toList]; exact hx1⟩ .nil, fun μ h => .cons (by simp [VR, zhp]) .nil⟩
  ·rename_i ms ht
   cases h
   cases fuel with
   | zero => simp [DataW.trod] at hx
   | succ m =>
    unfold DataW.trod at hx
    rw [ht] at hx
    split at hx <;> simp_all
    ·subst hx
     exact ⟨.cons rfl .nil, fun μ h => .cons rfl .nil⟩
    ·have e0 : zhp x.1 = [.any] := by
      split at hx
      ·cases hx; rfl
      ·simp only [Option.map_eq_some_iff] at hx
       obtain ⟨y, _, rfl⟩ := hx
       rfl
      ·cases hx
     rw [e0]
     exact ⟨.cons rfl .nil, fun μ h => .cons rfl .nil⟩
  ·rename_i fs ht
   split at h
   ·rename_i l1 h1
    split at h
    ·rename_i hc
     cases h
     obtain ⟨xs, m, rfl, rfl, hl, hxl, hf⟩ := DataW.trod_struct ht hx
     obtain ⟨vs, k, r, d⟩ := zel (enc := enc) (w := w) (base := base) (spare := spare) (held := held) (m := m) (fun t l h => zfM n t l h) (cs := cs) fs.toList xs 0 l h1 (by omega) (by simpa using hxl) (fun i f hfi => by
      have hi : fs[i]? = some f := by simpa using hfi
      have hlt : i < fs.size := by
       rcases Nat.lt_or_ge i fs.size with h | h
       ·exact h
       ·rw [Array.getElem?_eq_none h] at hi; cases hi
      refine ⟨xs[i]'(by omega), List.getElem?_eq_getElem _, ?_⟩
      rw [hf i f hi]
      exact List.getElem?_eq_getElem _)
     refine ⟨vs, k, fun μ h => ?_, by simpa [zhp] using d⟩
     have := r μ h
     rwa [List.drop_zero, List.take_of_length_le (by omega)] at this
    ·cases h
   ·cases h
  ·rename_i k e ht
   split at h
   ·rename_i l1 h1
    split at h
    ·rename_i hc
     split at h
     ·rename_i hc2
      cases h
      obtain ⟨xs, m, rfl, rfl, hl, hxl, hf⟩ := DataW.trod_array ht hx
      subst hxl
      have hgo : zh5 enc P w base spare held e l1 := zfM n e l1 h1
      obtain ⟨vs, k2, r, d⟩ := zmM (l := l1) (m := m) hgo xs 0 (cs := cs) (by omega) (fun i hi => by
       have := hf i hi
       rw [hc] at this
       rw [Nat.zero_add, this]
       exact List.getElem?_eq_getElem _)
      refine ⟨vs, k2, fun μ h => ?_, by simpa [zhp] using d⟩
      have := r μ h
      rwa [List.drop_zero, List.take_of_length_le (by omega)] at this
     ·cases h
    ·cases h
   ·cases h
  ·cases h

theorem zpf {W0 : World} {μ : Nat -> Pl} {h : H} (r : Rel W0 μ h w) (ro : h.Ro) {t e : TypeId} {n : Nat} {l : List Lf} (ht : P.underlying t = some (.slice e)) (hl : zdV P n e = some l) (hsz : P.cellsOf e = l.length) (h0 : 0 < l.length) {b : Nat} {v : Value} {d : DataW H'} {ps : List MemPlace}
  (hok : Value.okWide P w .any b t v) (hd : DataW.Trod enc P w base spare held t v d ps) :
  ∃ (μ' : Nat -> Pl) (h' : H) (v' : V) (ess : List (List V)), Rel W0 μ' h' w ∧ h'.Ro ∧ Ext μ h μ' h' ∧ (∀ i o, h.get i = some o -> h'.get i = some o) ∧ VR μ' h' v' v ∧ Sls h'.get l.length v' ess ∧ (∀ es ∈ ess, Lfs l es) ∧
   ((d = .nil ∧ ess = []) ∨ ∃ el sp : List (DataW H'), d = .slice el sp ∧ el.length = ess.length) := by
 obtain ⟨a, len, cap, rfl⟩ := okWide_slice ht hok
 have hsp : ∀ a' len' cap', Value.slice a len cap = .slice (some a') len' cap' -> a'.spot = none := by
  rintro a' len' cap' e
  cases e
  simp only [Value.okWide, ht, Cell.okWide, Cell.ok] at hok
  exact hok.2.2.2.1
 obtain ⟨fuel, hd⟩ := hd
 exact zlx r ro ht hsz h0 (x := (d, ps)) hd hsp (Lfs l) (fun cs' y m hy => by
  obtain ⟨vs, k, q, _⟩ := zfM n e l hl _ _ _ hy
  exact ⟨vs, k.length, q, k⟩)
end
end Go.Am
