/-
 AM, PART 45. Arguments with lists within lists: types by their zcX, taken whole into the abstract heap; sizes by the data's weights.
-/
import Derived.Test.YtpgcodeckphanaaGreatDoorJAm33
import Derived.Test.YtpgcodeckphanaaGreatDoorJAm37
namespace Go.Am
open Go.ChangeShapes Go.WideShapes

inductive Dl
 | lf (l : Lf)
 | sl (b : Nat) (ds : List Dl)

mutual
def Dl.ok (g : Nat -> Option O) : Dl -> V -> Prop
 | .lf l, v => l.ok v
 | .sl b ds, v => ∃ ess : List (List V), Sls g ds.length v ess ∧ zcb v ∧ ess.length * b ≤ reachBytes ∧ ∀ es ∈ ess, Dls.ok g ds es
def Dls.ok (g : Nat -> Option O) : List Dl -> List V -> Prop
 | [], vs => vs = []
 | d :: ds, vs => ∃ v r, vs = v :: r ∧ Dl.ok g d v ∧ Dls.ok g ds r
end
mutual
theorem Dl.mono {g g' : Nat -> Option O} (k : ∀ i o, g i = some o -> g' i = some o) : ∀ (d : Dl) (v : V), Dl.ok g d v -> Dl.ok g' d v
 | .lf _, _, h => h
 | .sl _ ds, _, ⟨ess, s, c, b, q⟩ => ⟨ess, s.mono k, c, b, fun es he => Dls.mono k ds es (q es he)⟩
theorem Dls.mono {g g' : Nat -> Option O} (k : ∀ i o, g i = some o -> g' i = some o) : ∀ (ds : List Dl) (vs : List V), Dls.ok g ds vs -> Dls.ok g' ds vs
 | [], _, h => h
 | d :: ds, _, ⟨v, r, e, h1, h2⟩ => ⟨v, r, e, Dl.mono k d v h1, Dls.mono k ds r h2⟩
end
theorem Dls.length {g : Nat -> Option O} : ∀ {ds : List Dl} {vs : List V}, Dls.ok g ds vs -> vs.length = ds.length
 | [], _, h => by simp only [Dls.ok] at h; subst h; rfl
 | _ :: ds, _, ⟨_, r, rfl, _, h2⟩ => by simp [Dls.length h2]
theorem Dls.append {g : Nat -> Option O} : ∀ {a b : List Dl} {x y : List V}, Dls.ok g a x -> Dls.ok g b y -> Dls.ok g (a ++ b) (x ++ y)
 | [], _, _, _, h, h2 => by simp only [Dls.ok] at h; subst h; exact h2
 | _ :: _, _, _, _, ⟨v, r, rfl, h1, h3⟩, h2 => ⟨v, _, rfl, h1, Dls.append h3 h2⟩

section
variable {H' : Type} {enc : TypeId × Value -> H'} {P : Program} {w : World} {base : Nat} {spare : Nat -> Bool} {held : Bool}

def zja (P : Program) (go : TypeId -> Option (List Dl)) : List Field -> Nat -> Option (List Dl)
 | [], _ => some []
 | f :: r, off => if f.offset = off then match go f.type with
   | some l => if P.cellsOf f.type = l.length then (zja P go r (off + l.length)).map (l ++ ·) else none
   | none => none
  else none
def zdK (P : Program) : Nat -> TypeId -> Option (List Dl)
 | 0, _ => none
 | n + 1, t => match P.underlying t with
  | some .bool => some [.lf .bool]
  | some (.int k) => some [.lf (.int k)]
  | some .string => some [.lf .str]
  | some (.struct fs) => match zja P (zdK P n) fs.toList 0 with
   | some l => if P.cellsOf t = l.length then some l else none
   | none => none
  | some (.slice e) => match zdK P n e with
   | some l => if P.cellsOf e = l.length ∧ 0 < l.length then some [.sl (P.bytesOf e) l] else none
   | none => none
  | _ => none

def InTo (W0 w : World) (μ : Nat -> Pl) (h : H) (μ' : Nat -> Pl) (h' : H) : Prop := Rel W0 μ' h' w ∧ h'.Ro ∧ Ext μ h μ' h' ∧ ∀ i o, h.get i = some o -> h'.get i = some o
theorem InTo.refl {W0 w : World} {μ : Nat -> Pl} {h : H} (r : Rel W0 μ h w) (ro : h.Ro) : InTo W0 w μ h μ h := ⟨r, ro, Ext.refl _ _, fun _ _ e => e⟩
theorem InTo.trans {W0 w : World} {μ μ1 μ2 : Nat -> Pl} {h h1 h2 : H} (a : InTo W0 w μ h μ1 h1) (b : InTo W0 w μ1 h1 μ2 h2) : InTo W0 w μ h μ2 h2 :=
 ⟨b.1, b.2.1, a.2.2.1.trans b.2.2.1, fun i o e => b.2.2.2 i o (a.2.2.2 i o e)⟩

def zgY (P : Program) (t : TypeId) (d : DataW H') : Prop := ∀ n ∈ DataW.weights P t d, n ≤ reachBytes
def zke (W0 : World) (enc : TypeId × Value -> H') (P : Program) (w : World) (base : Nat) (spare : Nat -> Bool) (held : Bool) (t : TypeId) (l : List Dl) : Prop :=
 ∀ (fuel : Nat) (cs : List Value) (x : DataW H' × List MemPlace), DataW.trod enc P w base spare held fuel t cs = some x -> zgY P t x.1 -> ∀ (μ : Nat -> Pl) (h : H), Rel W0 μ h w -> h.Ro ->
  ∃ μ' h' vs, InTo W0 w μ h μ' h' ∧ VRs μ' h' vs cs ∧ Dls.ok h'.get l vs

theorem ziE {W0 : World} {go : TypeId -> Option (List Dl)} {m : Nat} (hgo : ∀ t l, go t = some l -> zke W0 enc P w base spare held t l) {cs : List Value} :
  ∀ (fs : List Field) (ys : List (DataW H' × List MemPlace)) (off : Nat) (l : List Dl), zja P go fs off = some l -> off + l.length ≤ cs.length -> ys.length = fs.length -> (∀ (i : Nat) (f : Field), fs[i]? = some f -> ∃ y, ys[i]? = some y ∧ DataW.trod enc P w base spare held m f.type ((cs.drop f.offset).take (P.cellsOf f.type)) = some y) ->
   (∀ n ∈ DataW.weightsEach P (fs.map (·.type)) (ys.map (·.1)), n ≤ reachBytes) -> ∀ (μ : Nat -> Pl) (h : H), Rel W0 μ h w -> h.Ro ->
   ∃ μ' h' vs, InTo W0 w μ h μ' h' ∧ VRs μ' h' vs ((cs.drop off).take l.length) ∧ Dls.ok h'.get l vs
 | [], ys, off, l, e, hl, hy, _, _, μ, h, r, ro => by
  simp only [zja, Option.some.injEq] at e
  subst e
  exact ⟨μ, h, [], .refl r ro, by simpa using VRs.nil, rfl⟩
 | f :: r, [], off, l, e, hl, hy, _, _, _, _, _, _ => by simp at hy
 | f :: fr, y :: ys, off, l, e, hl, hy, hf, hs, μ, h, r, ro => by
  unfold zja at e
  split at e
  ·rename_i ho
   split at e
   ·rename_i l1 h1
    split at e
    ·rename_i hc
     cases hr : zja P go fr (off + l1.length) with
     | none => rw [hr] at e; cases e
     | some l2 =>
      rw [hr] at e
      simp only [Option.map_some, Option.some.injEq] at e
      subst e
      simp only [List.length_append] at hl
      obtain ⟨y', hy', hyy⟩ := hf 0 f rfl
      simp only [List.getElem?_cons_zero, Option.some.injEq] at hy'
      subst hy'
      simp only [List.map_cons, DataW.weightsEach, List.mem_append] at hs
      obtain ⟨μ1, h1', v1, i1, r1, k1⟩ := hgo _ _ h1 _ _ _ hyy (fun n hn => hs n (.inl hn)) μ h r ro
      obtain ⟨μ2, h2', v2, i2, r2, k2⟩ := ziE (cs := cs) (m := m) hgo fr ys (off + l1.length) l2 hr (by omega) (by simpa using hy) (fun i g hg => by simpa using hf (i + 1) g (by simpa using hg)) (fun n hn => hs n (.inr hn)) μ1 h1' i1.1 i1.2.1
      refine ⟨μ2, h2', v1 ++ v2, i1.trans i2, ?_, Dls.append (Dls.mono i2.2.2.2 _ _ k1) k2⟩
      have a := VRs.ext i2.2.2.1 _ _ r1
      rw [hc, ho] at a
      have : (cs.drop off).take (l1 ++ l2).length = (cs.drop off).take l1.length ++ (cs.drop (off + l1.length)).take l2.length := by
       rw [List.length_append, List.take_add, List.drop_drop]
      rw [this]
      exact a.append r2
    ·cases e
   ·cases e
  ·cases e

theorem zim {W0 : World} {l : List Dl} {e : TypeId} {m : Nat} (hgo : zke W0 enc P w base spare held e l) (cf : Nat -> List Value) (D : Nat -> DataW H') (Pl' : Nat -> List MemPlace) (μ : Nat -> Pl) (h : H) (r : Rel W0 μ h w) (ro : h.Ro) : ∀ k : Nat,
  (∀ i, i < k -> DataW.trod enc P w base spare held m e (cf i) = some (D i, Pl' i) ∧ zgY P e (D i)) ->
  ∃ (μ' : Nat -> Pl) (h' : H) (ess : List (List V)), InTo W0 w μ h μ' h' ∧ ess.length = k ∧ VRs μ' h' ess.flatten ((List.range k).map cf).flatten ∧ ∀ es ∈ ess, Dls.ok h'.get l es
 | 0, _ => ⟨μ, h, [], .refl r ro, rfl, by simpa using VRs.nil, by simp⟩
 | k + 1, hx => by
  obtain ⟨μ1, h1, ess, i1, e1, r1, q1⟩ := zim hgo cf D Pl' μ h r ro k fun i hi => hx i (by omega)
  obtain ⟨t1, s1⟩ := hx k (by omega)
  obtain ⟨μ2, h2, vs, i2, r2, q2⟩ := hgo _ _ _ t1 s1 μ1 h1 i1.1 i1.2.1
  refine ⟨μ2, h2, ess ++ [vs], i1.trans i2, by simp [e1], ?_, fun es he => ?_⟩
  ·rw [List.range_succ, List.map_append, List.flatten_append, List.flatten_append]
   exact (VRs.ext i2.2.2.1 _ _ r1).append (by simpa using r2)
  ·rcases List.mem_append.1 he with he | he
   ·exact Dls.mono i2.2.2.2 _ _ (q1 es he)
   ·rw [List.mem_singleton] at he; subst he; exact q2

theorem zdF {e : TypeId} : ∀ {l : List (DataW H')} {d : DataW H'}, d ∈ l -> ∀ n ∈ DataW.weights P e d, n ∈ DataW.weightsAll P e l
 | x :: l, d, hd, n, hn => by
  simp only [DataW.weightsAll, List.mem_append]
  rcases List.mem_cons.1 hd with rfl | hd
  ·exact .inl hn
  ·exact .inr (zdF hd n hn)

theorem zhL {W0 : World} : ∀ (n : Nat) (t : TypeId) (l : List Dl), zdK P n t = some l -> zke W0 enc P w base spare held t l
 | 0, _, _, h => by simp [zdK] at h
 | n + 1, t, l, h => by
  intro fuel cs x hx hs μ hh r ro
  have flat : ∀ lf : Lf, zcX P 1 t = some [lf] -> l = [.lf lf] -> ∃ μ' h' vs, InTo W0 w μ hh μ' h' ∧ VRs μ' h' vs cs ∧ Dls.ok h'.get l vs := by
   intro lf e1 e2
   obtain ⟨vs, k, q, _⟩ := zgh (enc := enc) (w := w) (base := base) (spare := spare) (held := held) 1 t _ e1 _ _ _ hx
   cases k with
   | cons k1 k2 =>
    cases k2
    exact ⟨μ, hh, _, .refl r ro, q _ _, by rw [e2]; exact ⟨_, _, rfl, k1, rfl⟩⟩
  unfold zdK at h
  split at h
  ·rename_i ht
   cases h
   exact flat .bool (by simp [zcX, ht]) rfl
  ·rename_i k ht
   cases h
   exact flat (.int k) (by simp [zcX, ht]) rfl
  ·rename_i ht
   cases h
   exact flat .str (by simp [zcX, ht]) rfl
  ·rename_i fs ht
   split at h
   ·rename_i l1 h1
    split at h
    ·rename_i hc
     cases h
     obtain ⟨xs, m, rfl, rfl, hl, hxl, hf⟩ := DataW.trod_struct ht hx
     have hs' : ∀ n ∈ DataW.weightsEach P (fs.toList.map (·.type)) (xs.map (·.1)), n ≤ reachBytes := by
      have := hs
      unfold zgY at this
      simp only [DataW.weights, ht] at this
      exact this
     obtain ⟨μ', h', vs, i1, r1, q1⟩ := ziE (enc := enc) (w := w) (base := base) (spare := spare) (held := held) (m := m) (W0 := W0) (fun t l h => zhL n t l h) (cs := cs) fs.toList xs 0 l h1 (by omega) (by simpa using hxl) (fun i f hfi => by
      have hi : fs[i]? = some f := by simpa using hfi
      have hlt : i < fs.size := by
       rcases Nat.lt_or_ge i fs.size with h | h
       ·exact h
       ·rw [Array.getElem?_eq_none h] at hi; cases hi
      refine ⟨xs[i]'(by omega), List.getElem?_eq_getElem _, ?_⟩
      rw [hf i f hi]
      exact List.getElem?_eq_getElem _) hs' μ hh r ro
     refine ⟨μ', h', vs, i1, ?_, q1⟩
     rwa [List.drop_zero, List.take_of_length_le (by omega)] at r1
    ·cases h
   ·cases h
  ·rename_i e ht
   split at h
   ·rename_i l1 h1
    split at h
    ·rename_i hc
     cases h
     obtain ⟨hsz, hs0⟩ := hc
     rcases Go.Deep.open_slice ht hx with ⟨hc, rfl⟩ | ⟨a, len, cap, m, n', D, Pl', hc, hb, hl, hm, hmm, rfl, hx'⟩
     ·subst hc
      exact ⟨μ, hh, [.nilsl], .refl r ro, .cons rfl .nil, _, _, rfl, ⟨[], ⟨.inl ⟨rfl, .inl rfl⟩, by simp, rfl, by simp⟩, trivial, by simp, by simp⟩, rfl⟩
     ·subst hc
      have hlm : len ≤ m := by rw [hmm]; split <;> omega
      have hw : ((List.range len).map D).length * P.bytesOf e ≤ reachBytes := by
       have := hs
       unfold zgY at this
       simp only [DataW.weights, ht] at this
       have h2 := this _ (by simp only [List.mem_cons]; exact .inl rfl)
       exact Nat.le_trans (Nat.mul_le_mul_right _ (Nat.le_add_right _ _)) h2
      rw [List.length_map, List.length_range] at hw
      by_cases h0 : len = 0
      ·subst h0
       exact ⟨μ, hh, [.slz], .refl r ro, .cons ⟨a, cap, rfl, hm⟩ .nil, _, _, rfl, ⟨[], ⟨.inl ⟨rfl, .inr rfl⟩, by simp, rfl, by simp⟩, trivial, by simp, by simp⟩, rfl⟩
      ·rw [hsz] at hx'
       obtain ⟨cf, hcf⟩ := Go.Deep.choose_lt (α := List Value) (n := len) (p := fun i cs' => w.cells? base (a.add (i * l1.length)) l1.length = some cs' ∧ DataW.trod enc P w base spare held n' e cs' = some (D i, Pl' i)) fun i hi => hx' i (by omega)
       have hspot : a.spot = none := by
        obtain ⟨_, h2, h3⟩ := World.cells?_some (hcf 0 (by omega)).1
        have h4 := h3 0 hs0
        rw [List.getElem?_eq_getElem (by omega)] at h4
        unfold World.cell? at h4
        simp only [Nat.zero_mul, Addr.add, if_true] at h4
        split at h4
        ·split at h4
         ·cases h4
         ·rename_i h5; simpa using h5
        ·cases h4
       obtain ⟨blk, off, spot⟩ := a
       simp only at hspot
       subst hspot
       have hcell : ∀ i, i < len -> ∀ j, j < l1.length -> w.cell? ⟨blk, off + (i * l1.length + j), none⟩ = (cf i)[j]? := fun i hi j hj => by
        obtain ⟨_, _, h3⟩ := World.cells?_some (hcf i hi).1
        rw [<- h3 j hj, Go.Deep.add_add]
        unfold Addr.add
        split
        ·rename_i e0; simp [e0]
        ·rfl
       have hcl : ∀ i, i < len -> (cf i).length = l1.length := fun i hi => (World.cells?_some (hcf i hi).1).2.1
       obtain ⟨μ1, h1', ess, i1, e1, r1, q1⟩ := zim (zhL n e l1 h1) cf D Pl' μ hh r ro len fun i hi => ⟨(hcf i hi).2, fun k hk => by
        have := hs
        unfold zgY at this
        simp only [DataW.weights, ht] at this
        refine this k (List.mem_cons_of_mem _ (List.mem_append.2 (.inl ?_)))
        exact zdF (List.mem_map.2 ⟨i, List.mem_range.2 hi, rfl⟩) k hk⟩
       have hes : ∀ es ∈ ess, es.length = l1.length := fun es he => Dls.length (q1 es he)
       have hfl := zau hes
       have hblk : blk < w.heap.size := by
        have h1 := hcell 0 (by omega) 0 hs0
        rw [List.getElem?_eq_getElem (by rw [hcl 0 (by omega)]; exact hs0)] at h1
        unfold World.cell? at h1
        split at h1
        ·rename_i hh
         exact (Array.getElem?_eq_some_iff.1 hh).1
        ·cases h1
       obtain ⟨r', ro', x'⟩ := i1.1.addro i1.2.1 (cs := ess.flatten) (p := ⟨blk, off, 0⟩) (by
        refine ⟨by simpa using hblk, ((List.range len).map cf).flatten, VRs.ext (by have := Ext.push (μ := μ1) (i1.1.next _ (Nat.le_refl _)) (.ro ess.flatten) ⟨blk, off, 0⟩; rwa [H.pushAt_next] at this) _ _ r1, fun k c hk => ?_⟩
        simp only [zaM]
        exact zjb hs0 (at' := fun k => w.cell? ⟨blk, off + k, none⟩) hcl hcell k c hk)
       have keep : ∀ i o, h1'.get i = some o -> (h1'.push (.ro ess.flatten)).get i = some o := fun i o e => by
        rw [H.get_push, if_neg (fun e0 => by rw [e0, i1.1.next _ (Nat.le_refl _)] at e; cases e)]; exact e
       have inn : InTo W0 w μ1 h1' (upd μ1 h1'.next ⟨blk, off, 0⟩) (h1'.push (.ro ess.flatten)) := ⟨r', ro', x', keep⟩
       refine ⟨_, _, [.sl h1'.next (len * l1.length) 0 len (some cap)], i1.trans inn, .cons ?_ .nil, _, _, rfl, ⟨ess, ⟨.inr ⟨_, _, _, _, by rw [e1]⟩, hes, ?_, by rw [e1]; unfold maxLen at hm; omega⟩, ?_, by rw [e1]; exact hw, fun es he => Dls.mono keep _ _ (q1 es he)⟩, rfl⟩
       ·refine ⟨⟨blk, off, 0⟩, cap, rfl, hl, hm, fun k e => by cases e; rfl, ⟨.ro ess.flatten, by simp, by simp only [zmG, hfl, e1]; exact Nat.le_refl _, fun _ => zaM _ _ _⟩, fun e => by cases e⟩
       ·rw [zaJ, if_neg h0]
        simp only [zew, if_pos, zmG, zlJ, hfl, e1, Nat.zero_add, Nat.le_refl, List.drop_zero]
        rw [List.take_of_length_le (by rw [hfl, e1]; exact Nat.le_refl _)]
       ·simp only [zcb]; exact hl
    ·cases h
   ·cases h
  ·cases h

theorem znO {W0 : World} {μ : Nat -> Pl} {h : H} (r : Rel W0 μ h w) (ro : h.Ro) {n : Nat} {t : TypeId} {l : List Dl} (hl : zdK P n t = some l) {v : Value} {d : DataW H'} {ps : List MemPlace}
  (hd : DataW.Trod enc P w base spare held t v d ps) (hs : zgY P t d) :
  ∃ μ' h' vs, InTo W0 w μ h μ' h' ∧ VRs μ' h' vs v.cells.toList ∧ Dls.ok h'.get l vs := by
 obtain ⟨fuel, hd⟩ := hd
 exact zhL n t l hl _ _ _ hd hs μ h r ro
end
end Go.Am
