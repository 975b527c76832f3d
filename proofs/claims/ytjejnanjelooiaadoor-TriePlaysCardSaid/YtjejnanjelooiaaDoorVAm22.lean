/-
  AM, PART 22. From the reading of arguments to the abstract heap: slices of flat elements become objects to be looked at.
-/
import Derived.Test.YtjejnanjelooiaaDoorVAm19
import Derived.Deep.Slices
import Derived.OpenShut
namespace Go.Am
open Go.ChangeShapes Go.WideShapes

/-- All objects are there to be looked at alone. -/
def H.Ro (h : H) : Prop := ∀ i o, h.get i = some o → o.own = false

theorem Rel.addro {W0 : World} {μ : Nat → Pl} {h : H} {w : World} (r : Rel W0 μ h w) (ro : h.Ro) {cs : List V} {p : Pl} (hn : ORel W0 (upd μ h.next p) (h.push (.ro cs)) h.next w (.ro cs)) :
    Rel W0 (upd μ h.next p) (h.push (.ro cs)) w ∧ (h.push (.ro cs)).Ro ∧ Ext μ h (upd μ h.next p) (h.push (.ro cs)) := by
  have hk : h.get h.next = none := r.next _ (Nat.le_refl _)
  have x : Ext μ h (upd μ h.next p) (h.push (.ro cs)) := by have := Ext.push (μ := μ) hk (.ro cs) p; rwa [H.pushAt_next] at this
  have ro' : (h.push (.ro cs)).Ro := fun i o ho => by
    rw [H.get_push] at ho
    split at ho
    · cases ho; rfl
    · exact ro i o ho
  refine ⟨⟨r.glob, r.below, fun i hi => ?_, fun i o ho => ?_, fun i j oi oj _ hi _ hown => by rw [ro' i oi hi] at hown; cases hown⟩, ro', x⟩
  · simp only [H.next_push] at hi
    rw [H.get_push, if_neg (by omega)]; exact r.next i (by omega)
  · rw [H.get_push] at ho
    split at ho
    · rename_i e; cases ho; subst e; exact hn
    · rename_i e; exact (r.obj i o ho).keep x (upd_ne _ _ e) (Nat.le_refl _) rfl

theorem flat_cells {sz n : Nat} (hsz : 0 < sz) {f : Nat → List Value} {at' : Nat → Option Value} (hl : ∀ i, i < n → (f i).length = sz) (hc : ∀ i, i < n → ∀ j, j < sz → at' (i * sz + j) = (f i)[j]?) : ∀ (k : Nat) (c : Value), (((List.range n).map f).flatten)[k]? = some c → at' k = some c := by
  induction n with
  | zero => intro k c h; simp at h
  | succ n ih =>
    intro k c h
    rw [List.range_succ, List.map_append, List.flatten_append] at h
    have hlen : ((List.range n).map f).flatten.length = n * sz := by
      clear ih h hc
      induction n with
      | zero => simp
      | succ n ih2 => rw [List.range_succ, List.map_append, List.flatten_append, List.length_append, ih2 (fun i hi => hl i (by omega))]; simp [hl n (by omega), Nat.add_mul]
    rw [List.getElem?_append, hlen] at h
    split at h
    · exact ih (fun i hi => hl i (by omega)) (fun i hi => hc i (by omega)) k c h
    · rename_i hk
      simp at h
      have hj : k - n * sz < sz := by
        have := (List.getElem?_eq_some_iff.1 h).1
        rw [hl n (by omega)] at this; exact this
      have := hc n (by omega) (k - n * sz) hj
      rw [show n * sz + (k - n * sz) = k by omega] at this
      rw [this, h]

theorem vrs_flat {μ : Nat → Pl} {h : H} {n : Nat} {vf : Nat → List V} {cf : Nat → List Value} (hv : ∀ i, i < n → VRs μ h (vf i) (cf i)) : VRs μ h ((List.range n).map vf).flatten ((List.range n).map cf).flatten := by
  induction n with
  | zero => exact VRs.nil
  | succ n ih =>
    rw [List.range_succ, List.map_append, List.map_append, List.flatten_append, List.flatten_append]
    refine VRs.append (ih fun i hi => hv i (by omega)) ?_
    simpa using hv n (by omega)

section
variable {H' : Type} {enc : TypeId × Value → H'} {P : Program} {w : World} {base : Nat} {spare : Nat → Bool} {held : Bool}

/-- A SLICE OF FLAT ELEMENTS, taken into the heap. 'Q': what is known of an element's cells. -/
theorem slice_in {W0 : World} {μ : Nat → Pl} {h : H} (r : Rel W0 μ h w) (ro : h.Ro) {t e : TypeId} {fuel sz : Nat} {c : Value} {x : DataW H' × List MemPlace} (ht : P.underlying t = some (.slice e)) (hsz : P.cellsOf e = sz) (hs0 : 0 < sz)
    (hd : DataW.trod enc P w base spare held fuel t [c] = some x) (hsp : ∀ a len cap, c = .slice (some a) len cap → a.spot = none) (Q : List V → Prop)
    (leaf : ∀ (cs' : List Value) (y : DataW H' × List MemPlace) (n : Nat), DataW.trod enc P w base spare held n e cs' = some y → ∃ vs, vs.length = sz ∧ (∀ μ h, VRs μ h vs cs') ∧ Q vs) :
    ∃ (μ' : Nat → Pl) (h' : H) (v : V) (ess : List (List V)), Rel W0 μ' h' w ∧ h'.Ro ∧ Ext μ h μ' h' ∧ (∀ i o, h.get i = some o → h'.get i = some o) ∧ VR μ' h' v c ∧ Sls h'.get sz v ess ∧ (∀ es ∈ ess, Q es) ∧
      ((x.1 = .nil ∧ ess = []) ∨ ∃ el sp : List (DataW H'), x.1 = .slice el sp ∧ el.length = ess.length) := by
  rcases Go.Deep.open_slice ht hd with ⟨hc, rfl⟩ | ⟨a, len, cap, m, n, D, Pl, hc, hb, hl, hm, hmm, rfl, hx⟩
  · simp only [List.cons.injEq, and_true] at hc
    subst hc
    exact ⟨μ, h, .nilsl, [], r, ro, Ext.refl _ _, fun _ _ e => e, rfl, ⟨.inl ⟨rfl, .inl rfl⟩, by simp, rfl, by simp⟩, by simp, .inl ⟨rfl, rfl⟩⟩
  · simp only [List.cons.injEq, and_true] at hc
    subst hc
    have hspot := hsp a len cap rfl
    obtain ⟨blk, off, spot⟩ := a
    simp only at hspot
    subst hspot
    have hlm : len ≤ m := by rw [hmm]; split <;> omega
    by_cases h0 : len = 0
    · subst h0
      exact ⟨μ, h, .slz, [], r, ro, Ext.refl _ _, fun _ _ e => e, ⟨blk, off, cap, rfl, hm⟩, ⟨.inl ⟨rfl, .inr rfl⟩, by simp, rfl, by simp⟩, by simp, .inr ⟨_, _, rfl, by simp⟩⟩
    · rw [hsz] at hx
      obtain ⟨cf, hcf⟩ := Go.Deep.choose_lt (α := List Value) (n := len) (p := fun i cs' => w.cells? base ((⟨blk, off, none⟩ : Addr).add (i * sz)) sz = some cs' ∧ DataW.trod enc P w base spare held n e cs' = some (D i, Pl i)) fun i hi => hx i (by omega)
      obtain ⟨vf, hvf⟩ := Go.Deep.choose_lt (α := List V) (n := len) (p := fun i vs => vs.length = sz ∧ (∀ μ h, VRs μ h vs (cf i)) ∧ Q vs) fun i hi => leaf _ _ _ (hcf i hi).2
      have hcell : ∀ i, i < len → ∀ j, j < sz → w.cell? ⟨blk, off + (i * sz + j), none⟩ = (cf i)[j]? := fun i hi j hj => by
        obtain ⟨_, _, h3⟩ := World.cells?_some (hcf i hi).1
        rw [← h3 j hj, Go.Deep.add_add]
        unfold Addr.add
        split
        · rename_i e0; simp [e0]
        · rfl
      have hcl : ∀ i, i < len → (cf i).length = sz := fun i hi => (World.cells?_some (hcf i hi).1).2.1
      let ess := (List.range len).map vf
      have hel : ess.length = len := by simp [ess]
      have hes : ∀ es ∈ ess, es.length = sz := fun es he => by
        obtain ⟨i, hi, rfl⟩ := List.mem_map.1 he
        exact (hvf i (by simpa using hi)).1
      have hblk : blk < w.heap.size := by
        have h1 := hcell 0 (by omega) 0 hs0
        rw [List.getElem?_eq_getElem (by rw [hcl 0 (by omega)]; exact hs0)] at h1
        unfold World.cell? at h1
        split at h1
        · rename_i hh
          exact (Array.getElem?_eq_some_iff.1 hh).1
        · cases h1
      have hfl := flat_len hes
      obtain ⟨r', ro', x'⟩ := r.addro ro (cs := ess.flatten) (p := ⟨blk, off, 0⟩) (by
        refine ⟨by simpa using hblk, ((List.range len).map cf).flatten, vrs_flat fun i hi => (hvf i hi).2.1 _ _, fun k c hk => ?_⟩
        simp only [upd_same]
        exact flat_cells hs0 (at' := fun k => w.cell? ⟨blk, off + k, none⟩) hcl hcell k c hk)
      refine ⟨_, _, .sl h.next (len * sz) 0 len (some cap), ess, r', ro', x', fun i o e => ?_, ?_, ?_, ?_, .inr ⟨_, _, rfl, by simp [ess]⟩⟩
      · rw [H.get_push, if_neg (fun e0 => by rw [e0, r.next _ (Nat.le_refl _)] at e; cases e)]; exact e
      · refine ⟨⟨blk, off, 0⟩, cap, rfl, hl, hm, fun k e => by cases e; rfl, ⟨.ro ess.flatten, by simp, by simp only [len_ro, hfl, hel]; exact Nat.le_refl _, fun _ => upd_same _ _ _⟩, fun e => by cases e⟩
      · refine ⟨.inr ⟨_, _, _, _, by rw [hel]⟩, hes, ?_, ?_⟩
        · rw [elemsV_sl, if_neg h0]
          simp only [cellsAt_push, if_pos, len_ro, cells_ro, hfl, hel, Nat.zero_add, Nat.le_refl, List.drop_zero]
          rw [List.take_of_length_le (by rw [hfl, hel]; exact Nat.le_refl _)]
        · rw [hel]; unfold maxLen at hm; omega
      · intro es he
        obtain ⟨i, hi, rfl⟩ := List.mem_map.1 he
        exact (hvf i (by simpa using hi)).2.2
end
/-- A pure call, over a world. -/
theorem Pure.calls {P : Program} {f : FuncId} {args : List V} {h : H} {v : V} (c : Pure P f args h v) {W : World} {μ : Nat → Pl} (r : Rel W μ h W) {cargs : List Value} (hv : VRs μ h args cargs) :
    Calls P f cargs.toArray W fun e W' => ∃ cv, e = .returned cv ∧ VR μ h v cv ∧ Go.RowKit.Below W.heap.size W W' := by
  refine ((c (fun v' h' => v' = v ∧ h' = h) ⟨rfl, rfl⟩).2 W μ W cargs r hv).mono ?_
  rintro e W' ⟨v', cv, h', μ', he, ⟨rfl, rfl⟩, r', hv', x⟩
  refine ⟨cv, he, ?_, r'.below.toBelow⟩
  exact hv'.ext (fun i o ho => by
    obtain ⟨o', ho', a, b, c⟩ := x i o ho
    exact ⟨o, ho, rfl, Nat.le_refl _, fun _ => by rw [ho] at ho'; cases ho'; exact (c rfl).symm⟩)
end Go.Am
