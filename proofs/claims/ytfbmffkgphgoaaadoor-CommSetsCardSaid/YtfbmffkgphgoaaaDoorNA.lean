/-
  CR0, RP, NM1, NM2, NM3, NS1, in one text.
-/
import Derived.Test.YtfbmffkgphgoaaaDoorC1
import Derived.Test.YtfbmffkgphgoaaaDoorAm37
import Derived.Test.YtfbmffkgphgoaaaDoorSA
/-
  Lists of numbers and of large ones, cell by cell (written by program, wip/comm/CR3.py).
-/
namespace Go.Am
open Go.Proofs

set_option maxRecDepth 100000
theorem compact_snoc {α : Type} [DecidableEq α] : ∀ (l : List α) (y x : α), compactL (l ++ [y, x]) = if y = x then compactL (l ++ [y]) else compactL (l ++ [y]) ++ [x]
  | [], y, x => by
    simp only [List.nil_append, compactL]
    split
    · rename_i e; subst e; rfl
    · rfl
  | [a], y, x => by
    simp only [List.cons_append, List.nil_append, compactL]
    by_cases h1 : a = y <;> by_cases h2 : y = x <;> simp [h1, h2]
  | a :: b :: l, y, x => by
    have ih := compact_snoc (b :: l) y x
    simp only [List.cons_append] at ih ⊢
    rw [compactL, compactL]
    split
    · exact ih
    · rw [ih]
      split <;> simp
theorem compact_at {α : Type} [DecidableEq α] (l : List α) {m : Nat} (h1 : 0 < m) (h2 : m < l.length) : compactL (l.take (m + 1)) = if l[m - 1] = l[m] then compactL (l.take m) else compactL (l.take m) ++ [l[m]] := by
  obtain ⟨k, rfl⟩ : ∃ k, m = k + 1 := ⟨m - 1, by omega⟩
  have e1 : l.take (k + 1) = l.take k ++ [l[k]] := by rw [List.take_add_one, List.getElem?_eq_getElem (by omega)]; rfl
  have e3 : l.take (k + 1 + 1) = l.take (k + 1) ++ l[k + 1]?.toList := List.take_add_one
  have e2 : l.take (k + 1 + 1) = l.take k ++ [l[k], l[k + 1]] := by
    rw [e3, e1, List.getElem?_eq_getElem h2, List.append_assoc]
    rfl
  rw [e2, compact_snoc, e1]
  rfl
theorem compact_len {α : Type} [DecidableEq α] : ∀ l : List α, (compactL l).length ≤ l.length
  | [] => Nat.le_refl _
  | [_] => Nat.le_refl _
  | a :: b :: l => by
    have ih := compact_len (b :: l)
    unfold compactL
    split
    · simp only [List.length_cons] at ih ⊢; omega
    · simp only [List.length_cons] at ih ⊢; omega

section
variable {α : Type} {sz : Nat} {c : α → List V} (hc : ∀ x, (c x).length = sz)
include hc
theorem map_lenc (l : List α) : ∀ e ∈ l.map c, e.length = sz := fun e he => by obtain ⟨n, _, rfl⟩ := List.mem_map.1 he; exact hc n
theorem flatc_set (l : List α) (t : Nat) (x : α) (ht : t < l.length) : putCells (l.map c).flatten (t * sz) (c x) = ((l.set t x).map c).flatten := by
  have hs := map_lenc hc l
  have e1 := flat_take hs t
  have e2 := flat_drop hs (t + 1)
  rw [List.set_eq_take_append_cons_drop, if_pos ht, List.map_append, List.map_cons, List.flatten_append, List.flatten_cons, List.map_take, List.map_drop, e1, e2]
  unfold putCells
  rw [show t * sz + (c x).length = (t + 1) * sz by rw [hc, Nat.add_mul]; omega, List.append_assoc]
theorem slsc_part {g : Nat → Option O} {j : Nat} {l : List α} (hg : g j = some (.grow sz (l.map c).flatten)) (hb : l.length < 9223372036854775808) (k : Nat) (hk : k ≤ l.length) : Sls g sz (.sl j (l.length * sz) (k * sz) (l.length - k) none) ((l.drop k).map c) := by
  have hfl := flat_len (map_lenc hc l)
  simp only [List.length_map] at hfl
  refine ⟨.inr ⟨j, l.length * sz, k * sz, none, by simp⟩, map_lenc hc _, ?_, by simp; omega⟩
  rw [elemsV_sl]
  split
  · rename_i h0; rw [List.drop_of_length_le (by omega)]; rfl
  · rename_i h0
    have hm : k * sz + (l.length - k) * sz = l.length * sz := by rw [← Nat.add_mul]; congr 1; omega
    rw [cellsAt_of hg (by simp [hfl])]
    simp only [cells_grow]
    rw [if_pos (by omega), List.length_map, List.length_drop, List.map_drop, flat_drop (map_lenc hc l), List.take_of_length_le (by rw [List.length_drop, hfl, Nat.sub_mul]; omega)]
theorem slsc_all {g : Nat → Option O} {j : Nat} {l : List α} (hg : g j = some (.grow sz (l.map c).flatten)) (hb : l.length < 9223372036854775808) : Sls g sz (.sl j (l.length * sz) 0 l.length none) (l.map c) := by
  have := slsc_part hc hg hb 0 (Nat.zero_le _)
  simpa using this
end
theorem cP_len (x : Nat) : (cP x).length = 1 := rfl
theorem cX_len (x : Nat) : (cX x).length = 1 := rfl
theorem cL_len (x : Lg) : (cL x).length = 3 := rfl
theorem cut_of {α : Type} {g : Nat → Option O} {sz : Nat} {v : V} {f : α → List V} {l : List α} (n : Nat) (hs : Sls g sz v (l.map f)) (hc : CapOk v) : ∃ v' k, ((if (n : Int) < (l.length : Int) then (n : Int) else (l.length : Int)) = ((k : Nat) : Int)) ∧ sliceSlV sz none (some (.int .i64 (k : Int))) none v = some v' ∧ Sls g sz v' ((l.take n).map f) ∧ CapOk v' := by
  obtain ⟨k, hk⟩ : ∃ k, k = min l.length n := ⟨_, rfl⟩
  have hk2 : (if (n : Int) < (l.length : Int) then (n : Int) else (l.length : Int)) = (k : Int) := by rw [hk]; split <;> omega
  obtain ⟨v', e1, s1, c1⟩ := hs.take hc (k := k) (by simp; omega) .i64
  have hlt : (l.map f).take k = (l.take n).map f := by
    rw [← List.map_take]; congr 1
    rw [hk]
    by_cases h60 : l.length ≤ n
    · rw [Nat.min_eq_left h60, List.take_of_length_le (Nat.le_refl _), List.take_of_length_le h60]
    · rw [Nat.min_eq_right (by omega)]
  rw [hlt] at s1
  exact ⟨v', k, hk2, e1, s1, c1⟩
end Go.Am

/-
  The reference's: one put at its place (Has, put).
-/
namespace Go.Am
open Go.Proofs

set_option maxRecDepth 100000
theorem has_ct {h : H} {v : V} {l : List Nat} {c : Nat} (hs : Sls h.get 1 v (l.map cP)) : Pure Tryd.prog 28 [v, .int .u32 (c : Nat)] h (.bool (decide (c ∈ l))) := by
  refine pure_to Tryd.func28 S.Href05_Has_code S.Href05_Has_enter rfl (Nat.le_of_ble_eq_true rfl) fun wf => ?_; simp only [S.Href05_Has]
  have hlen := hs.len
  have hb := hs.bound
  simp at hlen hb
  simp
  refine loop_up (fun i t h' => (t 0 = v ∧ t 1 = .int .u32 (c : Nat) ∧ t 5 = .int .i64 (i : Nat)) ∧ h' = h ∧ c ∉ l.take i) l.length ⟨by simp, rfl, by simp⟩ ?_
  rintro i t h' hi ⟨⟨t0, t1, t5⟩, rfl, hn⟩ K hK
  by_cases hlt : i < l.length
  · obtain ⟨p, qq, o, cs, e1, e2, e3⟩ := hs.at1 (f := fun x : Nat => V.int .u32 x) hlt
    have hw := wrap_succ hlt hb
    by_cases hx : l[i] = c
    · have b1 : ((l[i] : Int) == (c : Int)) = true := beq_iff_eq.2 (by omega)
      have hm : c ∈ l := by rw [← hx]; exact List.getElem_mem hlt
      simp [t0, t1, t5, hlen, hlt, e1, e2, e3, b1, hm]
    · have b1 : ((l[i] : Int) == (c : Int)) = false := beq_eq_false_iff_ne.2 (by omega)
      simp [t0, t1, t5, hlen, hlt, e1, e2, e3, b1, hw]
      refine hK _ _ hlt ⟨by simp [t0, t1], rfl, ?_⟩
      rw [List.take_add_one, List.getElem?_eq_getElem hlt, List.mem_append]
      simp [hn, Ne.symm hx]
  · have : i = l.length := by omega
    subst this
    rw [List.take_length] at hn
    simp [t0, t5, hlen, hn]
/-- Ahead of the first one that is greater. -/
def insF (c : Nat) : List Nat → List Nat
  | [] => [c]
  | x :: l => if c < x then c :: x :: l else x :: insF c l
theorem insF_all {c : Nat} : ∀ {l : List Nat}, (∀ x ∈ l, ¬ c < x) → insF c l = l ++ [c]
  | [], _ => rfl
  | x :: l, h => by rw [insF, if_neg (h x (by simp)), insF_all (fun y hy => h y (by simp [hy]))]; rfl
theorem insF_first {c x : Nat} (hx : c < x) : ∀ {l : List Nat}, (∀ x ∈ l, ¬ c < x) → insF c (l ++ [x]) = l ++ [c] ++ [x]
  | [], _ => by simp [insF, hx]
  | y :: l, h => by rw [List.cons_append, insF, if_neg (h y (by simp)), insF_first hx (fun y hy => h y (by simp [hy]))]; rfl
theorem insF_more {c x : Nat} : ∀ {l : List Nat}, (∃ x ∈ l, c < x) → insF c (l ++ [x]) = insF c l ++ [x]
  | [], h => by simp at h
  | y :: l, h => by
    rw [List.cons_append, insF, insF]
    by_cases hy : c < y
    · rw [if_pos hy, if_pos hy]; rfl
    · rw [if_neg hy, if_neg hy, insF_more (by
        obtain ⟨z, hz, hcz⟩ := h
        rcases List.mem_cons.1 hz with rfl | hz
        · exact absurd hcz hy
        · exact ⟨z, hz, hcz⟩)]
      rfl
theorem insF_mem {c x : Nat} : ∀ {l : List Nat}, x ∈ insF c l ↔ x = c ∨ x ∈ l
  | [] => by simp [insF]
  | y :: l => by
    rw [insF]
    split
    · simp
    · rw [List.mem_cons, insF_mem, List.mem_cons]
      constructor
      · rintro (h | h | h)
        · exact .inr (.inl h)
        · exact .inl h
        · exact .inr (.inr h)
      · rintro (h | h | h)
        · exact .inr (.inl h)
        · exact .inl h
        · exact .inr (.inr h)
theorem oN_lt (a b : Nat) : oN a b < 0 ↔ a < b := by unfold oN cmpI; split <;> (try split) <;> omega
theorem insF_rise {c : Nat} : ∀ {l : List Nat}, Rise oN l → c ∉ l → Rise oN (insF c l)
  | [], _, _ => List.pairwise_singleton _ _
  | y :: l, h, hc => by
    have g := List.pairwise_cons.1 h
    rw [insF]
    split
    · rename_i hy
      refine List.pairwise_cons.2 ⟨fun x hx => ?_, h⟩
      rcases List.mem_cons.1 hx with rfl | hx
      · exact (oN_lt _ _).2 hy
      · have := (oN_lt _ _).1 (g.1 x hx)
        exact (oN_lt _ _).2 (by omega)
    · rename_i hy
      refine List.pairwise_cons.2 ⟨fun x hx => ?_, insF_rise g.2 (fun h => hc (by simp [h]))⟩
      rw [insF_mem] at hx
      rcases hx with rfl | hx
      · exact (oN_lt _ _).2 (by have : ¬ x = y := fun e => hc (by simp [e]); omega)
      · exact g.1 x hx
theorem insF_put {c : Nat} {l : List Nat} (h : Rise oN l) (hc : c ∉ l) : insF c l = putL oN l c :=
  rise_ext ordr_n (insF_rise h hc) (putL_rise ordr_n oN_eq h c) fun x => by rw [insF_mem, putL_mem]
theorem putL_in {c : Nat} {l : List Nat} (h : Rise oN l) (hc : c ∈ l) : putL oN l c = l :=
  rise_ext ordr_n (putL_rise ordr_n oN_eq h c) h fun x => by
    rw [putL_mem]
    constructor
    · rintro (rfl | h)
      · exact hc
      · exact h
    · exact .inr
theorem rputP_ct {h : H} {v : V} {l : List Nat} {c : Nat} (hs : Sls h.get 1 v (l.map cP)) (hr : Rise oN l) (hl : l.length ≤ 1000000) {Q : V → H → Prop}
    (q : ∀ v' h', Ge h h' → h'.WF → Sls h'.get 1 v' ((putL oN l c).map cP) → Q v' h') : Acalls Tryd.prog 57 [v, .int .u32 (c : Nat)] h Q := by
  refine acalls_to Tryd.func57 S.Href05_put_code S.Href05_put_enter (Nat.le_of_ble_eq_true rfl) fun wf => ?_; simp only [S.Href05_put]
  simp
  refine has_ct hs _ ?_
  by_cases hc : c ∈ l
  · simp [hc]
    exact q _ _ (Ge.refl _) wf (by rw [putL_in hr hc]; exact hs)
  · have hlen := hs.lenG wf (n := l.length) (by simp)
    simp [hc]
    refine loop_up (fun i t h' => ∃ v2 done es, (t 0 = v ∧ t 1 = .int .u32 (c : Nat) ∧ t 5 = v2 ∧ t 6 = .bool done ∧ t 7 = .int .i64 (i : Nat)) ∧ Ge h h' ∧ h'.WF ∧ Gl h' h.next 1 v2 (es.map cP) ∧ ((done = false ∧ es = l.take i ∧ ∀ x ∈ l.take i, ¬ c < x) ∨ (done = true ∧ es = insF c (l.take i) ∧ ∃ x ∈ l.take i, c < x)) ∧ es.length ≤ i + 1) l.length ⟨.nilsl, false, [], by simp, Ge.refl _, wf, Gl.nil _ _ _, .inl ⟨rfl, by simp, by simp⟩, by simp⟩ ?_
    rintro i t h' hi ⟨v2, done, es, ⟨t0, t1, t5, t6, t7⟩, gb, wb, gl, hes, hel⟩ K hK
    have hlen' := hlen h' gb
    -- one more at the end of the list
    have more : ∀ {g : H} {w : V} {fs : List Nat} (y : Nat), Ge h g → g.WF → Gl g h.next 1 w (fs.map cP) → fs.length ≤ 2000000 → ∃ w' d, appendV (g.push (.row [V.int .u32 (y : Int)])).get (g.next + 1) 1 4 w (.sl g.next 1 0 1 (some 1)) = some (w', d) ∧ Gl ((g.push (.row [V.int .u32 (y : Int)])).app d) h.next 1 w' ((fs ++ [y]).map cP) ∧ Ge h ((g.push (.row [V.int .u32 (y : Int)])).app d) ∧ ((g.push (.row [V.int .u32 (y : Int)])).app d).WF := by
      intro g w fs y gg wg glg hf
      have gl3 : Gl (g.push (.row (cP y))) h.next 1 w (fs.map cP) := glg.keep (by simp) fun x hx => by
        have := (glg.lo x hx).2
        rw [H.get_push, if_neg (by omega)]
      obtain ⟨w', d, ea, gl4, hn4, hk4, hw4⟩ := gl3.append (bytes := 4) (x := .sl g.next 1 0 1 (some 1)) (e := cP y) (by have := gg.1; simp; omega) (map_lenc cP_len _) (cP_len y) (by simp [elemsV_sl, cP]) rfl (by decide) (by simp; omega) (by simp; omega)
      refine ⟨w', d, ea, by rw [List.map_append]; exact gl4, ⟨Nat.le_trans gg.1 (Nat.le_trans (by simp) hn4), fun x hx => ?_⟩, hw4 (wg.push _)⟩
      have := hk4 x (fun hx2 => by have := (glg.lo _ hx2).1; omega) (by have := gg.1; simp; omega)
      refine this.trans ?_
      rw [H.get_push, if_neg (by have := gg.1; omega)]
      exact gg.2 x hx
    by_cases hlt : i < l.length
    · obtain ⟨p, qq, o, cs, e1, pl, e2, e3⟩ := hs.at1G (f := fun x : Nat => V.int .u32 x) wf hlt
      have hw := wrap_succ hlt (by omega)
      have e2' := e2 h' gb
      have htk : l.take (i + 1) = l.take i ++ [l[i]] := by rw [List.take_add_one, List.getElem?_eq_getElem hlt]; rfl
      simp [t0, t7, hlen', hlt]
      rcases hes with ⟨rfl, rfl, ha⟩ | ⟨rfl, rfl, ha⟩
      · by_cases hx : c < l[i]
        · obtain ⟨w1, d1, x1, gl1, g1, k1⟩ := more c gb wb gl (by omega)
          obtain ⟨h2, hh2⟩ : ∃ h2, h2 = (h'.push (.row [V.int .u32 (c : Int)])).app d1 := ⟨_, rfl⟩
          rw [← hh2] at gl1 g1 k1
          obtain ⟨w2, d2, x2, gl2, g2, k2⟩ := more l[i] g1 k1 gl1 (by simp; omega)
          have e2'' := e2 h2 g1
          simp [t0, t1, t5, t6, t7, e1, e2', e3, hx, x1, ← hh2, e2'', x2, hw]
          refine hK _ _ hlt ⟨w2, true, _, by simp [t0, t1], g2, k2, gl2, .inr ⟨rfl, ?_, l[i], ?_, hx⟩, by simp; omega⟩
          · rw [htk, insF_first hx ha]
          · rw [htk]; exact List.mem_append_right _ (by simp)
        · obtain ⟨w2, d2, x2, gl2, g2, k2⟩ := more l[i] gb wb gl (by omega)
          simp [t0, t1, t5, t6, t7, e1, e2', e3, hx, x2, hw]
          refine hK _ _ hlt ⟨w2, false, _, by simp [t0, t1, t6], g2, k2, gl2, .inl ⟨rfl, by rw [htk], ?_⟩, by simp; omega⟩
          intro x hx2
          rw [htk] at hx2
          rcases List.mem_append.1 hx2 with h | h
          · exact ha x h
          · rw [List.mem_singleton] at h; subst h; exact hx
      · obtain ⟨w2, d2, x2, gl2, g2, k2⟩ := more l[i] gb wb gl (by omega)
        simp [t0, t1, t5, t6, t7, e1, e2', e3, x2, hw]
        refine hK _ _ hlt ⟨w2, true, _, by simp [t0, t1, t6], g2, k2, gl2, .inr ⟨rfl, by rw [htk, insF_more ha], ?_⟩, by simp; omega⟩
        obtain ⟨x, hx, hcx⟩ := ha
        exact ⟨x, by rw [htk]; exact List.mem_append_left _ hx, hcx⟩
    · have hie : i = l.length := by omega
      subst hie
      rw [List.take_length] at hes
      simp [t0, t7, hlen']
      rcases hes with ⟨rfl, rfl, ha⟩ | ⟨rfl, rfl, ha⟩
      · obtain ⟨w2, d2, x2, gl2, g2, k2⟩ := more c gb wb gl (by omega)
        simp [t1, t5, t6, x2]
        refine q _ _ g2 k2 ?_
        rw [← insF_put hr hc, insF_all ha]
        exact gl2.sls (map_lenc cP_len _) (by simp; omega)
      · simp [t5, t6]
        refine q _ _ gb wb ?_
        rw [← insF_put hr hc]
        exact gl.sls (map_lenc cP_len _) (by simp; omega)
end Go.Am

/-
  Norm at numbers: a map of the keys, the keys that were not yet there appended, sorted.
-/
namespace Go.Am
open Go.Proofs

set_option maxRecDepth 100000
/-- A map's entries at these keys. -/
def keysM (ks : List Nat) : List (V × V) := ks.map fun k => (.int .u32 (k : Nat), .agg [])
theorem find_no {c : Nat} : ∀ (ks : List Nat) (i : Nat), c ∉ ks → findM (.int .u32) (.int .u32 (c : Nat)) (keysM ks) i = some none
  | [], _, _ => rfl
  | k :: ks, i, h => by
    have hk : ((c : Int) == (k : Int)) = false := beq_eq_false_iff_ne.2 (by
      have : c ≠ k := fun e => h (by simp [e])
      omega)
    show findM (.int .u32) (.int .u32 (c : Nat)) ((.int .u32 (k : Nat), .agg []) :: keysM ks) i = _
    simp only [findM, keyOk, keyEq, decide_true, if_true, hk]
    exact find_no ks (i + 1) fun e => h (by simp [e])
theorem find_yes {c : Nat} : ∀ (ks : List Nat) (i : Nat), c ∈ ks → ∃ j, findM (.int .u32) (.int .u32 (c : Nat)) (keysM ks) i = some (some (j, .agg []))
  | [], _, h => by simp at h
  | k :: ks, i, h => by
    show ∃ j, findM (.int .u32) (.int .u32 (c : Nat)) ((.int .u32 (k : Nat), .agg []) :: keysM ks) i = _
    by_cases hk : ((c : Int) == (k : Int)) = true
    · simp only [findM, keyOk, keyEq, decide_true, if_true, hk]
      exact ⟨_, rfl⟩
    · have hk' : ((c : Int) == (k : Int)) = false := by simpa using hk
      simp only [findM, keyOk, keyEq, decide_true, if_true, hk']
      refine find_yes ks (i + 1) ?_
      rcases List.mem_cons.1 h with rfl | h
      · exact absurd (beq_iff_eq.2 rfl) hk
      · exact h
theorem look_no {g : Nat → Option O} {m c : Nat} {ks : List Nat} (hm : g m = some (.mapo (keysM ks))) (hc : c ∉ ks) : lookupV g (.int .u32) (.agg []) true (.map m) (.int .u32 (c : Nat)) = some (.tup [.agg [], .bool false]) := by
  simp [lookupV, entriesV, keyOk, hm, find_no ks 0 hc]
theorem look_yes {g : Nat → Option O} {m c : Nat} {ks : List Nat} (hm : g m = some (.mapo (keysM ks))) (hc : c ∈ ks) : lookupV g (.int .u32) (.agg []) true (.map m) (.int .u32 (c : Nat)) = some (.tup [.agg [], .bool true]) := by
  obtain ⟨j, e⟩ := find_yes ks 0 hc
  simp [lookupV, entriesV, keyOk, hm, e]
theorem mset_no {g : Nat → Option O} {m c : Nat} {ks : List Nat} (hm : g m = some (.mapo (keysM ks))) (hc : c ∉ ks) : mapSetV g (.int .u32) (.map m) (.int .u32 (c : Nat)) (.agg []) = some (.set m (.mapo (keysM (ks ++ [c])))) := by
  have e : keysM (ks ++ [c]) = keysM ks ++ [(.int .u32 (c : Nat), .agg [])] := by simp [keysM]
  simp [mapSetV, keyOk, hm, find_no ks 0 hc, e]
theorem cput_nil {g : Nat → Option O} {n : Nat} (h : g n = some (.row [])) : storeV g 0 (.ptr n 0 0) (.agg []) = some (.set n (.row [])) := by
  simp [V.solid, V.cells, h, O.len, O.put, O.cells, putCells]
/-- One more at the end of a growing list of numbers. -/
theorem gl_more {g : H} {lo : Nat} {w : V} {fs : List Nat} (y : Nat) (hlo : lo ≤ g.next) (gl : Gl g lo 1 w (fs.map cP)) (hf : fs.length ≤ 2000000) :
    ∃ w' d, appendV (g.push (.row [V.int .u32 (y : Int)])).get (g.next + 1) 1 4 w (.sl g.next 1 0 1 (some 1)) = some (w', d) ∧ Gl ((g.push (.row [V.int .u32 (y : Int)])).app d) lo 1 w' ((fs ++ [y]).map cP) ∧ g.next ≤ ((g.push (.row [V.int .u32 (y : Int)])).app d).next ∧ (∀ i, i ∉ w.ids → i < g.next → ((g.push (.row [V.int .u32 (y : Int)])).app d).get i = g.get i) ∧ (g.WF → ((g.push (.row [V.int .u32 (y : Int)])).app d).WF) := by
  have gl3 : Gl (g.push (.row (cP y))) lo 1 w (fs.map cP) := gl.keep (by simp) fun x hx => by
    have := (gl.lo x hx).2
    rw [H.get_push, if_neg (by omega)]
  obtain ⟨w', d, ea, gl4, hn4, hk4, hw4⟩ := gl3.append (bytes := 4) (x := .sl g.next 1 0 1 (some 1)) (e := cP y) (by simp; omega) (map_lenc cP_len _) (cP_len y) (by simp [elemsV_sl, cP]) rfl (by decide) (by simp; omega) (by simp; omega)
  refine ⟨w', d, ea, by rw [List.map_append]; exact gl4, Nat.le_trans (by simp) hn4, fun i hi hl => ?_, fun w => hw4 (w.push _)⟩
  refine (hk4 i hi (by simp; omega)).trans ?_
  rw [H.get_push, if_neg (by omega)]
theorem lt_oN (a b : Nat) : oN a b < 0 ↔ a < b := by unfold oN cmpI; split <;> (try split) <;> omega
theorem puts_mem (x : Nat) : ∀ (l : List Nat) (m : List Nat), x ∈ l.foldl (putL oN) m ↔ x ∈ m ∨ x ∈ l
  | [], m => by simp
  | a :: l, m => by
    rw [List.foldl_cons, puts_mem x l, putL_mem, List.mem_cons]
    constructor
    · rintro ((h | h) | h)
      · exact .inr (.inl h)
      · exact .inl h
      · exact .inr (.inr h)
    · rintro (h | h | h)
      · exact .inl (.inr h)
      · exact .inl (.inl h)
      · exact .inr h
theorem puts_rise : ∀ (l : List Nat) (m : List Nat), Rise oN m → Rise oN (l.foldl (putL oN) m)
  | [], _, h => h
  | a :: l, m, h => by rw [List.foldl_cons]; exact puts_rise l _ (putL_rise ordr_n oN_eq h a)
theorem mem_puts (x : Nat) (l : List Nat) : x ∈ putsL oN l ↔ x ∈ l := by unfold putsL; rw [puts_mem]; simp
theorem rise_puts (l : List Nat) : Rise oN (putsL oN l) := puts_rise l [] List.Pairwise.nil
/-- What is sorted and has no doubles is the list put one by one. -/
theorem sorted_puts {l ks l' : List Nat} (hn : ks.Nodup) (hm : ∀ x, x ∈ ks ↔ x ∈ l) (hp : l'.Perm ks) (hs : l'.Pairwise fun x y => ¬ y < x) : l' = putsL oN l := by
  have hn' : l'.Nodup := hp.symm.nodup hn
  refine rise_ext ordr_n (List.Pairwise.imp₂ (fun a b h1 h2 => (lt_oN a b).2 (by omega)) hs hn') (rise_puts l) fun x => by rw [mem_puts, hp.mem_iff, hm]
theorem norm_ct {h : H} {v : V} {l : List Nat} (hs : Sls h.get 1 v (l.map cP)) (hl : l.length ≤ 1000) {Q : V → H → Prop}
    (q : ∀ v' h', Ge h h' → h'.WF → Gl h' h.next 1 v' ((putsL oN l).map cP) → Q v' h') : Acalls Tryd.prog 25 [v] h Q := by
  refine acalls_to Tryd.func25 S.comm_Norm_code S.comm_Norm_enter (Nat.le_of_ble_eq_true rfl) fun wf => ?_; simp only [S.comm_Norm]
  have hlen := hs.lenG wf (n := l.length) (by simp)
  have g0 := hlen (h.push (.mapo [])) ((Ge.refl _).push _)
  simp [g0]
  refine loop_up (fun i t h' => ∃ v2 ks, (t 3 = .map h.next ∧ t 4 = v2 ∧ t 10 = v ∧ t 11 = .int .i64 (l.length : Nat) ∧ t 12 = .int .i64 (i : Nat)) ∧ Ge h h' ∧ h'.WF ∧ h'.get h.next = some (.mapo (keysM ks)) ∧ h.next < h'.next ∧ Gl h' (h.next + 1) 1 v2 (ks.map cP) ∧ ks.Nodup ∧ (∀ x, x ∈ ks ↔ x ∈ l.take i) ∧ ks.length ≤ i) l.length ⟨.nilsl, [], by simp, (Ge.refl _).push _, wf.push _, by simp [keysM], by simp, Gl.nil _ _ _, by simp, by simp, by simp⟩ ?_
  rintro i t h' hi ⟨v2, ks, ⟨t3, t4, t10, t11, t12⟩, gb, wb, hmap, hnx, gl, hnd, hmem, hkl⟩ K hK
  by_cases hlt : i < l.length
  · obtain ⟨p, qq, o, cs, e1, pl, e2, e3⟩ := hs.at1G (f := fun x : Nat => V.int .u32 x) wf hlt
    have hw := wrap_succ hlt (by omega)
    have e2' := e2 h' gb
    have htk : l.take (i + 1) = l.take i ++ [l[i]] := by rw [List.take_add_one, List.getElem?_eq_getElem hlt]; rfl
    -- the cell of no width
    obtain ⟨h1, hh1⟩ : ∃ h1, h1 = (h'.push (.row [])).set h'.next (.row []) := ⟨_, rfl⟩
    have n1 : h1.next = h'.next + 1 := by rw [hh1]; simp
    have k1 : ∀ x, x < h'.next → h1.get x = h'.get x := fun x hx => by
      rw [hh1, H.get_set, if_neg (by omega), H.get_push, if_neg (by omega)]
    have g1 : Ge h h1 := ⟨by rw [n1]; have := gb.1; omega, fun x hx => by rw [k1 x (by have := gb.1; omega)]; exact gb.2 x hx⟩
    have w1 : h1.WF := by rw [hh1]; exact (wb.push _).set (by simp) _
    have m1 : h1.get h.next = some (.mapo (keysM ks)) := by rw [k1 _ hnx]; exact hmap
    have gl1 : Gl h1 (h.next + 1) 1 v2 (ks.map cP) := gl.keep (by omega) fun x hx => k1 x (gl.lo x hx).2
    have st0 : storeV (h'.push (.row [])).get 0 (.ptr h'.next 0 0) (.agg []) = some (.set h'.next (.row [])) := cput_nil (by simp)
    by_cases hc : l[i] ∈ ks
    · have lk := look_yes hmap hc
      simp [-storeV_ptr, t3, t10, t11, t12, hlt, e1, e2', e3, lk, st0, ← hh1, hw]
      refine hK _ _ hlt ⟨v2, ks, by simp [t3, t4, t10, t11], g1, w1, m1, by omega, gl1, hnd, fun x => ?_, by omega⟩
      rw [htk, List.mem_append, List.mem_singleton, hmem]
      constructor
      · exact .inl
      · rintro (h | rfl)
        · exact h
        · exact (hmem _).1 hc
    · have lk := look_no hmap hc
      have ms := mset_no m1 hc
      obtain ⟨h2, hh2⟩ : ∃ h2, h2 = h1.set h.next (.mapo (keysM (ks ++ [l[i]]))) := ⟨_, rfl⟩
      have n2 : h2.next = h1.next := by rw [hh2]; rfl
      have k2 : ∀ x, x ≠ h.next → h2.get x = h1.get x := fun x hx => by rw [hh2, H.get_set, if_neg hx]
      have g2 : Ge h h2 := ⟨by rw [n2]; exact g1.1, fun x hx => by rw [k2 x (by omega)]; exact g1.2 x hx⟩
      have w2 : h2.WF := by rw [hh2]; exact w1.set (by omega) _
      have gl2 : Gl h2 (h.next + 1) 1 v2 (ks.map cP) := gl1.keep (by omega) fun x hx => k2 x (by have := (gl.lo x hx).1; omega)
      have m2 : h2.get h.next = some (.mapo (keysM (ks ++ [l[i]]))) := by rw [hh2]; simp
      obtain ⟨w3, d3, x3, gl3, n3, k3, f3⟩ := gl_more l[i] (by omega) gl2 (by omega)
      simp [-storeV_ptr, t3, t4, t10, t11, t12, hlt, e1, e2', e3, lk, st0, ← hh1, hw, ms, ← hh2, x3]
      refine hK _ _ hlt ⟨w3, _, by simp [t3, t10, t11], ⟨Nat.le_trans g2.1 n3, fun x hx => ?_⟩, f3 w2, ?_, by omega, gl3, ?_, fun x => ?_, by simp; omega⟩
      · rw [k3 x (fun hx2 => by have := (gl2.lo _ hx2).1; omega) (by have := g2.1; omega)]; exact g2.2 x hx
      · rw [k3 _ (fun hx2 => by have := (gl2.lo _ hx2).1; omega) (by omega)]; exact m2
      · exact List.nodup_append.2 ⟨hnd, by simp, fun a ha b hb e => by rw [List.mem_singleton] at hb; subst hb; subst e; exact hc ha⟩
      · rw [htk, List.mem_append, List.mem_append, hmem]
  · have hie : i = l.length := by omega
    subst hie
    rw [List.take_length] at hmem
    simp [t4, t11, t12]
    rcases gl with ⟨hk0, rfl⟩ | ⟨hne, j, j1, j2, rfl, hj⟩
    · refine sortU_nil _ ?_
      simp [t4]
      have hk0 : ks = [] := by simpa using hk0
      have e0 : putsL oN l = [] := by
        have := sorted_puts hnd hmem (List.Perm.refl ks) (by rw [hk0]; exact List.Pairwise.nil)
        rw [← this, hk0]
      refine q _ _ gb wb ?_
      rw [e0]; exact Gl.nil _ _ _
    · have hfl := flat_len (map_lenc cP_len ks)
      simp only [List.length_map, Nat.mul_one] at hfl
      rw [hfl, List.length_map] at t4 ⊢
      refine sortU_ct hj (by omega) fun l' hp hso => ?_
      simp [t4]
      have e0 := sorted_puts hnd hmem hp hso
      have hl' : l'.length = ks.length := hp.length_eq
      have hfl' := flat_len (map_lenc cP_len l')
      simp only [List.length_map, Nat.mul_one] at hfl'
      refine q _ _ ⟨by simpa using gb.1, fun x hx => ?_⟩ (wb.set j2 _) ?_
      · rw [H.get_set, if_neg (by omega)]; exact gb.2 x hx
      · rw [← e0]
        refine .inr ⟨?_, j, by omega, by simpa using j2, ?_, by simp⟩
        · intro e; apply hne; have : l' = [] := by simpa using e
          rw [this] at hl'; have : ks = [] := List.eq_nil_of_length_eq_zero (by simpa using hl'.symm); simp [this]
        · rw [hfl', List.length_map, hl']
end Go.Am

/-
  Has (slices.Contains, Index), slices.Clone at numbers, With.
-/
namespace Go.Am
open Go.Proofs

set_option maxRecDepth 100000
theorem append_room0 {g : Nat → Option O} {next sz bytes k m : Nat} {xs : List V} {x : V} (hx : elemsV g sz x = some (m, xs)) (hm : m ≠ 0) (h1 : xs.all V.one = true) (hsz : sz ≠ 0) (hb : m * bytes ≤ 140737488355328) (hb2 : m ≤ 9223372036854775807) :
    appendV g next sz bytes (.sl k 0 0 0 (some 0)) x = some (.sl next (m * sz) 0 m none, .push (.grow sz xs)) := by
  have e0 : elemsV g sz (.sl k 0 0 0 (some 0)) = some (0, []) := by rw [elemsV_sl, if_pos rfl]
  unfold appendV
  rw [hx]
  simp only
  rw [if_neg hm, if_neg (by simp [h1, hsz])]
  simp only [Nat.zero_add]
  rw [if_neg (by omega), e0]
  simp only [Nat.zero_add, List.nil_append]
  rw [if_pos ⟨hb, hb2⟩]
theorem append_none {g : Nat → Option O} {next sz bytes k : Nat} {x : V} (hx : elemsV g sz x = some (0, [])) : appendV g next sz bytes (.sl k 0 0 0 (some 0)) x = some (.sl k 0 0 0 (some 0), .keep) := by
  unfold appendV
  rw [hx]
  simp
theorem map_one1 (l : List Nat) : ∀ e ∈ l.map cP, e.all V.one = true := fun e he => by obtain ⟨n, _, rfl⟩ := List.mem_map.1 he; rfl
theorem clone1_ct {h : H} {v : V} {l : List Nat} (hs : Sls h.get 1 v (l.map cP)) (hl : l.length ≤ 1000000) {Q : V → H → Prop}
    (q : ∀ v' h', Ge h h' → h'.WF → ((l = [] ∧ (v' = .nilsl ∨ ∃ k, h.next ≤ k ∧ v' = .sl k 0 0 0 (some 0))) ∨ (l ≠ [] ∧ Gl h' h.next 1 v' (l.map cP))) → Q v' h') : Acalls Tryd.prog 61 [v] h Q := by
  refine acalls_to Tryd.func61 S.slices_Clone_uint32_uint32_code S.slices_Clone_uint32_uint32_enter (Nat.le_of_ble_eq_true rfl) fun wf => ?_; simp only [S.slices_Clone_uint32_uint32]
  obtain ⟨h1, hh1⟩ : ∃ h1, h1 = h.push (.row []) := ⟨_, rfl⟩
  have g1 : Ge h h1 := by rw [hh1]; exact (Ge.refl _).push _
  have w1 : h1.WF := by rw [hh1]; exact wf.push _
  have n1 : h1.next = h.next + 1 := by rw [hh1]; simp
  have s1 := (hs.ge wf g1).read
  have hlm : (l.map cP).length = l.length := by simp
  rw [hlm] at s1
  by_cases hv : v = .nilsl
  · subst hv
    have hl0 : l = [] := by
      rcases hs.kind with ⟨e, _⟩ | ⟨_, _, _, _, e⟩
      · simpa using e
      · cases e
    have en : eqV .sl .nilsl .nilsl = some true := rfl
    simp [en]
    exact q _ _ (Ge.refl _) wf (.inl ⟨hl0, .inl rfl⟩)
  · have en : eqV .sl v .nilsl = some false := by
      rcases hs.kind with ⟨_, rfl | rfl⟩ | ⟨_, _, _, _, rfl⟩
      · exact absurd rfl hv
      · rfl
      · rfl
    simp [en]
    rw [← hh1]
    by_cases h0 : l.length = 0
    · have hl0 : l = [] := List.eq_nil_of_length_eq_zero h0
      subst hl0
      have a0 := append_none (next := h1.next) (bytes := 4) (k := h.next) s1
      rw [n1] at a0
      simp [n1, a0]
      exact q _ _ g1 w1 (.inl ⟨rfl, .inr ⟨_, Nat.le_refl _, rfl⟩⟩)
    · have hne : l ≠ [] := fun e => h0 (by rw [e]; rfl)
      have ones : (l.map cP).flatten.all V.one = true := by rw [List.all_flatten]; exact List.all_eq_true.2 (map_one1 l)
      have a0 := append_room0 (next := h1.next) (bytes := 4) (k := h.next) s1 h0 ones (by decide) (by omega) (by omega)
      rw [n1] at a0
      simp [n1, a0]
      have hfl := flat_len (map_lenc cP_len l)
      rw [hlm] at hfl
      refine q _ _ (g1.push _) (w1.push _) (.inr ⟨hne, .inr ⟨by simpa using hne, h1.next, by omega, by simp, ?_, by simp⟩⟩)
      rw [hfl, hlm, n1, Nat.mul_one]
/-- Has: by slices.Contains, by slices.Index. -/
theorem index1_ct {h : H} {v : V} {l : List Nat} {c : Nat} (hs : Sls h.get 1 v (l.map cP)) {Q : V → H → Prop} (q : ∀ k : Int, decide (0 ≤ k) = decide (c ∈ l) → Q (.int .i64 k) h) : Acalls Tryd.prog 75 [v, .int .u32 (c : Nat)] h Q := by
  refine acalls_to Tryd.func75 S.slices_Index_uint32_uint32_code S.slices_Index_uint32_uint32_enter (Nat.le_of_ble_eq_true rfl) fun wf => ?_; simp only [S.slices_Index_uint32_uint32]
  have hlen := hs.len
  have hb := hs.bound
  simp at hlen hb
  simp [hlen]
  refine loop_up (fun i t h' => (t 0 = v ∧ t 1 = .int .u32 (c : Nat) ∧ t 6 = v ∧ t 7 = .int .i64 (l.length : Nat) ∧ t 8 = .int .i64 (i : Nat)) ∧ h' = h ∧ c ∉ l.take i) l.length ⟨by simp, rfl, by simp⟩ ?_
  rintro i t h' hi ⟨⟨t0, t1, t6, t7, t8⟩, rfl, hn⟩ K hK
  by_cases hlt : i < l.length
  · obtain ⟨p, qq, o, cs, e1, e2, e3⟩ := hs.at1 (f := fun x : Nat => V.int .u32 x) hlt
    have hw := wrap_succ hlt hb
    by_cases hx : c = l[i]
    · have b1 : ((c : Int) == (l[i] : Int)) = true := beq_iff_eq.2 (by omega)
      have hm : c ∈ l := by rw [hx]; exact List.getElem_mem hlt
      simp [t0, t1, t6, t7, t8, hlt, e1, e2, e3, b1]
      exact q _ (by simp [hm])
    · have b1 : ((c : Int) == (l[i] : Int)) = false := beq_eq_false_iff_ne.2 (by omega)
      simp [t0, t1, t6, t7, t8, hlt, e1, e2, e3, b1, hw]
      refine hK _ _ hlt ⟨by simp [t0, t1, t6, t7], rfl, ?_⟩
      rw [List.take_add_one, List.getElem?_eq_getElem hlt, List.mem_append]
      simp [hn, hx]
  · have : i = l.length := by omega
    subst this
    rw [List.take_length] at hn
    simp [t7, t8]
    exact q _ (by simp [hn])
theorem phas_ct {h : H} {v : V} {l : List Nat} {c : Nat} (hs : Sls h.get 1 v (l.map cP)) : Pure Tryd.prog 27 [v, .int .u32 (c : Nat)] h (.bool (decide (c ∈ l))) := by
  refine pure_to Tryd.func27 S.comm_Has_code S.comm_Has_enter rfl (Nat.le_of_ble_eq_true rfl) fun wf => ?_; simp only [S.comm_Has]
  simp
  refine (show Pure Tryd.prog 58 [v, .int .u32 (c : Nat)] h (.bool (decide (c ∈ l))) from ?_) _ ?_
  · refine pure_to Tryd.func58 S.slices_Contains_uint32_uint32_code S.slices_Contains_uint32_uint32_enter rfl (Nat.le_of_ble_eq_true rfl) fun wf => ?_; simp only [S.slices_Contains_uint32_uint32]
    simp
    refine index1_ct hs fun k hk => ?_
    simp [← hk]
  · simp
theorem foldl_put_le : ∀ (l m : List Nat), (l.foldl (putL oN) m).length ≤ m.length + l.length
  | [], m => by simp
  | a :: l, m => by
    rw [List.foldl_cons]
    have h1 := foldl_put_le l (putL oN m a)
    have h2 := putL_len (c := oN) m a
    simp only [List.length_cons]; omega
theorem puts_len_le (l : List Nat) : (putsL oN l).length ≤ l.length := by
  have := foldl_put_le l []
  simpa [putsL] using this
theorem with_ct {h : H} {v : V} {l : List Nat} {c : Nat} (hs : Sls h.get 1 v (l.map cP)) (hl : l.length ≤ 500) {Q : V → H → Prop}
    (q1 : 64 < (putsL oN (l ++ [c])).length → ∀ h', Ge h h' → h'.WF → Q (.tup [.nilsl, .int .i64 7]) h')
    (q2 : (putsL oN (l ++ [c])).length ≤ 64 → ∀ v' h', Ge h h' → h'.WF → Gl h' h.next 1 v' ((putsL oN (l ++ [c])).map cP) → Q (.tup [v', .int .i64 0]) h') : Acalls Tryd.prog 31 [v, .int .u32 (c : Nat)] h Q := by
  refine acalls_to Tryd.func31 S.comm_With_code S.comm_With_enter (Nat.le_of_ble_eq_true rfl) fun wf => ?_; simp only [S.comm_With]
  simp
  refine clone1_ct hs (by omega) fun v1 h1 g1 w1 hv1 => ?_
  have one : ∃ w d, appendV (h1.push (.row [V.int .u32 (c : Int)])).get (h1.next + 1) 1 4 v1 (.sl h1.next 1 0 1 (some 1)) = some (w, d) ∧ Gl ((h1.push (.row [V.int .u32 (c : Int)])).app d) h.next 1 w ((l ++ [c]).map cP) ∧ Ge h ((h1.push (.row [V.int .u32 (c : Int)])).app d) ∧ ((h1.push (.row [V.int .u32 (c : Int)])).app d).WF := by
    rcases hv1 with ⟨rfl, hv⟩ | ⟨hne, gl⟩
    · have hx : elemsV (h1.push (.row [V.int .u32 (c : Int)])).get 1 (.sl h1.next 1 0 1 (some 1)) = some (1, cP c) := by simp [elemsV_sl, cP]
      have key : appendV (h1.push (.row [V.int .u32 (c : Int)])).get (h1.next + 1) 1 4 v1 (.sl h1.next 1 0 1 (some 1)) = some (.sl (h1.next + 1) (1 * 1) 0 1 none, .push (.grow 1 (cP c))) := by
        rcases hv with rfl | ⟨k, _, rfl⟩
        · exact appendV_nil hx (by omega) rfl (by decide) (by omega) (by omega)
        · exact append_room0 hx (by omega) rfl (by decide) (by omega) (by omega)
      refine ⟨_, _, key, .inr ⟨by simp, h1.next + 1, by have := g1.1; omega, by simp, by simp [cP], ?_⟩, ?_, ?_⟩
      · simp [cP]
      · exact (g1.push _).push _
      · exact (w1.push _).push _
    · obtain ⟨w, d, ea, gl2, n2, k2, f2⟩ := gl_more c g1.1 gl (by omega)
      refine ⟨w, d, ea, gl2, ⟨Nat.le_trans g1.1 n2, fun x hx => ?_⟩, f2 w1⟩
      rw [k2 x (fun hx2 => by have := (gl.lo _ hx2).1; omega) (by have := g1.1; omega)]; exact g1.2 x hx
  obtain ⟨w, d, ea, gl, g2, w2⟩ := one
  obtain ⟨h2, hh2⟩ : ∃ h2, h2 = (h1.push (.row [V.int .u32 (c : Int)])).app d := ⟨_, rfl⟩
  rw [← hh2] at gl g2 w2
  simp [ea, ← hh2]
  refine norm_ct (gl.sls (map_lenc cP_len _) (by simp; omega)) (by simp; omega) fun v3 h3 g3 w3 gl3 => ?_
  have hl3 := gl3.sls (map_lenc cP_len _) (by
    have := puts_len_le (l ++ [c])
    simp at this ⊢; omega)
  have hlen := hl3.len
  simp at hlen
  simp [hlen]
  have gl4 : Gl h3 h.next 1 v3 ((putsL oN (l ++ [c])).map cP) := by
    rcases gl3 with ⟨a, b⟩ | ⟨a, j, b, c, d⟩
    · exact .inl ⟨a, b⟩
    · exact .inr ⟨a, j, Nat.le_trans g2.1 b, c, d⟩
  by_cases h64 : (putsL oN (l ++ [c])).length ≤ 64
  · have : ¬ (64 : Int) < ((putsL oN (l ++ [c])).length : Int) := by omega
    simp [this]
    exact q2 h64 _ _ (g2.trans g3) w3 gl4
  · have : (64 : Int) < ((putsL oN (l ++ [c])).length : Int) := by omega
    simp [this]
    exact q1 (by omega) _ (g2.trans g3) w3
end Go.Am

/-
  Without: slices.DeleteFunc at numbers, by Has of the others.
-/
namespace Go.Am
open Go.Proofs

set_option maxRecDepth 100000
/-- What is not among them. -/
def mns (l m : List Nat) : List Nat := l.filter fun x => decide (x ∉ m)
theorem mns_snoc_in {l m : List Nat} {x : Nat} (h : x ∈ m) : mns (l ++ [x]) m = mns l m := by simp [mns, h]
theorem mns_snoc_out {l m : List Nat} {x : Nat} (h : x ∉ m) : mns (l ++ [x]) m = mns l m ++ [x] := by simp [mns, h]
theorem mns_all {m : List Nat} {l : List Nat} (h : ∀ x ∈ l, x ∉ m) : mns l m = l := List.filter_eq_self.2 fun x hx => by simp [h x hx]
theorem mns_len (l m : List Nat) : (mns l m).length ≤ l.length := List.length_filter_le _ _
theorem clo_ct {h : H} {b c : Nat} {vm : V} {m : List Nat} (hb : h.get b = some (.row [vm])) (hm : Sls h.get 1 vm (m.map cP)) : Pure Tryd.prog 60 [.int .u32 (c : Nat), .ptr b 1 0] h (.bool (decide (c ∈ m))) := by
  refine pure_to Tryd.func60 S.comm_Without_1_code S.comm_Without_1_enter rfl (Nat.le_of_ble_eq_true rfl) fun wf => ?_; simp only [S.comm_Without_1]
  have hca : cellsAt h.get b 1 = some [vm] := (cellsAt_of (n := 1) hb rfl).trans rfl
  simp [hca]
  refine phas_ct hm _ ?_
  simp
theorem ifn_ct {h : H} {v : V} {l : List Nat} {b : Nat} {vm : V} {m : List Nat} (hs : Sls h.get 1 v (l.map cP)) (hb : h.get b = some (.row [vm])) (hm : Sls h.get 1 vm (m.map cP)) {Q : V → H → Prop}
    (q1 : (∀ x ∈ l, x ∉ m) → Q (.int .i64 (-1)) h) (q2 : ∀ i (hi : i < l.length), l[i] ∈ m → (∀ x ∈ l.take i, x ∉ m) → Q (.int .i64 (i : Nat)) h) : Acalls Tryd.prog 76 [v, .func (.func 60) [] [.ptr b 1 0]] h Q := by
  refine acalls_to Tryd.func76 S.slices_IndexFunc_uint32_uint32_code S.slices_IndexFunc_uint32_uint32_enter (Nat.le_of_ble_eq_true rfl) fun wf => ?_; simp only [S.slices_IndexFunc_uint32_uint32]
  have hlen := hs.len
  have hbd := hs.bound
  simp at hlen hbd
  simp [hlen]
  refine loop_up (fun i t h' => (t 0 = v ∧ t 1 = .func (.func 60) [] [.ptr b 1 0] ∧ t 6 = v ∧ t 7 = .int .i64 (l.length : Nat) ∧ t 8 = .int .i64 (i : Nat)) ∧ h' = h ∧ ∀ x ∈ l.take i, x ∉ m) l.length ⟨by simp, rfl, by simp⟩ ?_
  rintro i t h' hi ⟨⟨t0, t1, t6, t7, t8⟩, rfl, hn⟩ K hK
  by_cases hlt : i < l.length
  · obtain ⟨p, qq, o, cs, e1, e2, e3⟩ := hs.at1 (f := fun x : Nat => V.int .u32 x) hlt
    have hw := wrap_succ hlt hbd
    simp [t0, t1, t6, t7, t8, hlt, e1, e2, e3]
    refine clo_ct hb hm _ ?_
    by_cases hx : l[i] ∈ m
    · simp [hx]
      exact q2 i hlt hx hn
    · simp [hx, t8, hw]
      refine hK _ _ hlt ⟨by simp [t0, t1, t6, t7], rfl, ?_⟩
      intro x hx2
      rw [List.take_add_one, List.getElem?_eq_getElem hlt, List.mem_append] at hx2
      rcases hx2 with h | h
      · exact hn x h
      · have : x = l[i] := by simpa using h
        rw [this]; exact hx
  · have : i = l.length := by omega
    subst this
    rw [List.take_length] at hn
    simp [t7, t8]
    exact q1 hn
theorem del_ct {h0 h : H} {j b : Nat} {l m : List Nat} {vm : V} (hw0 : h0.WF) (hg0 : Ge h0 h) (hm0 : Sls h0.get 1 vm (m.map cP)) (hj0 : h0.next ≤ j) (hbj : b ≠ j) (hb : h.get b = some (.row [vm])) (hg : h.get j = some (.grow 1 (l.map cP).flatten)) (hl : l.length ≤ 100000) (hne : l ≠ []) {Q : V → H → Prop}
    (q : ∀ v' h', (∀ i, i ≠ j → h'.get i = h.get i) → h'.next = h.next → h'.WF → Sls h'.get 1 v' ((mns l m).map cP) → CapOk v' → Q v' h') : Acalls Tryd.prog 59 [.sl j l.length 0 l.length none, .func (.func 60) [] [.ptr b 1 0]] h Q := by
  refine acalls_to Tryd.func59 S.slices_DeleteFunc_uint32_uint32_code S.slices_DeleteFunc_uint32_uint32_enter (Nat.le_of_ble_eq_true rfl) fun wf => ?_; simp only [S.slices_DeleteFunc_uint32_uint32]
  have hlt := wf.lt hg
  have s0 := slsc_all cP_len hg (by omega)
  simp only [Nat.mul_one] at s0
  have hpos : 0 < l.length := List.length_pos_iff.2 hne
  simp
  refine ifn_ct s0 hb (hm0.ge hw0 hg0) (fun hn => ?_) fun i0 hi0 hx0 hn => ?_
  · simp
    exact q _ _ (fun _ _ => rfl) rfl wf (by rw [mns_all hn]; exact s0) trivial
  have hi1 : ((i0 : Int) == -1) = false := beq_eq_false_iff_ne.2 (by omega)
  have wi : IntKind.i64.wrap ((i0 : Int) + 1) = ((i0 + 1 : Nat) : Int) := by rw [wrap_i64_id (by omega) (by omega)]; omega
  have hi2 : ¬ (i0 : Int) = -1 := by omega
  simp [hi1, hi2, wi]
  have F0 : mns (l.take (i0 + 1)) m = l.take i0 := by
    rw [List.take_add_one, List.getElem?_eq_getElem hi0]
    exact (mns_snoc_in hx0).trans (mns_all hn)
  refine loop_cutS (id := 0) (fun t h2 => ∃ cur, cur = mns l m ++ l.drop (mns l m).length ∧ (t 0 = .sl j l.length 0 l.length none ∧ t 5 = .int .i64 ((mns l m).length : Nat)) ∧ (mns l m).length < l.length ∧ h2 = h.set j (.grow 1 (cur.map cP).flatten)) (fun R hR => ?_) ?_
  · refine loop_up (fun r t h2 => ∃ cur tt, tt = (mns (l.take (i0 + 1 + r)) m).length ∧ cur = mns (l.take (i0 + 1 + r)) m ++ l.drop tt ∧ tt < i0 + 1 + r ∧ i0 + 1 + r ≤ l.length ∧ (t 0 = .sl j l.length 0 l.length none ∧ t 1 = .func (.func 60) [] [.ptr b 1 0] ∧ t 5 = .int .i64 (tt : Nat) ∧ t 6 = .int .i64 ((i0 + 1 + r : Nat) : Int)) ∧ h2 = h.set j (.grow 1 (cur.map cP).flatten)) (l.length - i0 - 1) ?_ ?_
    · refine ⟨l, i0, by rw [Nat.add_zero, F0, List.length_take]; omega, by rw [Nat.add_zero, F0, List.take_append_drop], by omega, by omega, by simp, ?_⟩
      exact (H.ext' rfl fun i => by rw [H.get_set]; split <;> simp_all)
    · rintro r t h2 hr ⟨cur, tt, htt, hcur, htm, hml, ⟨u0, u1, u5, u6⟩, rfl⟩ K hK
      obtain ⟨k, hk⟩ : ∃ k, k = i0 + 1 + r := ⟨_, rfl⟩
      rw [← hk] at htt hcur htm hml u6
      have hcl : cur.length = l.length := by rw [hcur, List.length_append, List.length_drop, ← htt]; omega
      obtain ⟨h2, hh2⟩ : ∃ h2, h2 = h.set j (.grow 1 (cur.map cP).flatten) := ⟨_, rfl⟩
      have hgj : h2.get j = some (.grow 1 (cur.map cP).flatten) := by rw [hh2]; simp
      have hb2 : h2.get b = some (.row [vm]) := by rw [hh2, H.get_set, if_neg hbj]; exact hb
      have g2 : Ge h0 h2 := ⟨by rw [hh2]; simpa using hg0.1, fun x hx => by rw [hh2, H.get_set, if_neg (by omega)]; exact hg0.2 x hx⟩
      have hm2 := hm0.ge hw0 g2
      rw [← hh2]
      by_cases hlt3 : k < l.length
      · have cA : ∀ x (hx1 : x < cur.length), tt ≤ x → cur[x]'hx1 = l[x]'(by omega) := fun x hx1 hx2 => by
          subst hcur
          rw [List.getElem_append_right (by omega), List.getElem_drop]
          congr 1; omega
        have sp := slsc_all cP_len hgj (by omega)
        simp only [Nat.mul_one, hcl] at sp
        obtain ⟨p, qq, o, cs, e1, e2, e3⟩ := sp.at1 (f := fun x : Nat => V.int .u32 x) (k := k) (by omega)
        rw [cA k (by omega) (by omega)] at e3
        have htk : l.take (i0 + 1 + (r + 1)) = l.take k ++ [l[k]] := by rw [show i0 + 1 + (r + 1) = k + 1 by omega, List.take_add_one, List.getElem?_eq_getElem hlt3]; rfl
        have w1 : IntKind.i64.wrap ((k : Int) + 1) = ((i0 + 1 + (r + 1) : Nat) : Int) := by rw [wrap_i64_id (by omega) (by omega)]; omega
        have w3 : IntKind.i64.wrap ((tt : Int) + 1) = ((tt + 1 : Nat) : Int) := by rw [wrap_i64_id (by omega) (by omega)]; omega
        have htl : tt < l.length := by omega
        obtain ⟨k9, hk9⟩ : ∃ k9, k9 = i0 + 1 + (r + 1) := ⟨_, rfl⟩
        rw [← hk9] at w1
        simp [u0, u1, u6, hlt3, e1, e2, e3]
        refine clo_ct hb2 hm2 _ ?_
        by_cases hx : l[k] ∈ m
        · simp [hx, u6, w1]
          refine hK _ _ (by omega) ⟨cur, tt, ?_, ?_, by omega, by omega, ?_, by rw [hh2]⟩
          · rw [htk, mns_snoc_in hx, htt]
          · rw [htk, mns_snoc_in hx, hcur]
          · simp [u0, u1, u5, hk9]
        · have hcs : (V.int .u32 (l[k] : Nat)).cells = cP l[k] := rfl
          have hso : (V.int .u32 (l[k] : Nat)).solid = true := rfl
          have hnl : (cP l[k]).length = 1 := rfl
          have hfl : (cur.map cP).flatten.length = l.length := by rw [flat_len (map_lenc cP_len cur)]; simp [hcl]
          have hput : O.put (.grow 1 (cur.map cP).flatten) tt (cP l[k]) = some (.grow 1 ((cur.set tt l[k]).map cP).flatten) := by
            simp only [O.put, hfl, hnl]
            rw [if_pos (by omega), ← flatc_set cP_len cur tt _ (by omega), Nat.mul_one]
          have hst : storeV h2.get 1 (.ptr j l.length tt) (.int .u32 (l[k] : Nat)) = some (.set j (.grow 1 ((cur.set tt l[k]).map cP).flatten)) := by
            rw [storeV_ptr, hcs, hso, hnl, hgj]
            simp only [Bool.true_and, beq_self_eq_true, if_true, Option.bind_some]
            rw [if_pos (by simp only [O.len, O.cells]; exact hfl), hput]; rfl
          simp [-storeV_ptr, hx, u0, u1, u5, u6, htl, hst, w3, w1]
          have hset : mns (l.take (i0 + 1 + (r + 1))) m = mns (l.take k) m ++ [l[k]] := by rw [htk, mns_snoc_out hx]
          refine hK _ _ (by omega) ⟨cur.set tt l[k], tt + 1, ?_, ?_, by omega, by omega, ?_, by rw [hh2, H.set_set, List.map_set]⟩
          · rw [hset, List.length_append, ← htt]; rfl
          · rw [hset, hcur, List.set_append_right _ _ (by omega), ← htt, Nat.sub_self, List.drop_eq_getElem_cons htl, List.set_cons_zero, List.append_assoc]; rfl
          · simp [u0, u1, hk9]
      · have hml2 : k = l.length := by omega
        have hle : l.take k = l := List.take_of_length_le (by omega)
        rw [hle] at htt hcur
        simp [u0, u6, hlt3]
        refine hR _ _ ⟨cur, by rw [hcur, htt], by simp [u0, u5, htt], by rw [htt] at htm; omega, hh2⟩
  · rintro t h2 ⟨cur, hcur, ⟨u0, u3⟩, htl, rfl⟩
    obtain ⟨tt, htt⟩ : ∃ tt, tt = (mns l m).length := ⟨_, rfl⟩
    rw [← htt] at hcur u3 htl
    have hcl : cur.length = l.length := by rw [hcur, List.length_append, List.length_drop, ← htt]; omega
    have hfl : (cur.map cP).flatten.length = l.length := by rw [flat_len (map_lenc cP_len cur)]; simp [hcl]
    have s1 : sliceSlV 1 (some (.int .i64 (tt : Int))) none none (.sl j l.length 0 l.length none) = some (.sl j l.length tt (l.length - tt) none) := by
      simp only [sliceSlV, boundV_none, boundV_nat (show tt ≤ l.length by omega)]
      rw [if_pos htl, Nat.zero_add, Nat.mul_one]
    have s2 : sliceSlV 1 none (some (.int .i64 (tt : Int))) none (.sl j l.length 0 l.length none) = some (.sl j l.length 0 tt none) := by
      simp only [sliceSlV, boundV_none, boundV_nat (show tt ≤ l.length by omega)]
      rw [if_pos hpos]; simp
    obtain ⟨h2, hh2⟩ : ∃ h2, h2 = h.set j (.grow 1 (cur.map cP).flatten) := ⟨_, rfl⟩
    have hgj : h2.get j = some (.grow 1 (cur.map cP).flatten) := by rw [hh2]; simp
    rw [← hh2]
    obtain ⟨zs, hzs⟩ : ∃ zs, zs = repCells (l.length - tt) [V.int .u32 0] := ⟨_, rfl⟩
    have hzl : zs.length = l.length - tt := by rw [hzs]; unfold repCells; simp
    obtain ⟨pc, hpc⟩ : ∃ pc, pc = putCells (cur.map cP).flatten tt zs := ⟨_, rfl⟩
    have hclr : clearSlV h2.get [V.int .u32 0] (.sl j l.length tt (l.length - tt) none) = some (.set j (.grow 1 pc)) := by
      rw [hpc]
      unfold clearSlV
      simp only
      rw [if_neg (by omega), hgj]
      simp only [len_grow]
      rw [if_pos hfl, put_grow, ← hzs, if_pos (by rw [hzl, hfl]; omega)]; rfl
    simp [u0, u3, s1, s2, hclr]
    have w2 : h2.WF := by rw [hh2]; exact wf.set hlt _
    have hpl : pc.length = l.length := by rw [hpc, put_len _ _ _ (by rw [hzl, hfl]; omega), hfl]
    have hct : cur.take tt = mns l m := by rw [hcur, List.take_append_of_le_length (by omega), List.take_of_length_le (by omega)]
    have hpt : pc.take tt = ((mns l m).map cP).flatten := by
      rw [hpc]
      unfold putCells
      rw [List.append_assoc, List.take_append_of_le_length (by rw [List.length_take, hfl]; omega), List.take_take, Nat.min_self, ← Nat.mul_one tt, ← flat_take (map_lenc cP_len cur), ← List.map_take, hct]
    refine q _ _ (fun i hi => by rw [H.get_set, if_neg hi, hh2, H.get_set, if_neg hi]) (by rw [hh2]; simp) (w2.set (by rw [hh2]; simpa using hlt) _) ⟨.inr ⟨j, l.length, 0, none, by simp [htt]⟩, map_lenc cP_len _, ?_, by simp; omega⟩ trivial
    rw [elemsV_sl]
    split
    · rename_i h0
      have : mns l m = [] := List.eq_nil_of_length_eq_zero (by omega)
      rw [this]; rfl
    · rw [cellsAt_of (by rw [H.get_set, if_pos rfl]) (by rw [len_grow]; exact hpl)]
      simp only [cells_grow, Nat.zero_add, List.drop_zero]
      rw [if_pos (by rw [hpl]; omega), Nat.mul_one, hpt]
      simp [htt]
theorem without_ct {h : H} {v vm : V} {l m : List Nat} (hs : Sls h.get 1 v (l.map cP)) (hl : l.length ≤ 1000) (hm : Sls h.get 1 vm (m.map cP)) {Q : V → H → Prop}
    (q : ∀ v' h', Ge h h' → h'.WF → Sls h'.get 1 v' ((mns (putsL oN l) m).map cP) → Q v' h') : Acalls Tryd.prog 29 [v, vm] h Q := by
  refine acalls_to Tryd.func29 S.comm_Without_code S.comm_Without_enter (Nat.le_of_ble_eq_true rfl) fun wf => ?_; simp only [S.comm_Without]
  have ob : ∀ n, boxV n vm = some (.ptr n 1 0, .push (.row [vm])) := fun n => by
    have c1 := cells_of_one hm.one
    have s1 : vm.solid = true := by rcases hm.kind with ⟨_, rfl | rfl⟩ | ⟨_, _, _, _, rfl⟩ <;> rfl
    simp [boxV, c1, s1]
  simp [ob]
  obtain ⟨h1, hh1⟩ : ∃ h1, h1 = h.push (.row [vm]) := ⟨_, rfl⟩
  have g1 : Ge h h1 := by rw [hh1]; exact (Ge.refl _).push _
  have w1 : h1.WF := by rw [hh1]; exact wf.push _
  have n1 : h1.next = h.next + 1 := by rw [hh1]; simp
  have b1 : h1.get h.next = some (.row [vm]) := by rw [hh1]; simp
  rw [← hh1]
  refine norm_ct (hs.ge wf g1) hl fun v2 h2 g2 w2 gl => ?_
  have b2 : h2.get h.next = some (.row [vm]) := by rw [g2.2 _ (by omega)]; exact b1
  have hpl := puts_len_le l
  simp
  rcases gl with ⟨he, rfl⟩ | ⟨hne, j, j1, j2, rfl, hj⟩
  · have he : putsL oN l = [] := by simpa using he
    have sn : Sls h2.get 1 .nilsl (([] : List Nat).map cP) := (Gl.nil h2 0 1).sls (by simp) (by simp)
    refine (show Acalls Tryd.prog 59 [.nilsl, .func (.func 60) [] [.ptr h.next 1 0]] h2 (fun v3 h3 => v3 = .nilsl ∧ h3 = h2) from ?_).mono ?_
    · refine acalls_to Tryd.func59 S.slices_DeleteFunc_uint32_uint32_code S.slices_DeleteFunc_uint32_uint32_enter (Nat.le_of_ble_eq_true rfl) fun wf => ?_; simp only [S.slices_DeleteFunc_uint32_uint32]
      simp
      refine ifn_ct sn b2 (hm.ge ‹_› (g1.trans g2)) (fun hn => ?_) fun i0 hi0 => ?_
      · simp
      · simp at hi0
    · rintro v3 h3 ⟨rfl, rfl⟩
      simp
      exact q _ _ (g1.trans g2) w2 (by rw [he]; exact sn)
  · have hfl := flat_len (map_lenc cP_len (putsL oN l))
    simp only [List.length_map, Nat.mul_one] at hfl
    rw [hfl, List.length_map]
    refine del_ct wf (g1.trans g2) hm (by omega) (by omega) b2 hj (by omega) (by simpa using hne) fun v3 h3 k3 n3 w3 s3 _ => ?_
    simp
    refine q _ _ ⟨by rw [n3]; exact (g1.trans g2).1, fun x hx => ?_⟩ w3 s3
    rw [k3 x (by omega)]; exact (g1.trans g2).2 x hx
end Go.Am

/-
  CommSets: lists cut with two more behind; kept; the reference's Norm, With, Without.
-/
namespace Go.Am
open Go.Proofs

set_option maxRecDepth 100000
/-- A list of its own with 77 and 78 behind it. -/
def Cut (g : Nat → Option O) (v : V) (l : List Nat) : Prop := ∃ j, v = .sl j (l.length + 2) 0 l.length none ∧ g j = some (.grow 1 ((l ++ [77, 78]).map cP).flatten)
theorem flat1 (l : List Nat) : (l.map cP).flatten.length = l.length := by rw [flat_len (map_lenc cP_len l)]; simp
theorem Cut.sls {g : Nat → Option O} {v : V} {l : List Nat} (c : Cut g v l) (hb : l.length ≤ 1000) : Sls g 1 v (l.map cP) := by
  obtain ⟨j, rfl, hj⟩ := c
  refine ⟨.inr ⟨j, l.length + 2, 0, none, by simp⟩, map_lenc cP_len l, ?_, by simp; omega⟩
  have hfl := flat1 (l ++ [77, 78])
  rw [List.length_append] at hfl
  rw [elemsV_sl]
  split
  · rename_i h0
    have : l = [] := List.eq_nil_of_length_eq_zero h0
    subst this; rfl
  · rw [cellsAt_of hj (by rw [len_grow]; exact hfl)]
    simp only [cells_grow, Nat.zero_add, List.drop_zero, Nat.mul_one]
    have hfl' : ((l ++ [77, 78]).map cP).flatten.length = l.length + 2 := hfl
    rw [hfl', if_pos (by omega), List.map_append, List.flatten_append, List.take_append_of_le_length (by rw [flat1]; exact Nat.le_refl _), List.take_of_length_le (by rw [flat1]; exact Nat.le_refl _), List.length_map]
theorem Cut.ge {h h' : H} {v : V} {l : List Nat} (c : Cut h.get v l) (w : h.WF) (g : Ge h h') : Cut h'.get v l := by
  obtain ⟨j, e, hj⟩ := c
  exact ⟨j, e, by rw [g.2 j (w.lt hj)]; exact hj⟩
theorem lcut_ct {h : H} {v : V} {l : List Nat} (hs : Sls h.get 1 v (l.map cP)) (hc : CapOk v) {Q : V → H → Prop}
    (q : ∀ v' h', Ge h h' → h'.WF → Cut h'.get v' (l.take 90) → Q v' h') : Acalls Tryd.prog 23 [v] h Q := by
  refine acalls_to Tryd.func23 S.Hlaw05_cut_code S.Hlaw05_cut_enter (Nat.le_of_ble_eq_true rfl) fun wf => ?_; simp only [S.Hlaw05_cut]
  obtain ⟨v1, k, mp, ep, sp, _⟩ := cut_of 90 hs hc
  have hlen := hs.len
  simp at hlen
  have hk : k = (l.take 90).length := by
    rw [List.length_take]
    have := mp
    split at this <;> omega
  obtain ⟨m, hm⟩ : ∃ m, m = l.take 90 := ⟨_, rfl⟩
  rw [← hm] at sp hk q
  have hml : m.length ≤ 90 := by rw [hm, List.length_take]; omega
  simp only [Int.cast_ofNat_Int] at mp
  obtain ⟨w1, d1, a1, gl1, n1, k1, f1, i1⟩ := (Gl.nil h h.next 1).appends (bytes := 4) (Nat.le_refl _) (by simp) sp (map_one1 m) (by decide) (by simp; omega) (by simp; omega)
  obtain ⟨h1, hh1⟩ : ∃ h1, h1 = h.app d1 := ⟨_, rfl⟩
  rw [← hh1] at gl1 n1 k1 f1
  have wf1 := f1 wf
  have g1 : Ge h h1 := ⟨n1, fun x hx => k1 x (by simp [V.ids]) hx⟩
  -- two more
  obtain ⟨h2, hh2⟩ : ∃ h2, h2 = h1.push (.row [V.int .u32 77, .int .u32 78]) := ⟨_, rfl⟩
  have n2 : h2.next = h1.next + 1 := by rw [hh2]; simp
  have wf2 : h2.WF := by rw [hh2]; exact wf1.push _
  have g2 : Ge h h2 := by rw [hh2]; exact g1.push _
  have gl2 : Gl h2 h.next 1 w1 (([] : List (List V)) ++ m.map cP) := gl1.keep (by omega) fun x hx => by
    rw [hh2, H.get_push, if_neg (by have := (gl1.lo x hx).2; omega)]
  have s2 : Sls h2.get 1 (.sl h1.next 2 0 2 (some 2)) ([77, 78].map cP) := ⟨.inr ⟨_, _, _, _, rfl⟩, by simp [cP], by rw [hh2]; simp [elemsV_sl, cP], by simp⟩
  obtain ⟨w3, d3, a3, gl3, n3, k3, f3, i3⟩ := gl2.appends (bytes := 4) (x := .sl h1.next 2 0 2 (some 2)) (by have := g2.1; omega) (by simpa using map_lenc cP_len m) s2 (map_one1 _) (by decide) (by simp; omega) (by simp; omega)
  obtain ⟨h3, hh3⟩ : ∃ h3, h3 = h2.app d3 := ⟨_, rfl⟩
  rw [← hh3] at gl3 n3 k3 f3
  have wf3 := f3 wf2
  have g3 : Ge h h3 := ⟨Nat.le_trans g2.1 n3, fun x hx => by
    rw [k3 x (fun hx2 => by have := (gl2.lo x hx2).1; omega) (by have := g2.1; omega)]; exact g2.2 x hx⟩
  rcases gl3 with ⟨e, _⟩ | ⟨_, j, j1, j2, rfl, hj⟩
  · simp at e
  have el : ([] : List (List V)) ++ m.map cP ++ [77, 78].map cP = (m ++ [77, 78]).map cP := by simp
  rw [el] at hj a3
  have hfl : ((m ++ [77, 78]).map cP).flatten.length = m.length + 2 := by rw [flat1]; simp
  have hfl2 : ((m ++ [77, 78]).map cP).length = m.length + 2 := by simp
  rw [hfl, hfl2] at a3
  rw [n2] at a3
  have s4 : sliceSlV 1 none (some (.int .i64 (m.length : Int))) none (.sl j (m.length + 2) 0 (m.length + 2) none) = some (.sl j (m.length + 2) 0 m.length none) := by
    simp only [sliceSlV, boundV_none, boundV_nat (show m.length ≤ m.length + 2 by omega)]
    rw [if_pos (by omega)]; simp
  have r2 : repCells 2 [V.int .u32 0] = [.int .u32 0, .int .u32 0] := rfl
  subst hk
  simp [hlen, mp, ep, a1, ← hh1, r2]
  rw [← hh2]
  simp [a3, ← hh3, s4]
  exact q _ _ g3 wf3 ⟨j, rfl, hj⟩
theorem rnorm_ct {h : H} {v : V} {l : List Nat} (hs : Sls h.get 1 v (l.map cP)) (hl : l.length ≤ 1000) {Q : V → H → Prop}
    (q : ∀ v' h', Ge h h' → h'.WF → Sls h'.get 1 v' ((putsL oN l).map cP) → Q v' h') : Acalls Tryd.prog 26 [v] h Q := by
  refine acalls_to Tryd.func26 S.Href05_Norm_code S.Href05_Norm_enter (Nat.le_of_ble_eq_true rfl) fun wf => ?_; simp only [S.Href05_Norm]
  have hlen := hs.lenG wf (n := l.length) (by simp)
  simp
  refine loop_up (fun i t h' => ∃ v2, (t 0 = v ∧ t 3 = v2 ∧ t 4 = .int .i64 (i : Nat)) ∧ Ge h h' ∧ h'.WF ∧ Sls h'.get 1 v2 ((putsL oN (l.take i)).map cP)) l.length ⟨.nilsl, by simp, Ge.refl _, wf, by simpa [putsL] using (Gl.nil h 0 1).sls (by simp) (by simp)⟩ ?_
  rintro i t h' hi ⟨v2, ⟨t0, t3, t4⟩, gb, wb, s2⟩ K hK
  have hlen' := hlen h' gb
  by_cases hlt : i < l.length
  · obtain ⟨p, qq, o, cs, e1, pl, e2, e3⟩ := hs.at1G (f := fun x : Nat => V.int .u32 x) wf hlt
    have e2' := e2 h' gb
    have hw := wrap_succ hlt (by omega)
    have hpl := puts_len_le (l.take i)
    rw [List.length_take] at hpl
    simp [t0, t3, t4, hlen', hlt, e1, e2', e3]
    refine rputP_ct s2 (rise_puts _) (by omega) fun v3 h3 g3 w3 s3 => ?_
    simp [t4, hw]
    refine hK _ _ hlt ⟨v3, by simp [t0], gb.trans g3, w3, ?_⟩
    rw [puts_snoc oN l hlt]; exact s3
  · have hie : i = l.length := by omega
    subst hie
    rw [List.take_length] at s2
    simp [t0, t3, t4, hlen']
    exact q _ _ gb wb s2
theorem rwith_ct {h : H} {v : V} {l : List Nat} {c : Nat} (hs : Sls h.get 1 v (l.map cP)) (hl : l.length ≤ 500) {Q : V → H → Prop}
    (q1 : 64 < (putsL oN (l ++ [c])).length → ∀ h', Ge h h' → h'.WF → Q (.tup [.nilsl, .int .i64 7]) h')
    (q2 : (putsL oN (l ++ [c])).length ≤ 64 → ∀ v' h', Ge h h' → h'.WF → Sls h'.get 1 v' ((putsL oN (l ++ [c])).map cP) → Q (.tup [v', .int .i64 0]) h') : Acalls Tryd.prog 32 [v, .int .u32 (c : Nat)] h Q := by
  refine acalls_to Tryd.func32 S.Href05_With_code S.Href05_With_enter (Nat.le_of_ble_eq_true rfl) fun wf => ?_; simp only [S.Href05_With]
  simp
  refine rnorm_ct hs (by omega) fun v1 h1 g1 w1 s1 => ?_
  have hpl := puts_len_le l
  simp
  refine rputP_ct s1 (rise_puts _) (by omega) fun v3 h3 g3 w3 s3 => ?_
  have e0 : putL oN (putsL oN l) c = putsL oN (l ++ [c]) := by simp [putsL, List.foldl_append]
  rw [e0] at s3
  have hlen := s3.len
  simp at hlen
  simp [hlen]
  by_cases h64 : (putsL oN (l ++ [c])).length ≤ 64
  · have : ¬ (64 : Int) < ((putsL oN (l ++ [c])).length : Int) := by omega
    simp [this]
    exact q2 h64 _ _ (g1.trans g3) w3 s3
  · have : (64 : Int) < ((putsL oN (l ++ [c])).length : Int) := by omega
    simp [this]
    exact q1 (by omega) _ (g1.trans g3) w3
theorem rwithout_ct {h : H} {v vm : V} {l m : List Nat} (hs : Sls h.get 1 v (l.map cP)) (hl : l.length ≤ 1000) (hm : Sls h.get 1 vm (m.map cP)) {Q : V → H → Prop}
    (q : ∀ v' h', Ge h h' → h'.WF → Sls h'.get 1 v' ((mns (putsL oN l) m).map cP) → Q v' h') : Acalls Tryd.prog 30 [v, vm] h Q := by
  refine acalls_to Tryd.func30 S.Href05_Without_code S.Href05_Without_enter (Nat.le_of_ble_eq_true rfl) fun wf => ?_; simp only [S.Href05_Without]
  simp
  refine rnorm_ct hs hl fun n g g1 w1 sn => ?_
  obtain ⟨N, hN⟩ : ∃ N, N = putsL oN l := ⟨_, rfl⟩
  have hpl := puts_len_le l
  rw [← hN] at sn hpl q
  have hnl := sn.lenG w1 (n := N.length) (by simp)
  have hm1 := hm.ge ‹h.WF› g1
  simp
  refine loop_up (fun i t h' => ∃ v2, (t 0 = n ∧ t 1 = vm ∧ t 5 = v2 ∧ t 6 = .int .i64 (i : Nat)) ∧ Ge g h' ∧ h'.WF ∧ Gl h' g.next 1 v2 ((mns (N.take i) m).map cP)) N.length ⟨.nilsl, by simp, Ge.refl _, w1, by simpa [mns] using Gl.nil g g.next 1⟩ ?_
  rintro i t h' hi ⟨v2, ⟨t0, t1, t5, t6⟩, gb, wb, gl⟩ K hK
  have hlen' := hnl h' gb
  by_cases hlt : i < N.length
  · obtain ⟨p, qq, o, cs, e1, pl, e2, e3⟩ := sn.at1G (f := fun x : Nat => V.int .u32 x) w1 hlt
    have e2' := e2 h' gb
    have hw := wrap_succ hlt (by omega)
    have htk : N.take (i + 1) = N.take i ++ [N[i]] := by rw [List.take_add_one, List.getElem?_eq_getElem hlt]; rfl
    have hml := mns_len (N.take i) m
    rw [List.length_take] at hml
    simp [t0, t1, t6, hlen', hlt, e1, e2', e3]
    refine has_ct (hm1.ge w1 gb) _ ?_
    by_cases hx : N[i] ∈ m
    · simp [hx, t6, hw]
      refine hK _ _ hlt ⟨v2, by simp [t0, t1, t5], gb, wb, ?_⟩
      rw [htk, mns_snoc_in hx]; exact gl
    · obtain ⟨w3, d3, x3, gl3, n3, k3, f3⟩ := gl_more N[i] gb.1 gl (by omega)
      simp [hx, t0, t5, t6, e1, e2', e3, x3, hw]
      refine hK _ _ hlt ⟨w3, by simp [t0, t1], ⟨Nat.le_trans gb.1 n3, fun x hx => ?_⟩, f3 wb, ?_⟩
      · rw [k3 x (fun hx2 => by have := (gl.lo _ hx2).1; omega) (by have := gb.1; omega)]; exact gb.2 x hx
      · rw [htk, mns_snoc_out hx]; exact gl3
  · have hie : i = N.length := by omega
    subst hie
    rw [List.take_length] at gl
    have hml := mns_len N m
    simp [t0, t5, t6, hlen']
    exact q _ _ (g1.trans gb) wb (gl.sls (map_lenc cP_len _) (by simp; omega))
end Go.Am
