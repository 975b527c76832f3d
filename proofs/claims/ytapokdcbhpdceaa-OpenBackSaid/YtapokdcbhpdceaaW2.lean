/-
  Contracts: the family of a pair; a short list is sorted.
-/
import Derived.Test.YtapokdcbhpdceaaO11
import Derived.Test.YtapokdcbhpdceaaAm26
import Derived.Test.YtapokdcbhpdceaaO4
namespace Go.Am
open Go.Proofs

theorem idxI_bd {α : Type} (p : α → Bool) : ∀ (l : List α) (i : Nat), -1 ≤ idxI p i l ∧ idxI p i l < i + l.length
  | [], i => by simp [idxI]; omega
  | x :: l, i => by
    have := idxI_bd p l (i + 1)
    rw [idxI]
    split
    · simp; omega
    · simp at this ⊢; omega
structure Rw where
  a : Int
  s : Int
  z : Int
  n : Int
def rwC (r : Rw) : List V := [.int .u16 r.a, .int .u8 r.s, .int .i64 r.z, .int .i64 r.n]
def rws : List Rw := [⟨1, 1, 0, 4⟩, ⟨2, 1, 0, 16⟩, ⟨1, 4, 0, 4⟩, ⟨1, 128, 8, 4⟩, ⟨2, 128, 8, 16⟩]
def famB (a b : Int) : Int := 1 + idxI (fun r : Rw => r.a == a && r.s == b) 0 rws
theorem famB_bd (a b : Int) : 0 ≤ famB a b ∧ famB a b ≤ 5 := by
  have := idxI_bd (fun r : Rw => r.a == a && r.s == b) rws 0
  unfold famB; simp [rws] at this ⊢; omega
theorem famB_afi {f : Int} (hf : fam5 f) : famB (afi f).1 (afi f).2 = f := by
  rcases hf with rfl | rfl | rfl | rfl | rfl <;> decide

theorem asks102 {h : H} {q q2 : Nat} {a b : Int} (hq : h.get q = some (.row [.int .u16 a])) (hq2 : h.get q2 = some (.row [.int .u8 b])) (hl : q < h.next) (hl2 : q2 < h.next) : Asks h (.func (.func 102) [] [.ptr q 1 0, .ptr q2 1 0]) (fun x => .agg (rwC x)) (fun r : Rw => r.a == a && r.s == b) := by
  intro x h' g Q k
  have hc : ∀ o, cellsAt (h'.push o).get q 1 = some [.int .u16 a] := fun o => by rw [cellsAt_push, if_neg (by have := g.1; omega), g.cells hl, cellsAt_of hq (by simp)]; rfl
  have hc2 : ∀ o, cellsAt (h'.push o).get q2 1 = some [.int .u8 b] := fun o => by rw [cellsAt_push, if_neg (by have := g.1; omega), g.cells hl2, cellsAt_of hq2 (by simp)]; rfl
  simp
  refine (?_ : Pure Try.prog 102 [.agg (rwC x), .ptr q 1 0, .ptr q2 1 0] h' (.bool (x.a == a && x.s == b))) Q k
  refine pure_to Try.func102 S.reach_Fam_1_code S.reach_Fam_1_enter rfl (Nat.le_of_ble_eq_true rfl) fun wf => ?_; simp only [S.reach_Fam_1]
  simp [rwC, hc]
  (first | refine guard_split ?_ ?_ | refine cond_split ?_ ?_ | refine sguard_split ?_ ?_) <;> intro e <;> (try simp only [Bool.not_true] at e) <;> simp [e, hc2]
  all_goals (simp at e; simp [e])
theorem indexRw_ct {h : H} {v fv : V} {l : List Rw} {p : Rw → Bool} {r : Int} (hs : Sls h.get 4 v (l.map rwC)) (hf : Asks h fv (fun x => .agg (rwC x)) p) (hr : r = idxI p 0 l) : Pure Try.prog 101 [v, fv] h (.int .i64 r) := by
  refine pure_to Try.func101 S.slices_IndexFunc_reach_row_reach_row_code S.slices_IndexFunc_reach_row_reach_row_enter rfl (Nat.le_of_ble_eq_true rfl) fun wf => ?_; simp only [S.slices_IndexFunc_reach_row_reach_row]
  have hb := hs.bound
  simp [hs.len]
  refine loop_up (fun i t h' => (t 0 = v ∧ t 1 = fv ∧ t 7 = .int .i64 l.length ∧ t 8 = .int .i64 i) ∧ Ge h h' ∧ r = idxI p i (l.drop i)) l.length (by simp [hr]) ?_
  rintro i t h' hi ⟨⟨h0, h1, h7, h8⟩, hg, ha⟩ K hK
  have hs' := hs.ge wf hg
  have hn := hg.1
  by_cases hlt : i < l.length
  · obtain ⟨q, q2, o, cs, e1, e2, e3, e4, _⟩ := hs'.at (k := i) (by simpa using hlt)
    rw [List.drop_eq_getElem_cons hlt, idxI] at ha
    simp [h0, h1, h7, h8, hlt, e1, e2, e3, e4]
    refine hf l[i] _ hg _ ?_
    simp
    have hw := wrap_succ hlt (by simpa using hb)
    (first | refine guard_split ?_ ?_ | refine cond_split ?_ ?_ | refine sguard_split ?_ ?_) <;> intro e <;> (try simp only [Bool.not_true, Bool.not_false] at e) <;> simp [e, h8]
    · simp [e] at ha
      simp [ha, hg]
    · simp [e] at ha
      refine hK _ _ hlt ⟨?_, hg, ha⟩
      simp [h0, h1, h7, hw]
  · simp [h7, h8, hlt, hg]
    rw [ha, List.drop_of_length_le (by omega)]; rfl
set_option maxRecDepth 100000
theorem fam_ct {h : H} {a b : Int} : Pure Try.prog 93 [.int .u16 a, .int .u8 b] h (.int .i64 (famB a b)) := by
  refine pure_to Try.func93 S.reach_Fam_code S.reach_Fam_enter rfl (Nat.le_of_ble_eq_true rfl) fun wf => ?_; simp only [S.reach_Fam]
  simp
  refine rows_ct _ ?_
  simp [rowsC]
  obtain ⟨hb, hhb⟩ : ∃ hb, hb = (((h.push (.row [.int .u16 a])).push (.row [.int .u8 b])).push (.row [.int .u16 0, .int .u8 0, .int .i64 0, .int .i64 0, .int .u16 0, .int .u8 0, .int .i64 0, .int .i64 0, .int .u16 0, .int .u8 0, .int .i64 0, .int .i64 0, .int .u16 0, .int .u8 0, .int .i64 0, .int .i64 0, .int .u16 0, .int .u8 0, .int .i64 0, .int .i64 0, .int .u16 0, .int .u8 0, .int .i64 0, .int .i64 0])).set (h.next + 1 + 1) (.row rowsC) := ⟨_, rfl⟩
  have gb : Ge h hb := by rw [hhb]; exact ((((Ge.refl _).push _).push _).push _).set (by omega) _
  have wb : hb.WF := by rw [hhb]; exact (((wf.push _).push _).push _).set (by simp) _
  have nb : hb.next = h.next + 3 := by rw [hhb]; rfl
  have a1 : ¬ h.next = h.next + 1 + 1 := by omega
  have x1 : hb.get h.next = some (.row [.int .u16 a]) := by rw [hhb]; simp [a1]
  have x2 : hb.get (h.next + 1) = some (.row [.int .u8 b]) := by rw [hhb]; simp
  have x3 : hb.get (h.next + 1 + 1) = some (.row rowsC) := by rw [hhb]; simp
  simp only [rowsC] at hhb
  rw [← hhb]
  refine indexRw_ct (l := rws) (p := fun r : Rw => r.a == a && r.s == b) ⟨.inr ⟨_, _, _, _, rfl⟩, by simp [rws, rwC], ?_, by simp [rws]⟩ (asks102 x1 x2 (by omega) (by omega)) rfl _ ?_
  · rw [elemsV_sl, if_neg (by simp [rws]), cellsAt_of x3 (by simp [rowsC])]
    simp [rws, rwC, rowsC]
  · have f0 := famB_bd a b
    have w1 : IntKind.i64.wrap (1 + idxI (fun r : Rw => r.a == a && r.s == b) 0 rws) = famB a b := wrap_i64_id (show _ ≤ famB a b by omega) (show famB a b ≤ _ by omega)
    simp [w1]
    exact ⟨fun h => by omega, gb⟩

/-! ### A short list is sorted -/
theorem isnan_ct {h : H} {x : Int} : Pure Try.prog 119 [.int .i64 x] h (.bool false) := by
  refine pure_to Try.func119 S.cmp_isNaN_int_code S.cmp_isNaN_int_enter rfl (Nat.le_of_ble_eq_true rfl) fun wf => ?_; simp only [S.cmp_isNaN_int]
  simp
theorem less_ct {h : H} {x y : Int} : Pure Try.prog 109 [.int .i64 x, .int .i64 y] h (.bool (decide (x < y))) := by
  refine pure_to Try.func109 S.cmp_Less_int_code S.cmp_Less_int_enter rfl (Nat.le_of_ble_eq_true rfl) fun wf => ?_; simp only [S.cmp_Less_int]
  simp
  refine isnan_ct _ ?_
  simp
theorem map_set {α : Type} (f : α → V) (l : List α) (k : Nat) (x : α) (hk : k < l.length) : putCells (l.map f) k [f x] = (l.set k x).map f := by
  rw [List.map_set, List.set_eq_take_append_cons_drop, if_pos (by simpa using hk)]; simp [putCells]
/-- Sorted but at 'k', up to 'i'. -/
structure Near (l cur : List Int) (i k : Nat) : Prop where
  perm : cur.Perm l
  ki : k ≤ i
  il : i < l.length
  st : ∀ p q (hp : p < cur.length) (hq : q < cur.length), p < q → q ≤ i → p ≠ k → q ≠ k → cur[p] ≤ cur[q]
  up : ∀ q (hk : k < cur.length) (hq : q < cur.length), k < q → q ≤ i → cur[k] ≤ cur[q]
theorem Near.swap {l cur : List Int} {i k : Nat} (n : Near l cur i k) (hk : 0 < k) (h1 : k < cur.length) (h2 : k - 1 < cur.length) (hlt : cur[k] < cur[k - 1]) : Near l ((cur.set k cur[k - 1]).set (k - 1) cur[k]) i (k - 1) := by
  obtain ⟨pm, ki, il, st, up⟩ := n
  refine ⟨(List.set_set_perm h1 h2).trans pm, by omega, il, fun p q hp hq hpq hqi hpk hqk => ?_, fun q hk' hq hkq hqi => ?_⟩
  · simp only [List.length_set] at hp hq
    simp only [List.getElem_set]
    rw [if_neg (show ¬ k - 1 = p by omega), if_neg (show ¬ k - 1 = q by omega)]
    by_cases e : k = p
    · rw [if_pos e, if_neg (show ¬ k = q by omega)]
      exact st (k - 1) q h2 hq (by omega) hqi (by omega) (by omega)
    · rw [if_neg e]
      by_cases e2 : k = q
      · rw [if_pos e2]
        exact st p (k - 1) hp h2 (by omega) (by omega) (by omega) (by omega)
      · rw [if_neg e2]
        exact st p q hp hq hpq hqi (by omega) (by omega)
  · simp only [List.length_set] at hk' hq
    simp only [List.getElem_set]
    rw [if_pos trivial, if_neg (show ¬ k - 1 = q by omega)]
    by_cases e : k = q
    · rw [if_pos e]; omega
    · rw [if_neg e]
      exact up q h1 hq (by omega) hqi
/-- Sorted below 'i'. -/
structure Upto (l cur : List Int) (i : Nat) : Prop where
  perm : cur.Perm l
  st : ∀ p q (hp : p < cur.length) (hq : q < cur.length), p < q → q < i → cur[p] ≤ cur[q]
theorem Upto.near {l cur : List Int} {i : Nat} (u : Upto l cur i) (hi : i < l.length) : Near l cur i i :=
  ⟨u.perm, Nat.le_refl _, hi, fun p q hp hq hpq hqi _ hne => u.st p q hp hq hpq (by omega), fun q _ _ h1 h2 => by omega⟩
theorem Near.done {l cur : List Int} {i k : Nat} (n : Near l cur i k) (hk : k = 0 ∨ ∃ (h1 : k < cur.length) (h2 : k - 1 < cur.length), ¬ cur[k] < cur[k - 1]) : Upto l cur (i + 1) := by
  obtain ⟨pm, ki, il, st, up⟩ := n
  refine ⟨pm, fun p q hp hq hpq hqi => ?_⟩
  by_cases e1 : p = k
  · subst e1; exact up q hp hq hpq (by omega)
  · by_cases e2 : q = k
    · subst e2
      rcases hk with rfl | ⟨h1, h2, hn⟩
      · omega
      · rcases Nat.lt_or_ge p (q - 1) with h | h
        · have := st p (q - 1) hp h2 h (by omega) (by omega) (by omega); omega
        · have : p = q - 1 := by omega
          subst this; omega
    · exact st p q hp hq hpq (by omega) e1 e2

theorem isort_ct {h : H} {j n : Nat} {l : List Int} (hj : h.get j = some (.grow 1 (l.map (.int .i64)))) (hn : l.length = n) (hb : n ≤ 1048576) {Q : V → H → Prop} (q : ∀ l' : List Int, l'.Perm l → l'.Pairwise (· ≤ ·) → Q (.tup []) (h.set j (.grow 1 (l'.map (.int .i64))))) :
    Acalls Try.prog 103 [.sl j n 0 n none, .int .i64 0, .int .i64 n] h Q := by
  refine acalls_to Try.func103 S.slices_insertionSortOrdered_int_code S.slices_insertionSortOrdered_int_enter (Nat.le_of_ble_eq_true rfl) fun wf => ?_; simp only [S.slices_insertionSortOrdered_int]
  have hlt := wf.lt hj
  have w01 : IntKind.i64.wrap (0 + 1) = 1 := by decide
  simp
  refine loop_up (fun i t h' => ∃ cur : List Int, (t 0 = .sl j n 0 n none ∧ t 1 = .int .i64 0 ∧ t 2 = .int .i64 n ∧ t 6 = .int .i64 ((i + 1 : Nat) : Int)) ∧ h.set j (.grow 1 (cur.map (.int .i64))) = h' ∧ Upto l cur (i + 1)) (n - 1) ⟨l, by simp [show IntKind.i64.wrap 1 = 1 by decide], H.ext' rfl fun k => ?_, List.Perm.refl _, fun p q _ _ h1 h2 => by omega⟩ ?_
  · rw [H.get_set]; split
    · rename_i e; rw [e, hj]
    · rfl
  rintro i t _ hi ⟨cur, ⟨t0, t1, t2, t6⟩, rfl, u⟩ K hK
  have hcl : cur.length = n := by rw [← hn]; exact u.perm.length_eq
  by_cases hlt' : i + 1 < n
  · have hc : ((i + 1 : Nat) : Int) < n := by omega
    have hw : IntKind.i64.wrap (((i + 1 : Nat) : Int) + 1) = ((i + 1 + 1 : Nat) : Int) := by rw [wrap_i64_id (by omega) (by omega)]; omega
    obtain ⟨fi, hfi⟩ : ∃ fi : Int, fi = ((i + 1 : Nat) : Int) := ⟨_, rfl⟩
    rw [← hfi] at t6 hc hw
    simp [t2, t6, hc]
    refine loop_up (fun m t h' => ∃ cur : List Int, (t 0 = .sl j n 0 n none ∧ t 1 = .int .i64 0 ∧ t 2 = .int .i64 n ∧ t 6 = .int .i64 fi ∧ t 7 = .int .i64 ((i + 1 - m : Nat) : Int)) ∧ h.set j (.grow 1 (cur.map (.int .i64))) = h' ∧ Near l cur (i + 1) (i + 1 - m)) (i + 1) ⟨cur, by simp [t0, t1, t2, t6, hfi], rfl, u.near (by omega)⟩ ?_
    clear t0 t1 t2 t6 u hcl cur
    rintro m t _ hm ⟨cur, ⟨t0, t1, t2, t6, t7⟩, rfl, u⟩ K2 hK2
    have hcl : cur.length = n := by rw [← hn]; exact u.perm.length_eq
    obtain ⟨k, hk⟩ : ∃ k, k = i + 1 - m := ⟨_, rfl⟩
    rw [← hk] at t7 u
    have w2 : (h.set j (.grow 1 (cur.map (.int .i64)))).WF := wf.set hlt _
    have hget : (h.set j (.grow 1 (cur.map (.int .i64)))).get j = some (.grow 1 (cur.map (.int .i64))) := by simp
    have hca : cellsAt (h.set j (.grow 1 (cur.map (.int .i64)))).get j n = some (cur.map (.int .i64)) := by rw [cellsAt_of hget (by simp [hcl])]; rfl
    obtain ⟨g, hg⟩ : ∃ g, g = h.set j (.grow 1 (cur.map (.int .i64))) := ⟨_, rfl⟩
    rw [← hg] at w2 hget hca
    rw [← hg]
    by_cases hk0 : 0 < k
    · have k1 : k < cur.length := by have := u.ki; omega
      have k2 : k - 1 < cur.length := by omega
      have c1 : (0 : Int) < k := by omega
      have wm : IntKind.i64.wrap ((k : Int) - 1) = ((k - 1 : Nat) : Int) := by rw [wrap_i64_id (by omega) (by omega)]; omega
      have ix : ∀ x : Nat, x < n → indexAddrV 1 (.sl j n 0 n none) (.int .i64 (x : Int)) = some (.ptr j n x) := fun x hx => by
        rw [indexAddrV_sl, if_pos (by omega)]; simp
      simp
      refine dreg_quiet w2 ?_
      simp [t0, t1, t7, hk0, wm, ix k (by omega), ix (k - 1) (by omega), hca, k1, k2]
      refine qcall_of (v := .bool (decide (cur[k] < cur[k - 1]))) rfl (fun h2 g => less_ct) ?_
      simp
      refine cond_split ?_ ?_
      · intro e
        simp only [decide_eq_true_eq] at e
        have ki := u.ki
        simp
        refine dreg_of ?_
        have ps : putCells (cur.map (V.int .i64)) k [.int .i64 cur[k - 1]] = (cur.set k cur[k - 1]).map (V.int .i64) := map_set _ _ _ _ k1
        have ps2 : putCells ((cur.set k cur[k - 1]).map (V.int .i64)) (k - 1) [.int .i64 cur[k]] = ((cur.set k cur[k - 1]).set (k - 1) cur[k]).map (V.int .i64) := map_set _ _ _ _ (by simpa using k2)
        simp [t0, t7, wm, ix k (by omega), ix (k - 1) (by omega), hca, hget, hcl, show k < n by omega, show k - 1 < n by omega, -putCells, -List.map_set, ps, ps2, show k + 1 ≤ n by omega, show k - 1 + 1 ≤ n by omega]
        refine hK2 _ _ (by omega) ⟨(cur.set k cur[k - 1]).set (k - 1) cur[k], by simp [t0, t1, t2, t6, show i + 1 - (m + 1) = k - 1 by omega], ?_, ?_⟩
        · rw [hg]; simp
        · rw [show i + 1 - (m + 1) = k - 1 by omega]
          exact u.swap hk0 k1 k2 e
      · intro e
        simp only [decide_eq_false_iff_not] at e
        simp [t6, hw]
        exact hK _ _ (by omega) ⟨cur, by simp [t0, t1, t2], hg.symm, u.done (.inr ⟨k1, k2, e⟩)⟩
    · have hk00 : k = 0 := by omega
      simp
      refine dreg_quiet w2 ?_
      simp [t1, t7, hk00, t6, hw]
      exact hK _ _ (by omega) ⟨cur, by simp [t0, t1, t2], hg.symm, u.done (.inl hk00)⟩
  · have hc : ¬ ((i : Int) + 1 < n) := by omega
    simp [t2, t6, hc]
    refine q cur u.perm ?_
    rw [List.pairwise_iff_getElem]
    intro a b ha hb' hab
    exact u.st a b ha hb' hab (by omega)
theorem sort_ct {h : H} {j n : Nat} {l : List Int} (hj : h.get j = some (.grow 1 (l.map (.int .i64)))) (hn : l.length = n) (hb : n ≤ 12) {Q : V → H → Prop} (q : ∀ l' : List Int, l'.Perm l → l'.Pairwise (· ≤ ·) → Q (.tup []) (h.set j (.grow 1 (l'.map (.int .i64))))) :
    Acalls Try.prog 82 [.sl j n 0 n none] h Q := by
  obtain ⟨m, hm, _, hl⟩ := len64_ct (v := n) (by omega)
  refine acalls_to Try.func82 S.slices_Sort_int_int_code S.slices_Sort_int_int_enter (Nat.le_of_ble_eq_true rfl) fun wf => ?_; simp only [S.slices_Sort_int_int]
  have w1 : IntKind.u64.wrap (n : Int) = n := by simp [IntKind.wrap, IntKind.bits, IntKind.signed]; omega
  have h12 : (n : Int) ≤ 12 := by omega
  have w0 : IntKind.i64.wrap ((n : Int) - 0) = n := by rw [wrap_i64_id (by omega) (by omega)]; omega
  simp [w1]
  refine (?_ : Pure Try.prog 95 [.int .u64 n] h (.int .i64 m)) _ ?_
  · refine pure_to Try.func95 S.math_bits_Len_code S.math_bits_Len_enter rfl (Nat.le_of_ble_eq_true rfl) fun wf => ?_; simp only [S.math_bits_Len]
    simp
    refine hl _ _ ?_
    simp
  simp
  refine (?_ : ∀ Q : V → H → Prop, (∀ l' : List Int, l'.Perm l → l'.Pairwise (· ≤ ·) → Q (.tup []) (h.set j (.grow 1 (l'.map (.int .i64))))) → Acalls Try.prog 94 [.sl j n 0 n none, .int .i64 0, .int .i64 n, .int .i64 m] h Q) _ fun l' h1 h2 => ?_
  · intro Q q
    refine acalls_to Try.func94 S.slices_pdqsortOrdered_int_code S.slices_pdqsortOrdered_int_enter (Nat.le_of_ble_eq_true rfl) fun wf => ?_; simp only [S.slices_pdqsortOrdered_int]
    simp
    refine loop_up (fun i t h' => (t 0 = .sl j n 0 n none ∧ t 1 = .int .i64 0 ∧ t 2 = .int .i64 n) ∧ h = h') 0 ⟨by simp, rfl⟩ ?_
    rintro i t _ _ ⟨⟨t0, t1, t2⟩, rfl⟩ K _
    simp [t0, t1, t2, wrap_nat (n := n) (by omega), h12]
    refine isort_ct hj hn (by omega) fun l' h1 h2 => ?_
    simp
    exact q l' h1 h2
  · simp
    exact q l' h1 h2
end Go.Am
