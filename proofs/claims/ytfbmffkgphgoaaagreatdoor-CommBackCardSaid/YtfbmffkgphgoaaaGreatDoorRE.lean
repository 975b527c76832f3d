/-
  RB, RC, in one text.
-/
import Derived.Test.YtfbmffkgphgoaaaGreatDoorRD
import Derived.Test.YtfbmffkgphgoaaaGreatDoorShS
import Derived.Test.YtfbmffkgphgoaaaGreatDoorAm39
import Derived.Test.YtfbmffkgphgoaaaGreatDoorSA
import Derived.Test.YtfbmffkgphgoaaaGreatDoorRW
import Derived.Test.YtfbmffkgphgoaaaGreatDoorAm33
/-
  C2, CR2, NB0, NB1, in one text.
-/
namespace Go.Am
open Go.Proofs

set_option maxRecDepth 100000
/-- What laying answers. -/
def encR {α : Type} (c : α → α → Int) (b : α → List UInt8) (l : List α) : V := if l.length ≤ 64 ∧ adjB c l = true then .tup [.str (l.flatMap b), .int .i64 0] else .tup [.str [], .int .i64 2]
theorem encR_yes {α : Type} {c : α → α → Int} {b : α → List UInt8} {l : List α} (h1 : l.length ≤ 64) (h2 : adjB c l = true) : encR c b l = .tup [.str (l.flatMap b), .int .i64 0] := if_pos ⟨h1, h2⟩
theorem encR_long {α : Type} {c : α → α → Int} {b : α → List UInt8} {l : List α} (h : 64 < l.length) : encR c b l = .tup [.str [], .int .i64 2] := if_neg (by omega)
theorem encR_no {α : Type} {c : α → α → Int} {b : α → List UInt8} {l : List α} (h : adjB c l = false) : encR c b l = .tup [.str [], .int .i64 2] := if_neg (by simp [h])
theorem encR_ids {α : Type} (c : α → α → Int) (b : α → List UInt8) (l : List α) : (encR c b l).ids = [] := by unfold encR; split <;> rfl
theorem adjB_false {α : Type} {c : α → α → Int} {l : List α} {i : Nat} (h0 : 0 < i) (h : i < l.length) (hc : ¬ c l[i - 1] l[i] < 0) : adjB c l = false := by
  cases e : adjB c l with
  | false => rfl
  | true =>
    have := (adjB_iff l).1 e (i - 1) (by omega)
    exact absurd (by simpa [show i - 1 + 1 = i by omega] using this) hc
/-- A fresh row of plain cells. -/
theorem sls_row {g : Nat → Option O} {k : Nat} {cs : List V} {ca : Option Nat} (hg : g k = some (.row cs)) (hb : cs.length < 9223372036854775808) (hca : ca = some cs.length) : Sls g 1 (.sl k cs.length 0 cs.length ca) (cs.map fun x => [x]) := by
  subst hca
  have hfl : (cs.map fun x => [x]).flatten = cs := by
    clear hg hb
    induction cs with
    | nil => rfl
    | cons a l ih => simp [ih]
  refine ⟨.inr ⟨_, _, _, _, by rw [List.length_map]⟩, by simp, ?_, by simpa using hb⟩
  rw [elemsV_sl]
  split
  · rename_i h0
    have : cs = [] := List.eq_nil_of_length_eq_zero h0
    subst this; rfl
  · rw [cellsAt_of hg (by simp [O.len, O.cells]), hfl]
    simp [O.cells]
theorem adjB_step {α : Type} {c : α → α → Int} {l : List α} {i : Nat} (ht : adjB c (l.take i) = true) (h : i < l.length) (hc : 0 < i → c l[i - 1] l[i] < 0) : adjB c (l.take (i + 1)) = true := by
  rw [adjB_iff] at ht ⊢
  intro k hk
  simp only [List.length_take] at hk
  simp only [List.getElem_take]
  by_cases hki : k + 1 < i
  · have := ht k (by simp; omega)
    simpa using this
  · have : k + 1 = i := by omega
    subst this
    simpa using hc (by omega)

theorem oneP_ct {h : H} {s : List UInt8} {x : Nat} (hx : x < 4294967296) (hs : s.length ≤ 64 * 12) : Pure Tryz.prog 40 [.str s, .int .u32 (x : Nat)] h (.str (s ++ bP x)) := by
  refine pure_to Tryz.func40 S.comm_Encode_1_code S.comm_Encode_1_enter rfl (Nat.le_of_ble_eq_true rfl) fun wf => ?_; simp only [S.comm_Encode_1]
  simp
  refine cput_ct (l := [x]) (sls_row (k := h.next) (cs := [.int .u32 (x : Nat)]) (by simp) (by simp) rfl) (by simpa using hx) (by simp; omega) _ ?_
  simp
theorem oneX_ct {h : H} {s : List UInt8} {x : Nat} (hx : x < 18446744073709551616) (hs : s.length ≤ 64 * 12) : Pure Tryz.prog 43 [.str s, .int .u64 (x : Nat)] h (.str (s ++ bX x)) := by
  refine pure_to Tryz.func43 S.comm_EncodeExts_1_code S.comm_EncodeExts_1_enter rfl (Nat.le_of_ble_eq_true rfl) fun wf => ?_; simp only [S.comm_EncodeExts_1]
  obtain ⟨hi, hhi⟩ : ∃ hi, hi = x / 4294967296 := ⟨_, rfl⟩
  obtain ⟨lo, hlo⟩ : ∃ lo, lo = x % 4294967296 := ⟨_, rfl⟩
  have wu1 : IntKind.u32.wrap ((x : Int) / 4294967296) = (hi : Int) := by rw [hhi]; simp [IntKind.wrap, IntKind.bits, IntKind.signed]; omega
  have wu2 : IntKind.u32.wrap (x : Int) = (lo : Int) := by rw [hlo]; simp [IntKind.wrap, IntKind.bits, IntKind.signed]
  have r2 : repCells 2 [V.int .u32 0] = [.int .u32 0, .int .u32 0] := rfl
  simp [fd32, wu1, wu2, r2]
  refine cput_ct (l := [hi, lo]) (sls_row (k := h.next) (cs := [.int .u32 (hi : Nat), .int .u32 (lo : Nat)]) (by simp) (by simp) rfl) (by intro y hy; simp at hy; omega) (by simp; omega) _ ?_
  simp [bX, bP, ← hhi, hlo, be4_mod]
theorem oneL_ct {h : H} {s : List UInt8} {x : Lg} (hx : x.1 < 4294967296 ∧ x.2.1 < 4294967296 ∧ x.2.2 < 4294967296) (hs : s.length ≤ 64 * 12) : Pure Tryz.prog 45 [.str s, .agg (cL x)] h (.str (s ++ bL x)) := by
  refine pure_to Tryz.func45 S.comm_EncodeLarges_1_code S.comm_EncodeLarges_1_enter rfl (Nat.le_of_ble_eq_true rfl) fun wf => ?_; simp only [S.comm_EncodeLarges_1]
  obtain ⟨h2, hh2⟩ : ∃ h2, h2 = h.push (.row (cL x)) := ⟨_, rfl⟩
  have g2 : Ge h h2 := by rw [hh2]; exact (Ge.refl _).push _
  have c1 : cellsAt h2.get h.next 3 = some (cL x) := by rw [hh2]; simp [cL]
  have n2 : h2.next = h.next + 1 := by rw [hh2]; simp
  have r3 : repCells 3 [V.int .u32 0] = [.int .u32 0, .int .u32 0, .int .u32 0] := rfl
  simp only [cL] at hh2 c1
  simp [cL]
  rw [← hh2]
  simp [r3]
  refine cput_ct (l := [x.1, x.2.1, x.2.2]) (sls_row (k := h.next + 1) (cs := [.int .u32 (x.1 : Nat), .int .u32 (x.2.1 : Nat), .int .u32 (x.2.2 : Nat)]) (by simp [n2]) (by simp) rfl) (by intro y hy; simp at hy; omega) (by simp; omega) _ ?_
  simp [bL, bP]
  exact g2.push _

theorem laycP_ct {h : H} {v : V} {l : List Nat} (hs : Sls h.get 1 v (l.map cP)) (hf : ∀ x ∈ l, x < 4294967296) (hl : l.length ≤ 1000) : Pure Tryz.prog 39 [v, .func (.func 27) [] [], .func (.func 40) [] []] h (encR oN bP l) := by
  refine pure_to Tryz.func39 S.comm_lay_uint32_code S.comm_lay_uint32_enter (by exact encR_ids _ _ _) (Nat.le_of_ble_eq_true rfl) fun wf => ?_; simp only [S.comm_lay_uint32]
  have hlen := hs.len
  simp at hlen
  by_cases h64 : 64 < l.length
  · have h64' : (64 : Int) < l.length := by omega
    simp [hlen, h64', encR_long h64]
  · have h64' : ¬ (64 : Int) < l.length := by omega
    simp [hlen, h64']
    refine loop_up (fun i t h' => (t 0 = v ∧ t 1 = .func (.func 27) [] [] ∧ t 2 = .func (.func 40) [] [] ∧ t 8 = .str ((l.take i).flatMap bP) ∧ t 14 = v ∧ t 15 = .int .i64 l.length ∧ t 16 = .int .i64 (i : Nat)) ∧ Ge h h' ∧ h'.WF ∧ adjB oN (l.take i) = true) l.length ⟨by simp, Ge.refl _, wf, by simp [adjB]⟩ ?_
    rintro i t h' hi ⟨⟨t0, t1, t2, t8, t14, t15, t16⟩, gb, wb, ha⟩ K hK
    by_cases hlt : i < l.length
    · have hw := wrap_succ hlt (by omega)
      have w1 : IntKind.i64.wrap 1 = 1 := by decide
      have hfl : ((l.take i).flatMap bP).length ≤ 64 * 12 := by rw [flatMap_len _ bP bP_len]; simp; omega
      obtain ⟨p, qq, o, cs, e1, pl, e2, e3⟩ := hs.at1G (f := fun x : Nat => V.int .u32 x) wf hlt
      have e2' := e2 h' gb
      simp [t14, t15, t16, hlt, e1, e2', e3]
      by_cases h0 : i = 0
      · subst h0
        simp [t2, t8]
        refine oneP_ct (s := []) (x := l[0]) (hf _ (List.getElem_mem _)) (by simp) _ ?_
        simp [t16]
        refine hK _ _ hlt ⟨?_, gb, wb, adjB_step ha hlt (by omega)⟩
        have := flatMap_take bP l hlt
        simp [t0, t1, t2, t14, t15]
        simpa [w1] using this.symm
      · obtain ⟨p', qq', o', cs', f1, pl', f2, f3⟩ := hs.at1G (f := fun x : Nat => V.int .u32 x) wf (show i - 1 < l.length by omega)
        have f2' := f2 h' gb
        have wm : IntKind.i64.wrap ((i : Int) - 1) = ((i - 1 : Nat) : Int) := by rw [wrap_i64_id (by omega) (by omega)]; omega
        have h0' : 0 < i := by omega
        simp [h0', t0, t1, wm, f1, f2', f3]
        refine cmp32_ct _ ?_
        by_cases hc : cmpI (l[i - 1] : Nat) (l[i] : Nat) < 0
        · have hc' : ¬ 0 ≤ cmpI (l[i - 1] : Nat) (l[i] : Nat) := by omega
          simp [hc', t2, t8]
          refine oneP_ct (x := l[i]) (hf _ (List.getElem_mem _)) (by omega) _ ?_
          simp [t16, hw]
          refine hK _ _ hlt ⟨?_, gb, wb, adjB_step ha hlt (fun _ => hc)⟩
          simp [t0, t1, t2, t14, t15, flatMap_take bP l hlt]
        · have hc' : 0 ≤ cmpI (l[i - 1] : Nat) (l[i] : Nat) := by omega
          simp [hc']
          rw [encR_no (adjB_false h0' hlt hc)]
          exact ⟨rfl, gb⟩
    · have : i = l.length := by omega
      subst this
      simp [t8, t15, t16]
      rw [encR_yes (by omega) (by simpa using ha)]
      exact ⟨rfl, gb⟩
theorem enccP_ct {h : H} {v : V} {l : List Nat} (hs : Sls h.get 1 v (l.map cP)) (hf : ∀ x ∈ l, x < 4294967296) (hl : l.length ≤ 1000) : Pure Tryz.prog 19 [v] h (encR oN bP l) := by
  refine pure_to Tryz.func19 S.comm_Encode_code S.comm_Encode_enter (by exact encR_ids _ _ _) (Nat.le_of_ble_eq_true rfl) fun wf => ?_; simp only [S.comm_Encode]
  simp
  refine laycP_ct hs hf hl _ ?_
  unfold encR
  split <;> simp

theorem laycX_ct {h : H} {v : V} {l : List Nat} (hs : Sls h.get 1 v (l.map cX)) (hf : ∀ x ∈ l, x < 18446744073709551616) (hl : l.length ≤ 1000) : Pure Tryz.prog 42 [v, .func (.func 32) [] [], .func (.func 43) [] []] h (encR oN bX l) := by
  refine pure_to Tryz.func42 S.comm_lay_uint64_code S.comm_lay_uint64_enter (by exact encR_ids _ _ _) (Nat.le_of_ble_eq_true rfl) fun wf => ?_; simp only [S.comm_lay_uint64]
  have hlen := hs.len
  simp at hlen
  by_cases h64 : 64 < l.length
  · have h64' : (64 : Int) < l.length := by omega
    simp [hlen, h64', encR_long h64]
  · have h64' : ¬ (64 : Int) < l.length := by omega
    simp [hlen, h64']
    refine loop_up (fun i t h' => (t 0 = v ∧ t 1 = .func (.func 32) [] [] ∧ t 2 = .func (.func 43) [] [] ∧ t 8 = .str ((l.take i).flatMap bX) ∧ t 14 = v ∧ t 15 = .int .i64 l.length ∧ t 16 = .int .i64 (i : Nat)) ∧ Ge h h' ∧ h'.WF ∧ adjB oN (l.take i) = true) l.length ⟨by simp, Ge.refl _, wf, by simp [adjB]⟩ ?_
    rintro i t h' hi ⟨⟨t0, t1, t2, t8, t14, t15, t16⟩, gb, wb, ha⟩ K hK
    by_cases hlt : i < l.length
    · have hw := wrap_succ hlt (by omega)
      have w1 : IntKind.i64.wrap 1 = 1 := by decide
      have hfl : ((l.take i).flatMap bX).length ≤ 64 * 12 := by rw [flatMap_len _ bX bX_len]; simp; omega
      obtain ⟨p, qq, o, cs, e1, pl, e2, e3⟩ := hs.at1G (f := fun x : Nat => V.int .u64 x) wf hlt
      have e2' := e2 h' gb
      simp [t14, t15, t16, hlt, e1, e2', e3]
      by_cases h0 : i = 0
      · subst h0
        simp [t2, t8]
        refine oneX_ct (s := []) (x := l[0]) (hf _ (List.getElem_mem _)) (by simp) _ ?_
        simp [t16]
        refine hK _ _ hlt ⟨?_, gb, wb, adjB_step ha hlt (by omega)⟩
        have := flatMap_take bX l hlt
        simp [t0, t1, t2, t14, t15]
        simpa [w1] using this.symm
      · obtain ⟨p', qq', o', cs', f1, pl', f2, f3⟩ := hs.at1G (f := fun x : Nat => V.int .u64 x) wf (show i - 1 < l.length by omega)
        have f2' := f2 h' gb
        have wm : IntKind.i64.wrap ((i : Int) - 1) = ((i - 1 : Nat) : Int) := by rw [wrap_i64_id (by omega) (by omega)]; omega
        have h0' : 0 < i := by omega
        simp [h0', t0, t1, wm, f1, f2', f3]
        refine cmp64_ct _ ?_
        by_cases hc : cmpI (l[i - 1] : Nat) (l[i] : Nat) < 0
        · have hc' : ¬ 0 ≤ cmpI (l[i - 1] : Nat) (l[i] : Nat) := by omega
          simp [hc', t2, t8]
          refine oneX_ct (x := l[i]) (hf _ (List.getElem_mem _)) (by omega) _ ?_
          simp [t16, hw]
          refine hK _ _ hlt ⟨?_, gb, wb, adjB_step ha hlt (fun _ => hc)⟩
          simp [t0, t1, t2, t14, t15, flatMap_take bX l hlt]
        · have hc' : 0 ≤ cmpI (l[i - 1] : Nat) (l[i] : Nat) := by omega
          simp [hc']
          rw [encR_no (adjB_false h0' hlt hc)]
          exact ⟨rfl, gb⟩
    · have : i = l.length := by omega
      subst this
      simp [t8, t15, t16]
      rw [encR_yes (by omega) (by simpa using ha)]
      exact ⟨rfl, gb⟩
theorem enccX_ct {h : H} {v : V} {l : List Nat} (hs : Sls h.get 1 v (l.map cX)) (hf : ∀ x ∈ l, x < 18446744073709551616) (hl : l.length ≤ 1000) : Pure Tryz.prog 20 [v] h (encR oN bX l) := by
  refine pure_to Tryz.func20 S.comm_EncodeExts_code S.comm_EncodeExts_enter (by exact encR_ids _ _ _) (Nat.le_of_ble_eq_true rfl) fun wf => ?_; simp only [S.comm_EncodeExts]
  simp
  refine laycX_ct hs hf hl _ ?_
  unfold encR
  split <;> simp

theorem laycL_ct {h : H} {v : V} {l : List Lg} (hs : Sls h.get 3 v (l.map cL)) (hf : ∀ x ∈ l, x.1 < 4294967296 ∧ x.2.1 < 4294967296 ∧ x.2.2 < 4294967296) (hl : l.length ≤ 1000) : Pure Tryz.prog 44 [v, .func (.func 35) [] [], .func (.func 45) [] []] h (encR oL bL l) := by
  refine pure_to Tryz.func44 S.comm_lay_api_Large_code S.comm_lay_api_Large_enter (by exact encR_ids _ _ _) (Nat.le_of_ble_eq_true rfl) fun wf => ?_; simp only [S.comm_lay_api_Large]
  have hlen := hs.len
  simp at hlen
  by_cases h64 : 64 < l.length
  · have h64' : (64 : Int) < l.length := by omega
    simp [hlen, h64', encR_long h64]
  · have h64' : ¬ (64 : Int) < l.length := by omega
    simp [hlen, h64']
    refine loop_up (fun i t h' => (t 0 = v ∧ t 1 = .func (.func 35) [] [] ∧ t 2 = .func (.func 45) [] [] ∧ t 8 = .str ((l.take i).flatMap bL) ∧ t 14 = v ∧ t 15 = .int .i64 l.length ∧ t 16 = .int .i64 (i : Nat)) ∧ Ge h h' ∧ h'.WF ∧ adjB oL (l.take i) = true) l.length ⟨by simp, Ge.refl _, wf, by simp [adjB]⟩ ?_
    rintro i t h' hi ⟨⟨t0, t1, t2, t8, t14, t15, t16⟩, gb, wb, ha⟩ K hK
    by_cases hlt : i < l.length
    · have hw := wrap_succ hlt (by omega)
      have w1 : IntKind.i64.wrap 1 = 1 := by decide
      have hfl : ((l.take i).flatMap bL).length ≤ 64 * 12 := by rw [flatMap_len _ bL bL_len]; simp; omega
      obtain ⟨p, qq, o, cs, e1, pl, e2, e3, e4, _⟩ := hs.atG wf (k := i) (by simpa using hlt)
      have e2' := e2 h' gb
      have e4' : (cs.drop o).take 3 = cL l[i] := by rw [e4]; simp
      obtain ⟨h2, hh2⟩ : ∃ h2, h2 = h'.push (.row (cL l[i])) := ⟨_, rfl⟩
      have g2 : Ge h h2 := by rw [hh2]; exact gb.push _
      have w2 : h2.WF := by rw [hh2]; exact wb.push _
      have c2 : cellsAt h2.get h'.next 3 = some (cL l[i]) := by rw [hh2]; simp [cL]
      have e2'' := e2 h2 g2
      simp only [cL] at e4' hh2 c2
      simp [t14, t15, t16, hlt, e1, e2', e3, e4']
      rw [H.push_set, ← hh2]
      by_cases h0 : i = 0
      · subst h0
        refine dreg_of ?_
        simp [t2, t8, c2]
        refine oneL_ct (s := []) (x := l[0]) (hf _ (List.getElem_mem _)) (by simp) _ ?_
        simp [t16]
        refine hK _ _ hlt ⟨?_, g2, w2, adjB_step ha hlt (by omega)⟩
        have := flatMap_take bL l hlt
        simp [t0, t1, t2, t14, t15]
        simpa [w1] using this.symm
      · obtain ⟨p', qq', o', cs', f1, pl', f2, f3, f4, _⟩ := hs.atG wf (k := i - 1) (by simp; omega)
        have f2' := f2 h2 g2
        have f4' : (cs'.drop o').take 3 = cL l[i - 1] := by rw [f4]; simp
        simp only [cL] at f4'
        have wm : IntKind.i64.wrap ((i : Int) - 1) = ((i - 1 : Nat) : Int) := by rw [wrap_i64_id (by omega) (by omega)]; omega
        have h0' : 0 < i := by omega
        refine dreg_of ?_
        simp [h0', t0, t1, wm, f1, f2', f3, f4', c2]
        refine scall_of (larger_ct (x := l[i - 1]) (y := l[i])) ?_
        by_cases hc : oL l[i - 1] l[i] < 0
        · have hc' : ¬ 0 ≤ oL l[i - 1] l[i] := by omega
          simp [hc', t2, t8, c2]
          refine oneL_ct (x := l[i]) (hf _ (List.getElem_mem _)) (by omega) _ ?_
          simp [t16, hw]
          refine hK _ _ hlt ⟨?_, g2, w2, adjB_step ha hlt (fun _ => hc)⟩
          simp [t0, t1, t2, t14, t15, flatMap_take bL l hlt]
        · have hc' : 0 ≤ oL l[i - 1] l[i] := by omega
          simp [hc']
          rw [encR_no (adjB_false h0' hlt hc)]
          exact ⟨rfl, g2⟩
    · have : i = l.length := by omega
      subst this
      simp [t8, t15, t16]
      rw [encR_yes (by omega) (by simpa using ha)]
      exact ⟨rfl, gb⟩
theorem enccL_ct {h : H} {v : V} {l : List Lg} (hs : Sls h.get 3 v (l.map cL)) (hf : ∀ x ∈ l, x.1 < 4294967296 ∧ x.2.1 < 4294967296 ∧ x.2.2 < 4294967296) (hl : l.length ≤ 1000) : Pure Tryz.prog 21 [v] h (encR oL bL l) := by
  refine pure_to Tryz.func21 S.comm_EncodeLarges_code S.comm_EncodeLarges_enter (by exact encR_ids _ _ _) (Nat.le_of_ble_eq_true rfl) fun wf => ?_; simp only [S.comm_EncodeLarges]
  simp
  refine laycL_ct hs hf hl _ ?_
  unfold encR
  split <;> simp
end Go.Am

/-
  Contracts: lists sorted, read from bytes (written by program, wip/comm/CR2.py).
-/
namespace Go.Am
open Go.Proofs

set_option maxRecDepth 100000
open Go.Sort in
theorem swo_of {α : Type} {c : α → α → Int} (o : Ordr c) : SWO (ltOf c) := by
  refine ⟨fun x => ?_, fun x y z h1 h2 => ?_, fun x y z h1 h2 => ?_⟩
  · simp [ltOf, o.self x]
  · simp only [ltOf, decide_eq_true_eq] at *
    exact o.down _ _ _ h1 h2
  · simp only [ltOf, decide_eq_false_iff_not] at *
    intro h
    have a := o.anti x y
    rcases Int.lt_trichotomy (c y x) 0 with k | k | k
    · exact h2 (o.down y x z k h)
    · have := o.same y x z k; omega
    · omega
theorem flat_one {α : Type} (f : α → V) : ∀ m : List α, (m.map fun x => [f x]).flatten = m.map f
  | [] => rfl
  | a :: m => by simp [flat_one f m]
theorem take4p_ct {h : H} {i : Nat} {l : List UInt8} (r : h.get i = some (rdr l)) (hn : 4 ≤ l.length) {Q : V → H → Prop} (q : Q (.int .u32 (fP (l.take 4) : Nat)) (h.set i (rdr (l.drop 4)))) : Acalls Tryz.prog 28 [.ptr i 2 0] h Q := take4_ct r hn q
theorem chop_mem {α : Type} (k : Nat) (f : List UInt8 → α) : ∀ n s x, x ∈ chop k f n s → ∃ t : List UInt8, t.length ≤ k ∧ x = f t
  | 0, _, _, h => by simp [chop] at h
  | n + 1, s, x, h => by
    rw [chop, List.mem_cons] at h
    rcases h with rfl | h
    · exact ⟨_, by simp; omega, rfl⟩
    · exact chop_mem k f n _ x h

theorem sortP_ct {h : H} {j : Nat} {l : List Nat} (hg : h.get j = some (.grow 1 (l.map cP).flatten)) (hl : l.length ≤ 140737488355328) (hne : l ≠ []) {Q : V → H → Prop}
    (q : ∀ l' : List Nat, l'.Perm l → l'.Pairwise (fun x y => ¬ oN y x < 0) → Q (.tup []) (h.set j (.grow 1 (l'.map cP).flatten))) :
    Acalls Tryz.prog 56 [.sl j (l.length) 0 l.length none, .func (.func 27) [] []] h Q := by
  have fl := flat_one (fun x : Nat => V.int .u32 x) l
  have S : SortIn h j l.length 0 1 (l.map fun x : Nat => [V.int .u32 x]) (.grow 1 (l.map cP).flatten) := ⟨hg, rfl, by rw [len_grow]; show ((l.map fun x : Nat => [V.int .u32 x]).flatten).length = _; rw [fl]; simp, by show 0 + (l.map fun x : Nat => [V.int .u32 x]).length * 1 ≤ ((l.map fun x : Nat => [V.int .u32 x]).flatten).length; rw [fl]; simp, by simp only [cells_grow, List.drop_zero, List.length_map]; rw [List.take_of_length_le (by show ((l.map fun x : Nat => [V.int .u32 x]).flatten).length ≤ _; rw [fl]; simp)]; rfl, by simp, by simp⟩
  refine sort1_ct Tryz.sort56 (F := 56) (g := 27) rfl (by kernel_rfl) S (encV := fun x : Nat => V.int .u32 x) (cmpB := oN) (swo_of ordr_n) (fun x _ => rfl) (by kernel_rfl) rfl (by omega) (List.length_pos_iff.2 hne) (fun x _ y _ h' => cmp32_ct) (fun l' o' hp hs ho => ?_)
  have hle := hp.length_eq
  have fl' := flat_one (fun x : Nat => V.int .u32 x) l'
  have e : o' = .grow 1 (l'.map cP).flatten := by
    have hcl : ((l.map cP).flatten).length = l.length := by show ((l.map fun x : Nat => [V.int .u32 x]).flatten).length = _; rw [fl]; simp
    rw [put_grow, if_pos (by rw [hcl, List.length_map, hle]; omega)] at ho
    cases ho
    unfold putCells
    rw [List.take_zero, List.nil_append, List.drop_of_length_le (by rw [hcl, List.length_map, hle]; omega), List.append_nil]
    show _ = O.grow 1 ((l'.map fun x : Nat => [V.int .u32 x]).flatten)
    rw [fl']
  rw [e]
  refine q l' hp (hs.imp fun {x y} hxy => ?_)
  simpa [ltOf] using hxy
/-- Such a list read. -/
theorem readP_ct {h : H} {s : List UInt8} (hl : s.length ≤ 140737488351232) {Q : V → H → Prop}
    (q : ∀ v' h', Ge h h' → h'.WF → Sls h'.get 1 v' ((decL oN 4 fP s).1.map cP) → Q (.tup [v', .int .i64 (decL oN 4 fP s).2]) h') : Acalls Tryz.prog 26 [.str s, .int .i64 4, .func (.func 27) [] [], .func (.func 28) [] []] h Q := by
  refine acalls_to Tryz.func26 S.comm_read_uint32_code S.comm_read_uint32_enter (Nat.le_of_ble_eq_true rfl) fun wf => ?_; simp only [S.comm_read_uint32]
  have nilS : Sls h.get 1 .nilsl (([] : List Nat).map cP) := ⟨.inl ⟨rfl, .inl rfl⟩, by simp, rfl, by simp⟩
  by_cases h0 : s = []
  · have hd : decL oN 4 fP s = ([], 4) := if_pos (.inl (by simp [h0]))
    subst h0
    rw [hd] at q
    simp
    exact q _ _ (Ge.refl _) wf nilS
  · have hlen0 : 0 < s.length := List.length_pos_iff.2 h0
    by_cases hm : s.length % 4 = 0
    · have hrem : intV .rem .i64 (s.length : Int) 4 = some (.int .i64 0) := by
        show (if (4 : Int) = 0 then none else some (V.int .i64 ((s.length : Int).tmod 4))) = _
        rw [if_neg (by decide), Int.tmod_eq_emod_of_nonneg (by omega)]; congr 2; omega
      have b0 : (s == []) = false := by simpa using h0
      obtain ⟨n, hn⟩ : ∃ n, n = s.length / 4 := ⟨_, rfl⟩
      have hnk : s.length = n * 4 := by omega
      have hd : decL oN 4 fP s = if 64 < (putsL oN (chop 4 fP n s)).length then ([], 3) else (putsL oN (chop 4 fP n s), 0) := by
        unfold decL
        rw [if_neg (by omega), hn]
      simp [b0, hrem]
      refine new_ct ?_
      simp
      obtain ⟨h1, hh1⟩ : ∃ h1, h1 = h.push (rdr s) := ⟨_, rfl⟩
      have g1 : Ge h h1 := by rw [hh1]; exact (Ge.refl _).push _
      have w1 : h1.WF := by rw [hh1]; exact wf.push _
      have n1 : h1.next = h.next + 1 := by rw [hh1]; simp
      have r1 : h1.get h.next = some (rdr s) := by rw [hh1]; simp
      rw [← hh1]
      refine loop_up (fun i t h' => ∃ v, (t 1 = .int .i64 4 ∧ t 2 = .func (.func 27) [] [] ∧ t 3 = .func (.func 28) [] [] ∧ t 10 = .ptr h.next 2 0 ∧ t 11 = v) ∧ Ge h h' ∧ h'.WF ∧ h1.next ≤ h'.next ∧ h'.get h.next = some (rdr (s.drop (i * 4))) ∧ Gl h' h1.next 1 v ((chop 4 fP i s).map cP)) n ⟨.nilsl, by simp, g1, w1, Nat.le_refl _, by simpa using r1, Gl.nil _ _ _⟩ ?_
      rintro i t h' hi ⟨v, ⟨t1, t2, t3, t10, t11⟩, gb, wb, nb, rb, gl⟩ K hK
      simp [t10]
      refine left_ct rb _ ?_
      by_cases hlt : i < n
      · have hle : 4 ≤ (s.drop (i * 4)).length := by
          rw [List.length_drop, hnk, ← Nat.sub_mul]
          have := Nat.mul_le_mul_right 4 (show 1 ≤ n - i by omega)
          omega
        obtain ⟨sl, hsl⟩ : ∃ sl, sl = (s.drop (i * 4)).length := ⟨_, rfl⟩
        rw [← hsl] at hle ⊢
        have hleI : (4 : Int) ≤ (sl : Nat) := by omega
        simp [t1, hleI, t3, t10, t11]
        refine take4p_ct rb (by rw [← hsl]; exact hle) ?_
        rw [List.drop_drop]
        obtain ⟨h2, hh2⟩ : ∃ h2, h2 = h'.set h.next (rdr (s.drop (i * 4 + 4))) := ⟨_, rfl⟩
        rw [← hh2]
        have hx : h.next < h'.next := by omega
        have g2 : Ge h h2 := by rw [hh2]; exact gb.set (Nat.le_refl _) _
        have w2 : h2.WF := by rw [hh2]; exact wb.set hx _
        have gl2 : Gl h2 h1.next 1 v ((chop 4 fP i s).map cP) := by
          refine gl.keep (by rw [hh2]; simp) fun x hx => ?_
          have := (gl.lo x hx).1
          rw [hh2, H.get_set, if_neg (by omega)]
        have n2 : h2.next = h'.next := by rw [hh2]; simp
        have rb2 : h2.get h.next = some (rdr (s.drop (i * 4 + 4))) := by rw [hh2]; simp
        obtain ⟨y, hy⟩ : ∃ y, y = fP ((s.drop (i * 4)).take 4) := ⟨_, rfl⟩
        rw [← hy]
        have gl3 : Gl (h2.push (.row (cP y))) h1.next 1 v ((chop 4 fP i s).map cP) := gl2.keep (by simp) fun x hx => by
          have := (gl2.lo x hx).2
          rw [H.get_push, if_neg (by omega)]
        obtain ⟨v', d, ea, gl4, hn4, hk4, hw4⟩ := gl3.append (bytes := 4) (x := .sl h2.next 1 0 1 (some 1)) (e := cP y) (by simp; omega) (map_lenc cP_len _) (cP_len y) (by simp [elemsV_sl, cP]) rfl (by decide) (by simp [chop_len]; omega) (by simp [chop_len]; omega)
        simp only [cP, H.next_push] at ea
        simp [ea]
        have hk5 := hk4 h.next (fun hx => by have := (gl2.lo _ hx).1; omega) (by simp; omega)
        refine hK _ _ hlt ⟨v', by simp [t1, t2, t3, t10], ?_, ?_, ?_, ?_, ?_⟩
        · refine ⟨Nat.le_trans g2.1 (Nat.le_trans (by simp) hn4), fun x hx => ?_⟩
          simp only [cP] at hk4
          rw [hk4 x (fun hx2 => by have := (gl2.lo _ hx2).1; omega) (by have := g2.1; simp; omega), H.get_push, if_neg (by have := g2.1; omega)]
          exact g2.2 x hx
        · exact hw4 (w2.push _)
        · have h9 := hn4; simp only [cP] at h9; simp only [H.next_push] at h9; omega
        · simp only [cP] at hk5
          rw [hk5, H.get_push, if_neg (by omega), rb2, Nat.add_mul, Nat.one_mul]
        · rw [chop_snoc, List.map_append, List.map_cons, List.map_nil, ← hy]
          exact gl4
      · have hie : i = n := by omega
        subst hie
        have hsd : (s.drop (i * 4)).length = 0 := by rw [List.length_drop]; omega
        have hne : chop 4 fP i s ≠ [] := fun e => by have := chop_len 4 fP i s; rw [e] at this; simp at this; omega
        obtain ⟨l, hlq⟩ : ∃ l, l = chop 4 fP i s := ⟨_, rfl⟩
        have hll : l.length = i := by rw [hlq, chop_len]
        rw [← hlq] at gl hne hd
        rcases gl with ⟨e, _⟩ | ⟨_, j, hj1, hj2, hv, hg⟩
        · exact absurd (by simpa using e) hne
        have hflat : ((l.map cP).flatten).length = l.length * 1 := by have := flat_len (map_lenc cP_len l); simpa using this
        rw [hflat, List.length_map] at hv
        subst hv
        rw [hsd]
        simp [t1, t2, t11]
        refine sortP_ct hg (by omega) hne fun l' hp hs => ?_
        have hl'l := hp.length_eq
        have hne' : l' ≠ [] := fun e => by rw [e] at hl'l; simp at hl'l; exact hne (List.eq_nil_of_length_eq_zero (by omega))
        obtain ⟨h5, hh5⟩ : ∃ h5, h5 = h'.set j (.grow 1 (l'.map cP).flatten) := ⟨_, rfl⟩
        have w5 : h5.WF := by rw [hh5]; exact wb.set hj2 _
        have g5 : Ge h h5 := by rw [hh5]; exact gb.set (by omega) _
        rw [← hh5]
        simp [t11]
        have hcp := compact_puts ordr_n oN_eq hp hs
        have e5 : h5.get j = some (.grow 1 (l'.map cP).flatten) := by rw [hh5]; simp
        rw [← hl'l]
        refine compactP_ct e5 (by omega) hne' fun v6 h6 k6 n6 w6 s6 _ => ?_
        rw [hcp] at s6
        have g6 : Ge h h6 := ⟨by rw [n6]; exact g5.1, fun x hx => by rw [k6 x (by omega)]; exact g5.2 x hx⟩
        have hl6 := s6.len
        simp only [List.length_map] at hl6
        simp [hl6]
        by_cases hb : 64 < (putsL oN l).length
        · have hb' : (64 : Int) < (putsL oN l).length := by omega
          rw [if_pos hb] at hd
          rw [hd] at q
          simp [hb']
          exact q _ _ g6 w6 ⟨.inl ⟨rfl, .inl rfl⟩, by simp, rfl, by simp⟩
        · have hb' : ¬ (64 : Int) < (putsL oN l).length := by omega
          rw [if_neg hb] at hd
          rw [hd] at q
          simp [hb']
          exact q _ _ g6 w6 s6
    · have hrem : intV .rem .i64 (s.length : Int) 4 = some (.int .i64 ((s.length % 4 : Nat) : Int)) := by
        show (if (4 : Int) = 0 then none else some (V.int .i64 ((s.length : Int).tmod 4))) = _
        rw [if_neg (by decide), Int.tmod_eq_emod_of_nonneg (by omega)]; rfl
      obtain ⟨m, hmm⟩ : ∃ m, m = s.length % 4 := ⟨_, rfl⟩
      rw [← hmm] at hrem hm
      have b0 : (s == []) = false := by simpa using h0
      have b1 : ((m : Int) != 0) = true := bne_iff_ne.2 (by omega)
      have hd : decL oN 4 fP s = ([], 4) := if_pos (.inr (by rw [← hmm]; exact hm))
      rw [hd] at q
      simp [b0, hrem, b1]
      exact q _ _ (Ge.refl _) wf nilS
theorem decP_ct {h : H} {s : List UInt8} (hl : s.length ≤ 140737488351232) {Q : V → H → Prop}
    (q : ∀ v' h', Ge h h' → h'.WF → Sls h'.get 1 v' ((decL oN 4 fP s).1.map cP) → Q (.tup [v', .int .i64 (decL oN 4 fP s).2]) h') : Acalls Tryz.prog 6 [.str s] h Q := by
  refine acalls_to Tryz.func6 S.comm_Decode_code S.comm_Decode_enter (Nat.le_of_ble_eq_true rfl) fun wf => ?_; simp only [S.comm_Decode]
  simp
  refine readP_ct hl fun v' h' g w s => ?_
  simp
  exact q v' h' g w s

theorem sortX_ct {h : H} {j : Nat} {l : List Nat} (hg : h.get j = some (.grow 1 (l.map cX).flatten)) (hl : l.length ≤ 140737488355328) (hne : l ≠ []) {Q : V → H → Prop}
    (q : ∀ l' : List Nat, l'.Perm l → l'.Pairwise (fun x y => ¬ oN y x < 0) → Q (.tup []) (h.set j (.grow 1 (l'.map cX).flatten))) :
    Acalls Tryz.prog 61 [.sl j (l.length) 0 l.length none, .func (.func 32) [] []] h Q := by
  have fl := flat_one (fun x : Nat => V.int .u64 x) l
  have S : SortIn h j l.length 0 1 (l.map fun x : Nat => [V.int .u64 x]) (.grow 1 (l.map cX).flatten) := ⟨hg, rfl, by rw [len_grow]; show ((l.map fun x : Nat => [V.int .u64 x]).flatten).length = _; rw [fl]; simp, by show 0 + (l.map fun x : Nat => [V.int .u64 x]).length * 1 ≤ ((l.map fun x : Nat => [V.int .u64 x]).flatten).length; rw [fl]; simp, by simp only [cells_grow, List.drop_zero, List.length_map]; rw [List.take_of_length_le (by show ((l.map fun x : Nat => [V.int .u64 x]).flatten).length ≤ _; rw [fl]; simp)]; rfl, by simp, by simp⟩
  refine sort1_ct Tryz.sort61 (F := 61) (g := 32) rfl (by kernel_rfl) S (encV := fun x : Nat => V.int .u64 x) (cmpB := oN) (swo_of ordr_n) (fun x _ => rfl) (by kernel_rfl) rfl (by omega) (List.length_pos_iff.2 hne) (fun x _ y _ h' => cmp64_ct) (fun l' o' hp hs ho => ?_)
  have hle := hp.length_eq
  have fl' := flat_one (fun x : Nat => V.int .u64 x) l'
  have e : o' = .grow 1 (l'.map cX).flatten := by
    have hcl : ((l.map cX).flatten).length = l.length := by show ((l.map fun x : Nat => [V.int .u64 x]).flatten).length = _; rw [fl]; simp
    rw [put_grow, if_pos (by rw [hcl, List.length_map, hle]; omega)] at ho
    cases ho
    unfold putCells
    rw [List.take_zero, List.nil_append, List.drop_of_length_le (by rw [hcl, List.length_map, hle]; omega), List.append_nil]
    show _ = O.grow 1 ((l'.map fun x : Nat => [V.int .u64 x]).flatten)
    rw [fl']
  rw [e]
  refine q l' hp (hs.imp fun {x y} hxy => ?_)
  simpa [ltOf] using hxy
/-- Such a list read. -/
theorem readX_ct {h : H} {s : List UInt8} (hl : s.length ≤ 140737488351232) {Q : V → H → Prop}
    (q : ∀ v' h', Ge h h' → h'.WF → Sls h'.get 1 v' ((decL oN 8 fX s).1.map cX) → Q (.tup [v', .int .i64 (decL oN 8 fX s).2]) h') : Acalls Tryz.prog 31 [.str s, .int .i64 8, .func (.func 32) [] [], .func (.func 33) [] []] h Q := by
  refine acalls_to Tryz.func31 S.comm_read_uint64_code S.comm_read_uint64_enter (Nat.le_of_ble_eq_true rfl) fun wf => ?_; simp only [S.comm_read_uint64]
  have nilS : Sls h.get 1 .nilsl (([] : List Nat).map cX) := ⟨.inl ⟨rfl, .inl rfl⟩, by simp, rfl, by simp⟩
  by_cases h0 : s = []
  · have hd : decL oN 8 fX s = ([], 4) := if_pos (.inl (by simp [h0]))
    subst h0
    rw [hd] at q
    simp
    exact q _ _ (Ge.refl _) wf nilS
  · have hlen0 : 0 < s.length := List.length_pos_iff.2 h0
    by_cases hm : s.length % 8 = 0
    · have hrem : intV .rem .i64 (s.length : Int) 8 = some (.int .i64 0) := by
        show (if (8 : Int) = 0 then none else some (V.int .i64 ((s.length : Int).tmod 8))) = _
        rw [if_neg (by decide), Int.tmod_eq_emod_of_nonneg (by omega)]; congr 2; omega
      have b0 : (s == []) = false := by simpa using h0
      obtain ⟨n, hn⟩ : ∃ n, n = s.length / 8 := ⟨_, rfl⟩
      have hnk : s.length = n * 8 := by omega
      have hd : decL oN 8 fX s = if 64 < (putsL oN (chop 8 fX n s)).length then ([], 3) else (putsL oN (chop 8 fX n s), 0) := by
        unfold decL
        rw [if_neg (by omega), hn]
      simp [b0, hrem]
      refine new_ct ?_
      simp
      obtain ⟨h1, hh1⟩ : ∃ h1, h1 = h.push (rdr s) := ⟨_, rfl⟩
      have g1 : Ge h h1 := by rw [hh1]; exact (Ge.refl _).push _
      have w1 : h1.WF := by rw [hh1]; exact wf.push _
      have n1 : h1.next = h.next + 1 := by rw [hh1]; simp
      have r1 : h1.get h.next = some (rdr s) := by rw [hh1]; simp
      rw [← hh1]
      refine loop_up (fun i t h' => ∃ v, (t 1 = .int .i64 8 ∧ t 2 = .func (.func 32) [] [] ∧ t 3 = .func (.func 33) [] [] ∧ t 10 = .ptr h.next 2 0 ∧ t 11 = v) ∧ Ge h h' ∧ h'.WF ∧ h1.next ≤ h'.next ∧ h'.get h.next = some (rdr (s.drop (i * 8))) ∧ Gl h' h1.next 1 v ((chop 8 fX i s).map cX)) n ⟨.nilsl, by simp, g1, w1, Nat.le_refl _, by simpa using r1, Gl.nil _ _ _⟩ ?_
      rintro i t h' hi ⟨v, ⟨t1, t2, t3, t10, t11⟩, gb, wb, nb, rb, gl⟩ K hK
      simp [t10]
      refine left_ct rb _ ?_
      by_cases hlt : i < n
      · have hle : 8 ≤ (s.drop (i * 8)).length := by
          rw [List.length_drop, hnk, ← Nat.sub_mul]
          have := Nat.mul_le_mul_right 8 (show 1 ≤ n - i by omega)
          omega
        obtain ⟨sl, hsl⟩ : ∃ sl, sl = (s.drop (i * 8)).length := ⟨_, rfl⟩
        rw [← hsl] at hle ⊢
        have hleI : (8 : Int) ≤ (sl : Nat) := by omega
        simp [t1, hleI, t3, t10, t11]
        refine oneX8_ct rb (by rw [← hsl]; exact hle) ?_
        rw [List.drop_drop]
        obtain ⟨h2, hh2⟩ : ∃ h2, h2 = h'.set h.next (rdr (s.drop (i * 8 + 8))) := ⟨_, rfl⟩
        rw [← hh2]
        have hx : h.next < h'.next := by omega
        have g2 : Ge h h2 := by rw [hh2]; exact gb.set (Nat.le_refl _) _
        have w2 : h2.WF := by rw [hh2]; exact wb.set hx _
        have gl2 : Gl h2 h1.next 1 v ((chop 8 fX i s).map cX) := by
          refine gl.keep (by rw [hh2]; simp) fun x hx => ?_
          have := (gl.lo x hx).1
          rw [hh2, H.get_set, if_neg (by omega)]
        have n2 : h2.next = h'.next := by rw [hh2]; simp
        have rb2 : h2.get h.next = some (rdr (s.drop (i * 8 + 8))) := by rw [hh2]; simp
        obtain ⟨y, hy⟩ : ∃ y, y = fX ((s.drop (i * 8)).take 8) := ⟨_, rfl⟩
        rw [← hy]
        have gl3 : Gl (h2.push (.row (cX y))) h1.next 1 v ((chop 8 fX i s).map cX) := gl2.keep (by simp) fun x hx => by
          have := (gl2.lo x hx).2
          rw [H.get_push, if_neg (by omega)]
        obtain ⟨v', d, ea, gl4, hn4, hk4, hw4⟩ := gl3.append (bytes := 8) (x := .sl h2.next 1 0 1 (some 1)) (e := cX y) (by simp; omega) (map_lenc cX_len _) (cX_len y) (by simp [elemsV_sl, cX]) rfl (by decide) (by simp [chop_len]; omega) (by simp [chop_len]; omega)
        simp only [cX, H.next_push] at ea
        simp [ea]
        have hk5 := hk4 h.next (fun hx => by have := (gl2.lo _ hx).1; omega) (by simp; omega)
        refine hK _ _ hlt ⟨v', by simp [t1, t2, t3, t10], ?_, ?_, ?_, ?_, ?_⟩
        · refine ⟨Nat.le_trans g2.1 (Nat.le_trans (by simp) hn4), fun x hx => ?_⟩
          simp only [cX] at hk4
          rw [hk4 x (fun hx2 => by have := (gl2.lo _ hx2).1; omega) (by have := g2.1; simp; omega), H.get_push, if_neg (by have := g2.1; omega)]
          exact g2.2 x hx
        · exact hw4 (w2.push _)
        · have h9 := hn4; simp only [cX] at h9; simp only [H.next_push] at h9; omega
        · simp only [cX] at hk5
          rw [hk5, H.get_push, if_neg (by omega), rb2, Nat.add_mul, Nat.one_mul]
        · rw [chop_snoc, List.map_append, List.map_cons, List.map_nil, ← hy]
          exact gl4
      · have hie : i = n := by omega
        subst hie
        have hsd : (s.drop (i * 8)).length = 0 := by rw [List.length_drop]; omega
        have hne : chop 8 fX i s ≠ [] := fun e => by have := chop_len 8 fX i s; rw [e] at this; simp at this; omega
        obtain ⟨l, hlq⟩ : ∃ l, l = chop 8 fX i s := ⟨_, rfl⟩
        have hll : l.length = i := by rw [hlq, chop_len]
        rw [← hlq] at gl hne hd
        rcases gl with ⟨e, _⟩ | ⟨_, j, hj1, hj2, hv, hg⟩
        · exact absurd (by simpa using e) hne
        have hflat : ((l.map cX).flatten).length = l.length * 1 := by have := flat_len (map_lenc cX_len l); simpa using this
        rw [hflat, List.length_map] at hv
        subst hv
        rw [hsd]
        simp [t1, t2, t11]
        refine sortX_ct hg (by omega) hne fun l' hp hs => ?_
        have hl'l := hp.length_eq
        have hne' : l' ≠ [] := fun e => by rw [e] at hl'l; simp at hl'l; exact hne (List.eq_nil_of_length_eq_zero (by omega))
        obtain ⟨h5, hh5⟩ : ∃ h5, h5 = h'.set j (.grow 1 (l'.map cX).flatten) := ⟨_, rfl⟩
        have w5 : h5.WF := by rw [hh5]; exact wb.set hj2 _
        have g5 : Ge h h5 := by rw [hh5]; exact gb.set (by omega) _
        rw [← hh5]
        simp [t11]
        have hcp := compact_puts ordr_n oN_eq hp hs
        have e5 : h5.get j = some (.grow 1 (l'.map cX).flatten) := by rw [hh5]; simp
        rw [← hl'l]
        refine compactX_ct e5 (by omega) hne' fun v6 h6 k6 n6 w6 s6 _ => ?_
        rw [hcp] at s6
        have g6 : Ge h h6 := ⟨by rw [n6]; exact g5.1, fun x hx => by rw [k6 x (by omega)]; exact g5.2 x hx⟩
        have hl6 := s6.len
        simp only [List.length_map] at hl6
        simp [hl6]
        by_cases hb : 64 < (putsL oN l).length
        · have hb' : (64 : Int) < (putsL oN l).length := by omega
          rw [if_pos hb] at hd
          rw [hd] at q
          simp [hb']
          exact q _ _ g6 w6 ⟨.inl ⟨rfl, .inl rfl⟩, by simp, rfl, by simp⟩
        · have hb' : ¬ (64 : Int) < (putsL oN l).length := by omega
          rw [if_neg hb] at hd
          rw [hd] at q
          simp [hb']
          exact q _ _ g6 w6 s6
    · have hrem : intV .rem .i64 (s.length : Int) 8 = some (.int .i64 ((s.length % 8 : Nat) : Int)) := by
        show (if (8 : Int) = 0 then none else some (V.int .i64 ((s.length : Int).tmod 8))) = _
        rw [if_neg (by decide), Int.tmod_eq_emod_of_nonneg (by omega)]; rfl
      obtain ⟨m, hmm⟩ : ∃ m, m = s.length % 8 := ⟨_, rfl⟩
      rw [← hmm] at hrem hm
      have b0 : (s == []) = false := by simpa using h0
      have b1 : ((m : Int) != 0) = true := bne_iff_ne.2 (by omega)
      have hd : decL oN 8 fX s = ([], 4) := if_pos (.inr (by rw [← hmm]; exact hm))
      rw [hd] at q
      simp [b0, hrem, b1]
      exact q _ _ (Ge.refl _) wf nilS
theorem decX_ct {h : H} {s : List UInt8} (hl : s.length ≤ 140737488351232) {Q : V → H → Prop}
    (q : ∀ v' h', Ge h h' → h'.WF → Sls h'.get 1 v' ((decL oN 8 fX s).1.map cX) → Q (.tup [v', .int .i64 (decL oN 8 fX s).2]) h') : Acalls Tryz.prog 9 [.str s] h Q := by
  refine acalls_to Tryz.func9 S.comm_DecodeExts_code S.comm_DecodeExts_enter (Nat.le_of_ble_eq_true rfl) fun wf => ?_; simp only [S.comm_DecodeExts]
  simp
  refine readX_ct hl fun v' h' g w s => ?_
  simp
  exact q v' h' g w s

theorem sortL_ct {h : H} {j : Nat} {l : List Lg} (hg : h.get j = some (.grow 3 (l.map cL).flatten)) (hl : l.length ≤ 140737488355328) (hne : l ≠ []) {Q : V → H → Prop}
    (q : ∀ l' : List Lg, l'.Perm l → l'.Pairwise (fun x y => ¬ oL y x < 0) → Q (.tup []) (h.set j (.grow 3 (l'.map cL).flatten))) :
    Acalls Tryz.prog 64 [.sl j (l.length * 3) 0 l.length none, .func (.func 35) [] []] h Q := by
  have hfl := flat_len (map_lenc cL_len l)
  simp only [List.length_map] at hfl
  have S : SortIn h j (l.length * 3) 0 3 (l.map cL) (.grow 3 (l.map cL).flatten) := ⟨hg, rfl, by rw [len_grow]; exact hfl, by simp [hfl], by simp only [cells_grow, List.drop_zero, List.length_map]; rw [← hfl, List.take_length], map_lenc cL_len l, fun e he => by obtain ⟨x, _, rfl⟩ := List.mem_map.1 he; rfl⟩
  refine sortK_ct Tryz.sort64 (F := 64) (g := 35) (k := 3) rfl (by kernel_rfl) Tryz.isAgg44 Tryz.sizeOf44 (by decide) S (encV := cL) (shV := cL) (cmpB := oL) (swo_of ordr_l) (fun x _ => WeakL.same (fun v hv => by simp [cL] at hv; rcases hv with rfl | rfl | rfl <;> rfl)) (by kernel_rfl) rfl (by omega) (List.length_pos_iff.2 hne) (fun x _ y _ h' => larger_ct) (fun l' o' hp hs ho => ?_)
  have hle := hp.length_eq
  have hfl' := flat_len (map_lenc cL_len l')
  simp only [List.length_map] at hfl'
  have e : o' = .grow 3 (l'.map cL).flatten := by
    rw [put_grow, if_pos (by rw [hfl', hfl, hle]; omega)] at ho
    cases ho
    unfold putCells
    rw [List.take_zero, List.nil_append, List.drop_of_length_le (by rw [hfl', hfl, hle]; omega), List.append_nil]
  rw [e]
  refine q l' hp (hs.imp fun {x y} hxy => ?_)
  simpa [ltOf] using hxy
/-- Such a list read. -/
theorem readL_ct {h : H} {s : List UInt8} (hl : s.length ≤ 140737488351232) {Q : V → H → Prop}
    (q : ∀ v' h', Ge h h' → h'.WF → Sls h'.get 3 v' ((decL oL 12 fL s).1.map cL) → Q (.tup [v', .int .i64 (decL oL 12 fL s).2]) h') : Acalls Tryz.prog 34 [.str s, .int .i64 12, .func (.func 35) [] [], .func (.func 36) [] []] h Q := by
  refine acalls_to Tryz.func34 S.comm_read_api_Large_code S.comm_read_api_Large_enter (Nat.le_of_ble_eq_true rfl) fun wf => ?_; simp only [S.comm_read_api_Large]
  have nilS : Sls h.get 3 .nilsl (([] : List Lg).map cL) := ⟨.inl ⟨rfl, .inl rfl⟩, by simp, rfl, by simp⟩
  by_cases h0 : s = []
  · have hd : decL oL 12 fL s = ([], 4) := if_pos (.inl (by simp [h0]))
    subst h0
    rw [hd] at q
    simp
    exact q _ _ (Ge.refl _) wf nilS
  · have hlen0 : 0 < s.length := List.length_pos_iff.2 h0
    by_cases hm : s.length % 12 = 0
    · have hrem : intV .rem .i64 (s.length : Int) 12 = some (.int .i64 0) := by
        show (if (12 : Int) = 0 then none else some (V.int .i64 ((s.length : Int).tmod 12))) = _
        rw [if_neg (by decide), Int.tmod_eq_emod_of_nonneg (by omega)]; congr 2; omega
      have b0 : (s == []) = false := by simpa using h0
      obtain ⟨n, hn⟩ : ∃ n, n = s.length / 12 := ⟨_, rfl⟩
      have hnk : s.length = n * 12 := by omega
      have hd : decL oL 12 fL s = if 64 < (putsL oL (chop 12 fL n s)).length then ([], 3) else (putsL oL (chop 12 fL n s), 0) := by
        unfold decL
        rw [if_neg (by omega), hn]
      simp [b0, hrem]
      refine new_ct ?_
      simp
      obtain ⟨h1, hh1⟩ : ∃ h1, h1 = h.push (rdr s) := ⟨_, rfl⟩
      have g1 : Ge h h1 := by rw [hh1]; exact (Ge.refl _).push _
      have w1 : h1.WF := by rw [hh1]; exact wf.push _
      have n1 : h1.next = h.next + 1 := by rw [hh1]; simp
      have r1 : h1.get h.next = some (rdr s) := by rw [hh1]; simp
      rw [← hh1]
      refine loop_up (fun i t h' => ∃ v, (t 1 = .int .i64 12 ∧ t 2 = .func (.func 35) [] [] ∧ t 3 = .func (.func 36) [] [] ∧ t 10 = .ptr h.next 2 0 ∧ t 11 = v) ∧ Ge h h' ∧ h'.WF ∧ h1.next ≤ h'.next ∧ h'.get h.next = some (rdr (s.drop (i * 12))) ∧ Gl h' h1.next 3 v ((chop 12 fL i s).map cL)) n ⟨.nilsl, by simp, g1, w1, Nat.le_refl _, by simpa using r1, Gl.nil _ _ _⟩ ?_
      rintro i t h' hi ⟨v, ⟨t1, t2, t3, t10, t11⟩, gb, wb, nb, rb, gl⟩ K hK
      simp [t10]
      refine left_ct rb _ ?_
      by_cases hlt : i < n
      · have hle : 12 ≤ (s.drop (i * 12)).length := by
          rw [List.length_drop, hnk, ← Nat.sub_mul]
          have := Nat.mul_le_mul_right 12 (show 1 ≤ n - i by omega)
          omega
        obtain ⟨sl, hsl⟩ : ∃ sl, sl = (s.drop (i * 12)).length := ⟨_, rfl⟩
        rw [← hsl] at hle ⊢
        have hleI : (12 : Int) ≤ (sl : Nat) := by omega
        simp [t1, hleI, t3, t10, t11]
        refine oneL12_ct rb (by rw [← hsl]; exact hle) ?_
        rw [List.drop_drop]
        obtain ⟨h2, hh2⟩ : ∃ h2, h2 = h'.set h.next (rdr (s.drop (i * 12 + 12))) := ⟨_, rfl⟩
        rw [← hh2]
        have hx : h.next < h'.next := by omega
        have g2 : Ge h h2 := by rw [hh2]; exact gb.set (Nat.le_refl _) _
        have w2 : h2.WF := by rw [hh2]; exact wb.set hx _
        have gl2 : Gl h2 h1.next 3 v ((chop 12 fL i s).map cL) := by
          refine gl.keep (by rw [hh2]; simp) fun x hx => ?_
          have := (gl.lo x hx).1
          rw [hh2, H.get_set, if_neg (by omega)]
        have n2 : h2.next = h'.next := by rw [hh2]; simp
        have rb2 : h2.get h.next = some (rdr (s.drop (i * 12 + 12))) := by rw [hh2]; simp
        obtain ⟨y, hy⟩ : ∃ y, y = fL ((s.drop (i * 12)).take 12) := ⟨_, rfl⟩
        rw [← hy]
        have gl3 : Gl (h2.push (.row (cL y))) h1.next 3 v ((chop 12 fL i s).map cL) := gl2.keep (by simp) fun x hx => by
          have := (gl2.lo x hx).2
          rw [H.get_push, if_neg (by omega)]
        obtain ⟨v', d, ea, gl4, hn4, hk4, hw4⟩ := gl3.append (bytes := 12) (x := .sl h2.next 3 0 1 (some 1)) (e := cL y) (by simp; omega) (map_lenc cL_len _) (cL_len y) (by simp [elemsV_sl, cL]) rfl (by decide) (by simp [chop_len]; omega) (by simp [chop_len]; omega)
        simp only [cL, H.next_push] at ea
        simp [cL, ea]
        have hk5 := hk4 h.next (fun hx => by have := (gl2.lo _ hx).1; omega) (by simp; omega)
        refine hK _ _ hlt ⟨v', by simp [t1, t2, t3, t10], ?_, ?_, ?_, ?_, ?_⟩
        · refine ⟨Nat.le_trans g2.1 (Nat.le_trans (by simp) hn4), fun x hx => ?_⟩
          simp only [cL] at hk4
          rw [hk4 x (fun hx2 => by have := (gl2.lo _ hx2).1; omega) (by have := g2.1; simp; omega), H.get_push, if_neg (by have := g2.1; omega)]
          exact g2.2 x hx
        · exact hw4 (w2.push _)
        · have h9 := hn4; simp only [cL] at h9; simp only [H.next_push] at h9; omega
        · simp only [cL] at hk5
          rw [hk5, H.get_push, if_neg (by omega), rb2, Nat.add_mul, Nat.one_mul]
        · rw [chop_snoc, List.map_append, List.map_cons, List.map_nil, ← hy]
          exact gl4
      · have hie : i = n := by omega
        subst hie
        have hsd : (s.drop (i * 12)).length = 0 := by rw [List.length_drop]; omega
        have hne : chop 12 fL i s ≠ [] := fun e => by have := chop_len 12 fL i s; rw [e] at this; simp at this; omega
        obtain ⟨l, hlq⟩ : ∃ l, l = chop 12 fL i s := ⟨_, rfl⟩
        have hll : l.length = i := by rw [hlq, chop_len]
        rw [← hlq] at gl hne hd
        rcases gl with ⟨e, _⟩ | ⟨_, j, hj1, hj2, hv, hg⟩
        · exact absurd (by simpa using e) hne
        have hflat : ((l.map cL).flatten).length = l.length * 3 := by have := flat_len (map_lenc cL_len l); simpa using this
        rw [hflat, List.length_map] at hv
        subst hv
        rw [hsd]
        simp [t1, t2, t11]
        refine sortL_ct hg (by omega) hne fun l' hp hs => ?_
        have hl'l := hp.length_eq
        have hne' : l' ≠ [] := fun e => by rw [e] at hl'l; simp at hl'l; exact hne (List.eq_nil_of_length_eq_zero (by omega))
        obtain ⟨h5, hh5⟩ : ∃ h5, h5 = h'.set j (.grow 3 (l'.map cL).flatten) := ⟨_, rfl⟩
        have w5 : h5.WF := by rw [hh5]; exact wb.set hj2 _
        have g5 : Ge h h5 := by rw [hh5]; exact gb.set (by omega) _
        rw [← hh5]
        simp [t11]
        have hcp := compact_puts ordr_l oL_eq hp hs
        have e5 : h5.get j = some (.grow 3 (l'.map cL).flatten) := by rw [hh5]; simp
        rw [← hl'l]
        refine compactL_ct e5 (by omega) hne' fun v6 h6 k6 n6 w6 s6 _ => ?_
        rw [hcp] at s6
        have g6 : Ge h h6 := ⟨by rw [n6]; exact g5.1, fun x hx => by rw [k6 x (by omega)]; exact g5.2 x hx⟩
        have hl6 := s6.len
        simp only [List.length_map] at hl6
        simp [hl6]
        by_cases hb : 64 < (putsL oL l).length
        · have hb' : (64 : Int) < (putsL oL l).length := by omega
          rw [if_pos hb] at hd
          rw [hd] at q
          simp [hb']
          exact q _ _ g6 w6 ⟨.inl ⟨rfl, .inl rfl⟩, by simp, rfl, by simp⟩
        · have hb' : ¬ (64 : Int) < (putsL oL l).length := by omega
          rw [if_neg hb] at hd
          rw [hd] at q
          simp [hb']
          exact q _ _ g6 w6 s6
    · have hrem : intV .rem .i64 (s.length : Int) 12 = some (.int .i64 ((s.length % 12 : Nat) : Int)) := by
        show (if (12 : Int) = 0 then none else some (V.int .i64 ((s.length : Int).tmod 12))) = _
        rw [if_neg (by decide), Int.tmod_eq_emod_of_nonneg (by omega)]; rfl
      obtain ⟨m, hmm⟩ : ∃ m, m = s.length % 12 := ⟨_, rfl⟩
      rw [← hmm] at hrem hm
      have b0 : (s == []) = false := by simpa using h0
      have b1 : ((m : Int) != 0) = true := bne_iff_ne.2 (by omega)
      have hd : decL oL 12 fL s = ([], 4) := if_pos (.inr (by rw [← hmm]; exact hm))
      rw [hd] at q
      simp [b0, hrem, b1]
      exact q _ _ (Ge.refl _) wf nilS
theorem decL_ct {h : H} {s : List UInt8} (hl : s.length ≤ 140737488351232) {Q : V → H → Prop}
    (q : ∀ v' h', Ge h h' → h'.WF → Sls h'.get 3 v' ((decL oL 12 fL s).1.map cL) → Q (.tup [v', .int .i64 (decL oL 12 fL s).2]) h') : Acalls Tryz.prog 12 [.str s] h Q := by
  refine acalls_to Tryz.func12 S.comm_DecodeLarges_code S.comm_DecodeLarges_enter (Nat.le_of_ble_eq_true rfl) fun wf => ?_; simp only [S.comm_DecodeLarges]
  simp
  refine readL_ct hl fun v' h' g w s => ?_
  simp
  exact q v' h' g w s
end Go.Am

/-
  CommBack, plain: targets and large ones made of numbers; what is encoded is decoded as it was, in whatever order.
-/
namespace Go.Am
open Go.Proofs

section
variable {α : Type} [DecidableEq α] {c : α → α → Int}
theorem putsG_mem (x : α) : ∀ (l m : List α), x ∈ l.foldl (putL c) m ↔ x ∈ m ∨ x ∈ l
  | [], m => by simp
  | a :: l, m => by
    rw [List.foldl_cons, putsG_mem x l, putL_mem, List.mem_cons]
    constructor
    · rintro ((h | h) | h)
      · exact .inr (.inl h)
      · exact .inl h
      · exact .inr (.inr h)
    · rintro (h | h | h)
      · exact .inl (.inr h)
      · exact .inl (.inl h)
      · exact .inr h
theorem putsG_rise (o : Ordr c) (e0 : ∀ a b, c a b = 0 → a = b) : ∀ (l m : List α), Rise c m → Rise c (l.foldl (putL c) m)
  | [], _, h => h
  | a :: l, m, h => by rw [List.foldl_cons]; exact putsG_rise o e0 l _ (putL_rise o e0 h a)
theorem putsG_same (o : Ordr c) (e0 : ∀ a b, c a b = 0 → a = b) {l m : List α} (h : Rise c l) (hm : ∀ x, x ∈ m ↔ x ∈ l) : putsL c m = l :=
  rise_ext o (putsG_rise o e0 m [] List.Pairwise.nil) h fun x => by
    have := putsG_mem (c := c) x m []
    unfold putsL
    rw [this, hm]; simp
/-- What is encoded, in whatever order, is decoded. -/
theorem dec_back (o : Ordr c) (e0 : ∀ a b, c a b = 0 → a = b) {k : Nat} {f : List UInt8 → α} {b : α → List UInt8} (hk : 0 < k) (hb : ∀ x, (b x).length = k) {l m : List α} (hf : ∀ x ∈ m, f (b x) = x) (h : Rise c l) (hm : ∀ x, x ∈ m ↔ x ∈ l) (hne : m ≠ []) (hl : l.length ≤ 64) : decL c k f (m.flatMap b) = (l, 0) := by
  have hpos : 0 < m.length := List.length_pos_iff.2 hne
  have hlen := flatMap_len k b hb m
  have h0 : ¬ (m.length * k = 0 ∨ m.length * k % k ≠ 0) := by
    rw [Nat.mul_mod_left]
    have := Nat.mul_pos hpos hk
    omega
  unfold decL
  rw [hlen, if_neg h0, Nat.mul_div_cancel _ hk, chop_flat k f b hb m]
  have e1 : (m.map fun x => f (b x)) = m := by
    rw [List.map_congr_left hf, List.map_id']
  rw [e1, putsG_same o e0 h hm]
  simp only
  rw [if_neg (by omega)]
end
/-- A route target of a number's halves; a large one of them. -/
def tg (x : Nat) : Nat := 562949953421312 + x / 65536 * 4294967296 + x
def lg (x : Nat) : Lg := (x / 65536, x % 65536, x)
theorem tg_lt {a b : Nat} (h : a < b) : tg a < tg b := by
  have : a / 65536 ≤ b / 65536 := Nat.div_le_div_right (by omega)
  unfold tg
  have := Nat.mul_le_mul_right 4294967296 this
  omega
theorem tg_fit {x : Nat} (h : x < 4294967296) : tg x < 18446744073709551616 := by
  have : x / 65536 < 65536 := Nat.div_lt_of_lt_mul (by omega)
  unfold tg; omega
theorem tg_high {x : Nat} (h : x < 4294967296) : tg x / 281474976710656 = 2 := by
  have : x / 65536 < 65536 := Nat.div_lt_of_lt_mul (by omega)
  unfold tg
  rw [Nat.div_eq_of_lt_le] <;> omega
theorem lg_fit {x : Nat} (h : x < 4294967296) : (lg x).1 < 4294967296 ∧ (lg x).2.1 < 4294967296 ∧ (lg x).2.2 < 4294967296 := by
  have : x / 65536 < 65536 := Nat.div_lt_of_lt_mul (by omega)
  have : x % 65536 < 65536 := Nat.mod_lt _ (by omega)
  unfold lg; simp only; omega
theorem oN_lt' (a b : Nat) : oN a b < 0 ↔ a < b := by unfold oN cmpI; split <;> (try split) <;> omega
theorem rise_tg {l : List Nat} (h : Rise oN l) : Rise oN (l.map tg) :=
  List.pairwise_map.2 (List.Pairwise.imp (fun {a b} e => (oN_lt' _ _).2 (tg_lt ((oN_lt' _ _).1 e))) h)
theorem oL_lg {a b : Nat} (h : a < b) : oL (lg a) (lg b) < 0 := by
  have h1 : a / 65536 ≤ b / 65536 := Nat.div_le_div_right (by omega)
  unfold oL lg orI cmpI
  simp only
  split <;> (try split) <;> (try split) <;> (try split) <;> (try split) <;> (try split) <;> omega
theorem rise_lg {l : List Nat} (h : Rise oN l) : Rise oL (l.map lg) :=
  List.pairwise_map.2 (List.Pairwise.imp (fun {a b} e => oL_lg ((oN_lt' _ _).1 e)) h)
theorem fbP {x : Nat} (h : x < 4294967296) : fP (bP x) = x := val_be_lt (by omega)
theorem fbX {x : Nat} (h : x < 18446744073709551616) : fX (bX x) = x := by
  have h1 : (be 4 (x / 4294967296)).length = 4 := be_len _ _
  unfold fX bX
  rw [List.take_append_of_le_length (by omega), List.take_of_length_le (by omega), List.drop_append, h1, List.drop_of_length_le (by omega), Nat.sub_self, List.drop_zero, List.nil_append, val_be, val_be]
  omega
theorem fbL {x : Lg} (h : x.1 < 4294967296 ∧ x.2.1 < 4294967296 ∧ x.2.2 < 4294967296) : fL (bL x) = x := by
  obtain ⟨a, b, c⟩ := x
  obtain ⟨ha, hb, hc⟩ := h
  simp only at ha hb hc
  have h1 : (be 4 a).length = 4 := be_len _ _
  have h2 : (be 4 b).length = 4 := be_len _ _
  have h3 : (be 4 c).length = 4 := be_len _ _
  have e1 : (be 4 a ++ be 4 b ++ be 4 c).take 4 = be 4 a := by
    rw [List.append_assoc, List.take_append_of_le_length (by omega), List.take_of_length_le (by omega)]
  have e2 : (be 4 a ++ be 4 b ++ be 4 c).drop 4 = be 4 b ++ be 4 c := by
    rw [List.append_assoc, List.drop_append, h1, List.drop_of_length_le (by omega), Nat.sub_self, List.drop_zero, List.nil_append]
  have e3 : (be 4 a ++ be 4 b ++ be 4 c).drop 8 = be 4 c := by
    rw [List.drop_append, List.length_append, h1, h2, List.drop_of_length_le (by rw [List.length_append]; omega), List.nil_append]; rfl
  unfold fL bL
  simp only
  rw [e1, e2, e3, List.take_append_of_le_length (by omega), List.take_of_length_le (by omega), val_be_lt (by omega), val_be_lt (by omega), val_be_lt (by omega)]
theorem turn_str {α : Type} {b : α → List UInt8} {k : Nat} (hb : ∀ x, (b x).length = k) (x : α) (r : List α) : ((x :: r).flatMap b).drop k = r.flatMap b ∧ ((x :: r).flatMap b).take k = b x := by
  rw [List.flatMap_cons]
  constructor
  · rw [List.drop_append, hb, List.drop_of_length_le (by rw [hb]; omega), Nat.sub_self, List.drop_zero, List.nil_append]
  · rw [List.take_append_of_le_length (by rw [hb]; omega), List.take_of_length_le (by rw [hb]; omega)]
end Go.Am

/-
  CommBack, the walk's parts: targets, Meet, one more at the end of one of two lists.
-/
namespace Go.Am
open Go.Proofs

set_option maxRecDepth 100000
theorem or64 (k x b : Nat) (hb : b < 2 ^ k) (hv : x * 2 ^ k + b < 18446744073709551616) {p q r : Int} (hp : p = ((x * 2 ^ k : Nat) : Int)) (hq : q = (b : Int)) (hr : r = ((x * 2 ^ k + b : Nat) : Int)) : intV .or .u64 p q = some (.int .u64 r) := by
  subst hp hq hr
  have hy : ∀ y : Nat, y < 18446744073709551616 → (BitVec.ofInt 64 (y : Int)).toNat = y := fun y h => by simp; omega
  have h1 := hy (x * 2 ^ k) (by omega)
  have h2 := hy b (by omega)
  have h3 : (BitVec.ofInt 64 ((x * 2 ^ k : Nat) : Int) ||| BitVec.ofInt 64 (b : Int)).toNat = x * 2 ^ k + b := by
    rw [BitVec.toNat_or, h1, h2, Nat.mul_comm x, ← Nat.two_pow_add_eq_or_of_lt hb]
  show some (V.int .u64 (IntKind.u64.wrap ((BitVec.ofInt 64 ((x * 2 ^ k : Nat) : Int) ||| BitVec.ofInt 64 (b : Int)).toNat : Int))) = _
  rw [h3, u64_id hv]
theorem and16 (x : Nat) (h : x < 4294967296) {r : Int} (hr : r = ((x % 65536 : Nat) : Int)) : intV .and .u32 (x : Int) 65535 = some (.int .u32 r) := by
  subst hr
  have h1 : (BitVec.ofInt 32 (x : Int)).toNat = x := by simp; omega
  have h3 : (BitVec.ofInt 32 (x : Int) &&& BitVec.ofInt 32 65535).toNat = x % 65536 := by
    rw [BitVec.toNat_and, h1, show (BitVec.ofInt 32 65535).toNat = 2 ^ 16 - 1 from rfl, Nat.and_two_pow_sub_one_eq_mod]
  show some (V.int .u32 (IntKind.u32.wrap ((BitVec.ofInt 32 (x : Int) &&& BitVec.ofInt 32 65535).toNat : Int))) = _
  rw [h3]
  congr 2
  simp only [IntKind.wrap, IntKind.bits, IntKind.signed, Bool.false_and, Bool.false_eq_true, if_false]
  omega
def tgP : List V → Option V
  | [.int .u16 a, .int .u32 b] => if 0 ≤ a ∧ a < 65536 ∧ 0 ≤ b ∧ b < 4294967296 then some (.int .u64 (562949953421312 + a * 4294967296 + b)) else none
  | _ => none
theorem target_ct {h : H} {a b : Nat} (ha : a < 65536) (hb : b < 4294967296) : Pure Tryz.prog 17 [.int .u16 (a : Nat), .int .u32 (b : Nat)] h (.int .u64 ((562949953421312 + a * 4294967296 + b : Nat) : Int)) := by
  refine pure_to Tryz.func17 S.comm_Target_code S.comm_Target_enter rfl (Nat.le_of_ble_eq_true rfl) fun wf => ?_; simp only [S.comm_Target]
  have wa : IntKind.u64.wrap (a : Int) = a := u64_id (by omega)
  have wb : IntKind.u64.wrap (b : Int) = b := u64_id (by omega)
  obtain ⟨m, hm⟩ : ∃ m, m = a * 4294967296 := ⟨_, rfl⟩
  obtain ⟨m2, hm2⟩ : ∃ m2, m2 = 562949953421312 + m := ⟨_, rfl⟩
  have s1 := shl32 a (by omega)
  rw [← hm] at s1
  have o1 : intV .or .u64 562949953421312 (m : Int) = some (.int .u64 (m2 : Int)) := or64 49 1 m (by omega) (by omega) (by omega) rfl (by omega)
  have o2 : intV .or .u64 (m2 : Int) (b : Int) = some (.int .u64 ((m2 + b : Nat) : Int)) := or64 32 (131072 + a) b (by omega) (by omega) (by omega) rfl (by omega)
  simp [wa, wb, s1, o1, o2]
  omega
theorem tgP_ok : ∀ p ∈ [(17, tgP)], ∀ vals v, p.2 vals = some v → ∀ h, Acalls Tryz.prog p.1 vals h fun u h' => u = v ∧ h' = h :=
  plain1 fun vals v e h => by
    unfold tgP at e
    split at e
    · rename_i a b
      split at e
      · rename_i hc
        obtain ⟨h1, h2, h3, h4⟩ := hc
        obtain ⟨a, rfl⟩ := Int.eq_ofNat_of_zero_le h1
        obtain ⟨b, rfl⟩ := Int.eq_ofNat_of_zero_le h3
        cases e
        have := target_ct (h := h) (a := a) (b := b) (by omega) (by omega)
        simpa using this
      · cases e
    · cases e
theorem tgP_at (x a : Nat) (hx : x < 4294967296) (ha : a = x / 65536) : tgP [.int .u16 (a : Int), .int .u32 (x : Int)] = some (.int .u64 (tg x : Nat)) := by
  have : x / 65536 < 65536 := Nat.div_lt_of_lt_mul (by omega)
  subst ha
  simp only [tgP]
  rw [if_pos (by omega)]
  unfold tg
  congr 2
def isP : List V → Option V
  | [.int .u64 x] => if 0 ≤ x then some (.bool (decide (x / 281474976710656 = 2))) else none
  | _ => none
theorem fd48 (n : Nat) : ((n : Nat) : Int).fdiv (2 ^ min 48 IntKind.u64.bits) = (n : Int) / 281474976710656 := Int.fdiv_eq_ediv_of_nonneg _ (by decide)
theorem isP_ok : ∀ p ∈ [(18, isP)], ∀ vals v, p.2 vals = some v → ∀ h, Acalls Tryz.prog p.1 vals h fun u h' => u = v ∧ h' = h :=
  plain1 fun vals v e h => by
    unfold isP at e
    split at e
    · rename_i x
      split at e
      · rename_i h1
        obtain ⟨a, rfl⟩ := Int.eq_ofNat_of_zero_le h1
        cases e
        refine pure_to Tryz.func18 S.comm_IsTarget_code S.comm_IsTarget_enter rfl (Nat.le_of_ble_eq_true rfl) fun wf => ?_; simp only [S.comm_IsTarget]
        simp [fd48, bq]
      · cases e
    · cases e
theorem isP_at {x : Nat} (hx : x < 4294967296) : isP [.int .u64 (tg x : Nat)] = some (.bool true) := by
  have := tg_high hx
  simp only [isP]
  rw [if_pos (by omega), decide_eq_true (by omega)]
/-- One more at the end of one of two lists. -/
theorem two_more {h0 g : H} {sz1 sz2 bytes : Nat} {v w : V} {es fs : List (List V)} (e : List V) (ga : Ge h0 g) (wg : g.WF) (g1 : Gl g h0.next sz1 v es) (g2 : Gl g h0.next sz2 w fs) (dj : ∀ i ∈ v.ids, i ∉ w.ids)
    (hs : ∀ a ∈ es, a.length = sz1) (he : e.length = sz1) (h1 : e.all V.one = true) (hsz : sz1 ≠ 0) (hb : (es.length + 1) * bytes ≤ 140737488355328) (hb2 : es.length + 1 ≤ 9223372036854775807) :
    ∃ v' d, appendV (g.push (.row e)).get (g.next + 1) sz1 bytes v (.sl g.next sz1 0 1 (some 1)) = some (v', d) ∧ Gl ((g.push (.row e)).app d) h0.next sz1 v' (es ++ [e]) ∧ Gl ((g.push (.row e)).app d) h0.next sz2 w fs ∧ Ge h0 ((g.push (.row e)).app d) ∧ ((g.push (.row e)).app d).WF ∧ ∀ i ∈ v'.ids, i ∉ w.ids := by
  have kp : ∀ x, x < g.next → (g.push (.row e)).get x = g.get x := fun x hx => by rw [H.get_push, if_neg (by omega)]
  have g1' : Gl (g.push (.row e)) h0.next sz1 v es := g1.keep (by simp) fun x hx => kp x (g1.lo x hx).2
  have hx : Sls (g.push (.row e)).get sz1 (.sl g.next sz1 0 1 (some 1)) [e] := ⟨.inr ⟨_, _, _, _, rfl⟩, by simpa using he, by simp [elemsV_sl, he, List.take_of_length_le (Nat.le_of_eq he)], by simp⟩
  obtain ⟨v', d, ea, gl, hn, hk, hw, hid⟩ := g1'.appends (bytes := bytes) (by have := ga.1; simp; omega) hs hx (by simpa using h1) hsz (by simpa using hb) (by simpa using hb2)
  have hn' : g.next + 1 ≤ ((g.push (.row e)).app d).next := by simpa using hn
  have hko : ∀ x, x < g.next → x ∉ v.ids → ((g.push (.row e)).app d).get x = g.get x := fun x hx hxv => (hk x hxv (by simp; omega)).trans (kp x hx)
  refine ⟨v', d, by simpa using ea, gl, g2.keep (by omega) fun x hx => hko x (g2.lo x hx).2 fun h => dj x h hx, ⟨by have := ga.1; omega, fun x hx => ?_⟩, hw (wg.push _), fun i hi hiw => ?_⟩
  · rw [hko x (by have := ga.1; omega) fun h => by have := (g1.lo x h).1; omega]
    exact ga.2 x hx
  · rcases hid i hi with h | h
    · exact dj i h hiw
    · have := (g2.lo i hiw).2
      simp at h; omega
/-- Meet: one of the first is one of the others. -/
theorem has8_ct {h : H} {v : V} {l : List Nat} {c : Nat} (hs : Sls h.get 1 v (l.map cX)) (hc : c ∈ l) : Pure Tryz.prog 48 [v, .int .u64 (c : Nat)] h (.bool true) := by
  refine pure_to Tryz.func48 S.slices_Contains_uint64_uint64_code S.slices_Contains_uint64_uint64_enter rfl (Nat.le_of_ble_eq_true rfl) fun wf => ?_; simp only [S.slices_Contains_uint64_uint64]
  simp
  refine (show Acalls Tryz.prog 71 [v, .int .u64 (c : Nat)] h (fun u h' => (∃ k : Nat, u = .int .i64 (k : Nat)) ∧ h' = h) from ?_).mono ?_
  · refine acalls_to Tryz.func71 S.slices_Index_uint64_uint64_code S.slices_Index_uint64_uint64_enter (Nat.le_of_ble_eq_true rfl) fun wf => ?_; simp only [S.slices_Index_uint64_uint64]
    have hlen := hs.len
    have hb := hs.bound
    simp at hlen hb
    simp [hlen]
    refine loop_up (fun i t h' => (t 0 = v ∧ t 1 = .int .u64 (c : Nat) ∧ t 6 = v ∧ t 7 = .int .i64 (l.length : Nat) ∧ t 8 = .int .i64 (i : Nat)) ∧ h' = h ∧ c ∉ l.take i) l.length ⟨by simp, rfl, by simp⟩ ?_
    rintro i t h' hi ⟨⟨t0, t1, t6, t7, t8⟩, rfl, hn⟩ K hK
    by_cases hlt : i < l.length
    · obtain ⟨p, qq, o, cs, e1, e2, e3⟩ := hs.at1 (f := fun x : Nat => V.int .u64 x) hlt
      have hw := wrap_succ hlt hb
      by_cases hx : c = l[i]
      · have b1 : ((c : Int) == (l[i] : Int)) = true := beq_iff_eq.2 (by omega)
        simp [t0, t1, t7, t8, hlt, e1, e2, e3, b1]
        exact ⟨i, rfl⟩
      · have b1 : ((c : Int) == (l[i] : Int)) = false := beq_eq_false_iff_ne.2 (by omega)
        simp [t0, t1, t7, t8, hlt, e1, e2, e3, b1, hw]
        refine hK _ _ hlt ⟨by simp [t0, t1, t6, t7], rfl, ?_⟩
        rw [List.take_add_one, List.getElem?_eq_getElem hlt, List.mem_append]
        simp [hn, hx]
    · have : i = l.length := by omega
      subst this
      rw [List.take_length] at hn
      exact absurd hc hn
  · rintro u h' ⟨⟨k, rfl⟩, rfl⟩
    simp
theorem meet_ct {h : H} {v w : V} {l : List Nat} (hs : Sls h.get 1 v (l.map cX)) (hw : Sls h.get 1 w (l.map cX)) (hne : l ≠ []) : Pure Tryz.prog 22 [v, w] h (.bool true) := by
  refine pure_to Tryz.func22 S.comm_Meet_code S.comm_Meet_enter rfl (Nat.le_of_ble_eq_true rfl) fun wf => ?_; simp only [S.comm_Meet]
  have hpos : 0 < l.length := List.length_pos_iff.2 hne
  have ob : ∀ n, boxV n w = some (.ptr n 1 0, .push (.row [w])) := fun n => by
    have c1 := cells_of_one hw.one
    have s1 : w.solid = true := by rcases hw.kind with ⟨_, rfl | rfl⟩ | ⟨_, _, _, _, rfl⟩ <;> rfl
    simp [boxV, c1, s1]
  simp [ob]
  obtain ⟨h1, hh1⟩ : ∃ h1, h1 = h.push (.row [w]) := ⟨_, rfl⟩
  have g1 : Ge h h1 := by rw [hh1]; exact (Ge.refl _).push _
  have b1 : h1.get h.next = some (.row [w]) := by rw [hh1]; simp
  have s1 := hs.ge wf g1
  have s2 := hw.ge wf g1
  have hlen := s1.len
  simp at hlen
  rw [← hh1]
  refine (show Pure Tryz.prog 46 [v, .func (.func 47) [] [.ptr h.next 1 0]] h1 (.bool true) from ?_) _ ?_
  · refine pure_to Tryz.func46 S.slices_ContainsFunc_uint64_uint64_code S.slices_ContainsFunc_uint64_uint64_enter rfl (Nat.le_of_ble_eq_true rfl) fun wf => ?_; simp only [S.slices_ContainsFunc_uint64_uint64]
    simp
    refine (show Pure Tryz.prog 70 [v, .func (.func 47) [] [.ptr h.next 1 0]] h1 (.int .i64 0) from ?_) _ ?_
    · refine pure_to Tryz.func70 S.slices_IndexFunc_uint64_uint64_code S.slices_IndexFunc_uint64_uint64_enter rfl (Nat.le_of_ble_eq_true rfl) fun wf => ?_; simp only [S.slices_IndexFunc_uint64_uint64]
      simp [hlen]
      refine loop_up (fun i t h' => (t 0 = v ∧ t 1 = .func (.func 47) [] [.ptr h.next 1 0] ∧ t 6 = v ∧ t 7 = .int .i64 (l.length : Nat) ∧ t 8 = .int .i64 (i : Nat)) ∧ h1 = h' ∧ i = 0) 0 ⟨by simp, rfl, rfl⟩ ?_
      rintro i t h' hi ⟨⟨t0, t1, t6, t7, t8⟩, rfl, rfl⟩ K hK
      obtain ⟨p, qq, o, cs, e1, e2, e3⟩ := s1.at1 (f := fun x : Nat => V.int .u64 x) (k := 0) hpos
      have e1' : indexAddrV 1 v (.int .i64 0) = some (.ptr p qq o) := e1 .i64
      have hp2 : (0 : Int) < (l.length : Int) := by omega
      simp [t0, t1, t7, t8, hpos, e1', e2, e3]
      refine (show Pure Tryz.prog 47 [.int .u64 (l[0] : Nat), .ptr h.next 1 0] h1 (.bool true) from ?_) _ ?_
      · refine pure_to Tryz.func47 S.comm_Meet_1_code S.comm_Meet_1_enter rfl (Nat.le_of_ble_eq_true rfl) fun wf => ?_; simp only [S.comm_Meet_1]
        have hca : cellsAt h1.get h.next 1 = some [w] := (cellsAt_of (n := 1) b1 rfl).trans rfl
        simp [hca]
        refine has8_ct s2 (List.getElem_mem _) _ ?_
        simp
      · simp
    · simp
  · simp
    exact g1
end Go.Am

/-
  NB2, NM5, in one text.
-/
namespace Go.Am
open Go.Proofs

set_option maxRecDepth 100000
theorem str_drop {s : List UInt8} {k : Nat} (h : k ≤ s.length) : sliceStrV (some (.int .i64 (k : Int))) none (.str s) = some (.str (s.drop k)) := by
  simp only [sliceStrV, boundV]
  rw [if_pos (by omega)]
  simp
theorem str_take {s : List UInt8} {k : Nat} (h : k ≤ s.length) : sliceStrV none (some (.int .i64 (k : Int))) (.str s) = some (.str (s.take k)) := by
  simp only [sliceStrV, boundV]
  rw [if_pos (by omega)]
  simp
theorem foldl_put_le1 : ∀ (l m : List Nat), (l.foldl (putL oN) m).length ≤ m.length + l.length
  | [], m => by simp
  | a :: l, m => by
    rw [List.foldl_cons]
    have h1 := foldl_put_le1 l (putL oN m a)
    have h2 := putL_len (c := oN) m a
    simp only [List.length_cons]; omega
theorem puts_len_le1 (l : List Nat) : (putsL oN l).length ≤ l.length := by
  have := foldl_put_le1 l []
  simpa [putsL] using this
/-- The strings that come out, and those turned, are decoded as they were. -/
theorem back_all {N : List Nat} (hr : Rise oN N) (hf : ∀ x ∈ N, x < 4294967296) (hne : N ≠ []) (hl : N.length ≤ 40) (m : List Nat) (hm : ∀ x, x ∈ m ↔ x ∈ N) :
    decL oN 4 fP (m.flatMap bP) = (N, 0) ∧ decL oN 8 fX ((m.map tg).flatMap bX) = (N.map tg, 0) ∧ decL oL 12 fL ((m.map lg).flatMap bL) = (N.map lg, 0) := by
  have hmne : m ≠ [] := by
    intro e
    obtain ⟨x, r, rfl⟩ := List.exists_cons_of_ne_nil hne
    have := (hm x).2 (by simp)
    rw [e] at this
    simp at this
  have fit : ∀ x ∈ m, x < 4294967296 := fun x hx => hf x ((hm x).1 hx)
  refine ⟨dec_back ordr_n oN_eq (by omega) bP_len (fun x hx => fbP (fit x hx)) hr hm hmne (by omega), dec_back ordr_n oN_eq (by omega) bX_len (fun x hx => ?_) (rise_tg hr) (fun x => ?_) (by simpa using hmne) (by simp; omega), dec_back ordr_l oL_eq (by omega) bL_len (fun x hx => ?_) (rise_lg hr) (fun x => ?_) (by simpa using hmne) (by simp; omega)⟩
  · obtain ⟨y, hy, rfl⟩ := List.mem_map.1 hx
    exact fbX (tg_fit (fit y hy))
  · simp only [List.mem_map, hm]
  · obtain ⟨y, hy, rfl⟩ := List.mem_map.1 hx
    exact fbL (lg_fit (fit y hy))
  · simp only [List.mem_map, hm]
theorem cback_ct {h : H} {v : V} {l : List Nat} {b : Bool} (hs : Sls h.get 1 v (l.map cP)) (hc : CapOk v) (hf : ∀ x ∈ l, x < 4294967296) : Pure Tryz.prog 4 [v, .bool b] h (.bool true) := by
  refine pure_to Tryz.func4 S.Hlaw05_CommBack_code S.Hlaw05_CommBack_enter rfl (Nat.le_of_ble_eq_true rfl) fun wf => ?_; simp only [S.Hlaw05_CommBack]
  obtain ⟨v', kp, mp, ep, sp, _⟩ := cut_of 40 hs hc
  have hlen := hs.len
  simp at hlen
  obtain ⟨l4, hl4⟩ : ∃ l4, l4 = l.take 40 := ⟨_, rfl⟩
  rw [← hl4] at sp
  have h40 : l4.length ≤ 40 := by rw [hl4, List.length_take]; omega
  simp only [Int.cast_ofNat_Int] at mp
  simp [hlen, mp, ep]
  refine norm_ct sp (by omega) fun n g ga wa gln => ?_
  have hpl := puts_len_le1 l4
  obtain ⟨N, hN⟩ : ∃ N, N = putsL oN l4 := ⟨_, rfl⟩
  have hNr : Rise oN N := by rw [hN]; exact rise_puts _
  have hNf : ∀ x ∈ N, x < 4294967296 := fun x hx => by
    rw [hN, mem_puts] at hx
    rw [hl4] at hx
    exact hf x (List.mem_of_mem_take hx)
  rw [← hN] at gln hpl
  have sn := gln.sls (map_lenc cP_len _) (by simp; omega)
  have hnl := sn.lenG wa (n := N.length) (by simp)
  have hnl0 := hnl g (Ge.refl _)
  simp [hnl0]
  by_cases h0 : N.length = 0
  · have b0 : ((N.length : Int) == 0) = true := by rw [h0]; rfl
    have b1 : N = [] := List.eq_nil_of_length_eq_zero h0
    simp [b1]
    refine works_ct _ _ ?_
    simp
    exact ga
  have hne : N ≠ [] := fun e => h0 (by rw [e]; rfl)
  have b0 : ((N.length : Int) == 0) = false := beq_eq_false_iff_ne.2 (by omega)
  simp [b0]
  refine loop_cutS (id := 0) (fun t h2 => ∃ v6 v7, (t 1 = .bool b ∧ t 5 = n ∧ t 6 = v6 ∧ t 7 = v7) ∧ Ge g h2 ∧ h2.WF ∧ Gl h2 g.next 1 v6 ((N.map tg).map cX) ∧ Gl h2 g.next 3 v7 ((N.map lg).map cL)) (fun R hR => ?_) ?_
  · refine loop_up (fun i t h2 => ∃ v6 v7, (t 1 = .bool b ∧ t 5 = n ∧ t 6 = v6 ∧ t 7 = v7 ∧ t 8 = .int .i64 (i : Nat)) ∧ Ge g h2 ∧ h2.WF ∧ Gl h2 g.next 1 v6 (((N.take i).map tg).map cX) ∧ Gl h2 g.next 3 v7 (((N.take i).map lg).map cL) ∧ ∀ x ∈ v6.ids, x ∉ v7.ids) N.length ⟨.nilsl, .nilsl, by simp, Ge.refl _, wa, Gl.nil _ _ _, Gl.nil _ _ _, by simp [V.ids]⟩ ?_
    rintro i t h2 hi ⟨v6, v7, ⟨t1, t5, t6, t7, t8⟩, gb, wb, g6, g7, dj⟩ K hK
    have hnl2 := hnl h2 gb
    by_cases hlt : i < N.length
    · obtain ⟨p, qq, o, cs, e1, pl, e2, e3⟩ := sn.at1G (f := fun x : Nat => V.int .u32 x) wa hlt
      have e2' := e2 h2 gb
      have w1 := wrap_succ hlt (by omega)
      have hx := hNf _ (List.getElem_mem hlt)
      obtain ⟨x, hxe⟩ : ∃ x, x = N[i] := ⟨_, rfl⟩
      rw [← hxe] at e3 hx
      have htk : N.take (i + 1) = N.take i ++ [x] := by rw [hxe, List.take_add_one, List.getElem?_eq_getElem hlt]; rfl
      obtain ⟨a, ha⟩ : ∃ a, a = x / 65536 := ⟨_, rfl⟩
      obtain ⟨r, hrr⟩ : ∃ r, r = x % 65536 := ⟨_, rfl⟩
      have ha2 : a < 65536 := by rw [ha]; exact Nat.div_lt_of_lt_mul (by omega)
      have hd : (x : Int) / 65536 = (a : Int) := by rw [ha]; rfl
      have w16 : IntKind.u16.wrap (a : Int) = (a : Int) := by simp [IntKind.wrap, IntKind.bits, IntKind.signed]; omega
      have htg := tgP_at x a hx ha
      have han := and16 x hx (r := (r : Int)) (by rw [hrr])
      have l6 : (((N.take i).map tg).map cX).length ≤ 40 := by simp; omega
      have l7 : (((N.take i).map lg).map cL).length ≤ 40 := by simp; omega
      obtain ⟨w6, d6, x6, g6', g7', gb3, wb3, dj3⟩ := two_more (bytes := 8) [V.int .u64 (tg x : Nat)] gb wb g6 g7 dj (map_lenc cX_len _) rfl rfl (by decide) (by omega) (by omega)
      obtain ⟨h3, hh3⟩ : ∃ h3, h3 = (h2.push (.row [V.int .u64 (tg x : Nat)])).app d6 := ⟨_, rfl⟩
      rw [← hh3] at g6' g7' gb3 wb3
      obtain ⟨w7, d7, x7, g7'', g6'', gb4, wb4, dj4⟩ := two_more (bytes := 12) [V.int .u32 (a : Int), .int .u32 (r : Int), .int .u32 (x : Int)] gb3 wb3 g7' g6' (fun y hy hy2 => dj3 y hy2 hy) (map_lenc cL_len _) rfl rfl (by decide) (by omega) (by omega)
      have e2'' := e2 h3 gb3
      have hlL : N.length ≤ 40 := by omega
      simp [t5, t8, hnl2, hlt]
      refine dreg_plain _ tgP_ok (by rfl) ?_
      simp [List.lookup, t5, t6, t8, e1, e2', e3, fd16, hd, w16, htg, x6, ← hh3]
      refine dreg_of ?_
      simp [t5, t7, t8, e1, e2'', e3, fd16, hd, han, x7, w1]
      refine hK _ _ hlt ⟨w6, w7, by simp [t1, t5], gb4, wb4, ?_, ?_, fun y hy hy2 => dj4 y hy2 hy⟩
      · rw [htk, List.map_append, List.map_append]; exact g6''
      · rw [htk, List.map_append, List.map_append]; subst ha hrr; exact g7''
    · have hie : i = N.length := by omega
      subst hie
      rw [List.take_length] at g6 g7
      simp [t5, t8, hnl2]
      exact hR _ _ ⟨v6, v7, ⟨t1, t5, t6, t7⟩, gb, wb, g6, g7⟩
  rintro t h2 ⟨v6, v7, ⟨t1, t5, t6, t7⟩, gb, wb, g6, g7⟩
  obtain ⟨X, hX⟩ : ∃ X, X = N.map tg := ⟨_, rfl⟩
  obtain ⟨L, hL⟩ : ∃ L, L = N.map lg := ⟨_, rfl⟩
  rw [← hX] at g6
  rw [← hL] at g7
  have hXl : X.length = N.length := by rw [hX, List.length_map]
  have hLl : L.length = N.length := by rw [hL, List.length_map]
  have hN40 : N.length ≤ 40 := by omega
  have s6 := g6.sls (map_lenc cX_len _) (by simp; omega)
  have s7 := g7.sls (map_lenc cL_len _) (by simp; omega)
  have hx6 := s6.lenG wb (n := N.length) (by simp [hXl])
  have hx60 := hx6 h2 (Ge.refl _)
  have hnl2 := hnl h2 gb
  simp
  -- rising, each a target
  refine loop_cutS (id := 2) (fun t h3 => (t 1 = .bool b ∧ t 5 = n ∧ t 6 = v6 ∧ t 7 = v7) ∧ h2 = h3) (fun R hR => ?_) ?_
  · refine loop_up (fun i t h3 => (t 1 = .bool b ∧ t 5 = n ∧ t 6 = v6 ∧ t 7 = v7 ∧ t 9 = .int .i64 ((i + 1 : Nat) : Int)) ∧ h2 = h3) N.length ⟨by simp [t1, t5, t6, t7], rfl⟩ ?_
    rintro i t _ hi ⟨⟨t1, t5, t6, t7, t9⟩, rfl⟩ K hK
    obtain ⟨m, hm⟩ : ∃ m, m = i + 1 := ⟨_, rfl⟩
    rw [← hm] at t9
    by_cases hlt : m < N.length
    · obtain ⟨p, qq, o, cs, e1, e2, e3⟩ := s6.at1 (f := fun x : Nat => V.int .u64 x) (k := m) (by omega)
      obtain ⟨p', qq', o', cs', b1, b2, b3⟩ := s6.at1 (f := fun x : Nat => V.int .u64 x) (k := i) (by omega)
      have wm : IntKind.i64.wrap ((m : Int) - 1) = (i : Int) := by rw [wrap_i64_id (by omega) (by omega)]; omega
      have w1 : IntKind.i64.wrap ((m : Int) + 1) = ((m + 1 : Nat) : Int) := by rw [wrap_i64_id (by omega) (by omega)]; omega
      have hmX : X[m]'(by omega) = tg (N[m]'hlt) := by simp only [hX, List.getElem_map]
      have hiX : X[i]'(by omega) = tg (N[i]'(by omega)) := by simp only [hX, List.getElem_map]
      have hr : N[i]'(by omega) < N[m]'hlt := (oN_lt' _ _).1 (List.pairwise_iff_getElem.1 hNr i m (by omega) hlt (by omega))
      have hr1 := tg_lt hr
      have his := isP_at (hNf _ (List.getElem_mem hlt))
      rw [hmX] at e3
      rw [hiX] at b3
      obtain ⟨y, hy⟩ : ∃ y, y = tg (N[m]'hlt) := ⟨_, rfl⟩
      obtain ⟨z, hz⟩ : ∃ z, z = tg (N[i]'(by omega)) := ⟨_, rfl⟩
      rw [← hy] at e3 hr1 his
      rw [← hz] at b3 hr1
      have hr2 : ¬ y ≤ z := by omega
      obtain ⟨m1, hm1⟩ : ∃ m1, m1 = m + 1 := ⟨_, rfl⟩
      rw [← hm1] at w1
      simp [t6, t9, hx60, hlt]
      refine dreg_plain _ isP_ok (by rfl) ?_
      simp [List.lookup, t6, t9, e1, e2, e3, wm, b1, b2, b3, hr2, his, w1]
      refine hK _ _ (by omega) ⟨?_, rfl⟩
      simp [t1, t5, t6, t7, hm1, hm]
    · simp [t6, t9, hx60, hlt]
      exact hR _ _ ⟨⟨t1, t5, t6, t7⟩, rfl⟩
  rintro t _ ⟨⟨t1, t5, t6, t7⟩, rfl⟩
  have sn2 := sn.ge wa gb
  have aN : adjB oN N = true := (adjB_rise ordr_n N).2 hNr
  have aX : adjB oN X = true := (adjB_rise ordr_n X).2 (by rw [hX]; exact rise_tg hNr)
  have aL : adjB oL L = true := (adjB_rise ordr_l L).2 (by rw [hL]; exact rise_lg hNr)
  have fX' : ∀ x ∈ X, x < 18446744073709551616 := fun x hx => by
    rw [hX] at hx
    obtain ⟨y, hy, rfl⟩ := List.mem_map.1 hx
    exact tg_fit (hNf y hy)
  have fL' : ∀ x ∈ L, x.1 < 4294967296 ∧ x.2.1 < 4294967296 ∧ x.2.2 < 4294967296 := fun x hx => by
    rw [hL] at hx
    obtain ⟨y, hy, rfl⟩ := List.mem_map.1 hx
    exact lg_fit (hNf y hy)
  simp [t5]
  refine enccP_ct sn2 hNf (by omega) _ ?_
  rw [encR_yes (by omega) aN]
  simp [t6]
  refine enccX_ct s6 fX' (by omega) _ ?_
  rw [encR_yes (by omega) aX]
  simp [t7]
  refine enccL_ct s7 fL' (by omega) _ ?_
  rw [encR_yes (by omega) aL]
  obtain ⟨A, hA⟩ : ∃ A, A = N.flatMap bP := ⟨_, rfl⟩
  obtain ⟨B, hB⟩ : ∃ B, B = X.flatMap bX := ⟨_, rfl⟩
  obtain ⟨C, hC⟩ : ∃ C, C = L.flatMap bL := ⟨_, rfl⟩
  have lA : A.length = N.length * 4 := by rw [hA]; exact flatMap_len 4 bP bP_len N
  have lB : B.length = N.length * 8 := by rw [hB, flatMap_len 8 bX bX_len X, hXl]
  have lC : C.length = N.length * 12 := by rw [hC, flatMap_len 12 bL bL_len L, hLl]
  have kA : IntKind.i64.wrap (4 * (N.length : Int)) = (A.length : Int) := by rw [wrap_i64_id (by omega) (by omega)]; omega
  have kB : IntKind.i64.wrap (8 * (N.length : Int)) = (B.length : Int) := by rw [wrap_i64_id (by omega) (by omega)]; omega
  have kC : IntKind.i64.wrap (12 * (N.length : Int)) = (C.length : Int) := by rw [wrap_i64_id (by omega) (by omega)]; omega
  rw [← hA, ← hB, ← hC]
  simp [t1, t5, hnl2, kA, kB, kC]
  refine cond_cut (fun t' h' => ∃ sa sb sc, (t' 5 = n ∧ t' 6 = v6 ∧ t' 7 = v7 ∧ t' 10 = .str sa ∧ t' 12 = .str sb ∧ t' 14 = .str sc) ∧ h2 = h' ∧ decL oN 4 fP sa = (N, 0) ∧ decL oN 8 fX sb = (X, 0) ∧ decL oL 12 fL sc = (L, 0) ∧ sa.length ≤ 1000 ∧ sb.length ≤ 1000 ∧ sc.length ≤ 1000) (fun hb R hR => ?_) (fun hb R hR => ?_) ?_
  · obtain ⟨x, r, hxr⟩ := List.exists_cons_of_ne_nil hne
    obtain ⟨tA, uA⟩ := turn_str bP_len x r
    obtain ⟨tB, uB⟩ := turn_str bX_len (tg x) (r.map tg)
    obtain ⟨tC, uC⟩ := turn_str bL_len (lg x) (r.map lg)
    have rA : A.drop 4 = r.flatMap bP := by rw [hA, hxr]; exact tA
    have rA0 : A.take 4 = bP x := by rw [hA, hxr]; exact uA
    have rB : B.drop 8 = (r.map tg).flatMap bX := by rw [hB, hX, hxr]; exact tB
    have rB0 : B.take 8 = bX (tg x) := by rw [hB, hX, hxr]; exact uB
    have rC : C.drop 12 = (r.map lg).flatMap bL := by rw [hC, hL, hxr]; exact tC
    have rC0 : C.take 12 = bL (lg x) := by rw [hC, hL, hxr]; exact uC
    have qA := str_drop (s := A) (k := 4) (by omega)
    have qA0 := str_take (s := A) (k := 4) (by omega)
    have qB := str_drop (s := B) (k := 8) (by omega)
    have qB0 := str_take (s := B) (k := 8) (by omega)
    have qC := str_drop (s := C) (k := 12) (by omega)
    have qC0 := str_take (s := C) (k := 12) (by omega)
    rw [rA] at qA
    rw [rA0] at qA0
    rw [rB] at qB
    rw [rB0] at qB0
    rw [rC] at qC
    rw [rC0] at qC0
    simp only [Int.cast_ofNat_Int] at qA qA0 qB qB0 qC qC0
    obtain ⟨dA, -, -⟩ := back_all hNr hNf hne hN40 (r ++ [x, x]) (fun y => by rw [hxr]; simp [or_comm])
    obtain ⟨-, dB, dC⟩ := back_all hNr hNf hne hN40 (r ++ [x]) (fun y => by rw [hxr]; simp [or_comm])
    rw [← hX] at dB
    rw [← hL] at dC
    have fA : (r ++ [x, x]).flatMap bP = r.flatMap bP ++ bP x ++ bP x := by simp
    have fB : ((r ++ [x]).map tg).flatMap bX = (r.map tg).flatMap bX ++ bX (tg x) := by simp
    have fC : ((r ++ [x]).map lg).flatMap bL = (r.map lg).flatMap bL ++ bL (lg x) := by simp
    rw [fA] at dA
    rw [fB] at dB
    rw [fC] at dC
    have nr : r.length + 1 = N.length := by rw [hxr]; rfl
    have zA := flatMap_len 4 bP bP_len r
    have zB := flatMap_len 8 bX bX_len (r.map tg)
    have zC := flatMap_len 12 bL bL_len (r.map lg)
    have yA := bP_len x
    have yB := bX_len (tg x)
    have yC := bL_len (lg x)
    rw [List.length_map] at zB zC
    obtain ⟨A4, hA4⟩ : ∃ y, y = r.flatMap bP := ⟨_, rfl⟩
    obtain ⟨A0, hA0⟩ : ∃ y, y = bP x := ⟨_, rfl⟩
    obtain ⟨B4, hB4⟩ : ∃ y, y = (r.map tg).flatMap bX := ⟨_, rfl⟩
    obtain ⟨B0, hB0⟩ : ∃ y, y = bX (tg x) := ⟨_, rfl⟩
    obtain ⟨C4, hC4⟩ : ∃ y, y = (r.map lg).flatMap bL := ⟨_, rfl⟩
    obtain ⟨C0, hC0⟩ : ∃ y, y = bL (lg x) := ⟨_, rfl⟩
    rw [← hA4] at qA dA zA
    rw [← hA0] at qA0 dA yA
    rw [← hB4] at qB dB zB
    rw [← hB0] at qB0 dB yB
    rw [← hC4] at qC dC zC
    rw [← hC0] at qC0 dC yC
    have bA : A4.length + A0.length ≤ 9223372036854775807 := by omega
    have bA' : A4.length + (A0.length + A0.length) ≤ 9223372036854775807 := by omega
    have bA'' : A4.length + A0.length + A0.length ≤ 9223372036854775807 := by omega
    have bB : B4.length + B0.length ≤ 9223372036854775807 := by omega
    have bC : C4.length + C0.length ≤ 9223372036854775807 := by omega
    simp
    refine dreg_of ?_
    simp [-sliceStrV_str, qA, qA0, bA, bA'']
    refine dreg_of ?_
    simp [-sliceStrV_str, qB, qB0, bB]
    refine dreg_of ?_
    simp [-sliceStrV_str, qC, qC0, bC]
    refine hR _ _ ⟨A4 ++ A0 ++ A0, B4 ++ B0, C4 ++ C0, by simp [t5, t6, t7], rfl, dA, dB, dC, ?_, ?_, ?_⟩
    · simp only [List.length_append]; omega
    · simp only [List.length_append]; omega
    · simp only [List.length_append]; omega
  · simp
    obtain ⟨dA, dB, dC⟩ := back_all hNr hNf hne hN40 N (fun _ => Iff.rfl)
    rw [← hX, ← hB] at dB
    rw [← hL, ← hC] at dC
    rw [← hA] at dA
    exact hR _ _ ⟨A, B, C, by simp [t5, t6, t7], rfl, dA, dB, dC, by omega, by omega, by omega⟩
  rintro t _ ⟨sa, sb, sc, ⟨t5, t6, t7, t10, t12, t14⟩, rfl, dA, dB, dC, zA, zB, zC⟩
  simp [t10]
  refine decP_ct (by omega) fun x1 h3 g3 w3 sx => ?_
  rw [dA] at sx ⊢
  replace sx : Sls h3.get 1 x1 (N.map cP) := sx
  simp [t12]
  refine decX_ct (by omega) fun x2 h4 g4 w4 sy => ?_
  rw [dB] at sy ⊢
  replace sy : Sls h4.get 1 x2 (X.map cX) := sy
  simp [t14]
  refine decL_ct (by omega) fun x3 h5 g5 w5 sz => ?_
  rw [dC] at sz ⊢
  replace sz : Sls h5.get 3 x3 (L.map cL) := sz
  have gb5 : Ge g h5 := gb.trans (g3.trans (g4.trans g5))
  have sx5 := (sx.ge w3 g4).ge w4 g5
  have sy5 := sy.ge w4 g5
  have s65 := s6.ge wb (g3.trans (g4.trans g5))
  have s75 := s7.ge wb (g3.trans (g4.trans g5))
  have sn5 := sn.ge wa gb5
  have lx := sx5.len
  have ly := sy5.len
  have lz := sz.len
  have ln := sn5.len
  simp [hXl, hLl] at lx ly lz ln
  simp [t5, lx, ly, lz, ln]
  -- each is as it was
  refine loop_cutS (id := 4) (fun t h6 => (t 6 = v6 ∧ t 17 = x2) ∧ h5 = h6) (fun R hR => ?_) ?_
  · refine loop_up (fun i t h6 => (t 5 = n ∧ t 6 = v6 ∧ t 7 = v7 ∧ t 16 = x1 ∧ t 17 = x2 ∧ t 18 = x3 ∧ t 19 = .int .i64 (i : Nat)) ∧ h5 = h6) N.length ⟨by simp [t5, t6, t7], rfl⟩ ?_
    rintro i t _ hi ⟨⟨t5, t6, t7, t16, t17, t18, t19⟩, rfl⟩ K hK
    by_cases hlt : i < N.length
    · obtain ⟨p1, q1, o1, c1, a1, b1, d1⟩ := sx5.at1 (f := fun x : Nat => V.int .u32 x) hlt
      obtain ⟨p2, q2, o2, c2, a2, b2, d2⟩ := sn5.at1 (f := fun x : Nat => V.int .u32 x) hlt
      obtain ⟨p3, q3, o3, c3, a3, b3, d3⟩ := sy5.at1 (f := fun x : Nat => V.int .u64 x) (k := i) (by omega)
      obtain ⟨p4, q4, o4, c4, a4, b4, d4⟩ := s65.at1 (f := fun x : Nat => V.int .u64 x) (k := i) (by omega)
      obtain ⟨p5, q5, o5, c5, a5, b5, d5, f5, _⟩ := sz.at (k := i) (by simp; omega)
      obtain ⟨p6, q6, o6, c6, a6, b6, d6, f6, _⟩ := s75.at (k := i) (by simp; omega)
      have f5' : (c5.drop o5).take 3 = cL (L[i]'(by omega)) := by rw [f5]; simp
      have f6' : (c6.drop o6).take 3 = cL (L[i]'(by omega)) := by rw [f6]; simp
      have eq := eq_lg (L[i]'(by omega)) (L[i]'(by omega))
      have w1 := wrap_succ hlt (by omega)
      simp [t5, t19, ln, hlt]
      refine dreg_of ?_
      simp [t5, t6, t7, t16, t17, t18, t19, a1, b1, d1, a2, b2, d2, a3, b3, d3, a4, b4, d4, a5, b5, d5, f5', a6, b6, d6, f6', eq, w1]
      refine hK _ _ hlt ⟨?_, rfl⟩
      simp [t5, t6, t7, t16, t17, t18]
    · simp [t5, t19, ln, hlt]
      exact hR _ _ ⟨⟨t6, t17⟩, rfl⟩
  rintro t _ ⟨⟨t6, t17⟩, rfl⟩
  simp [t6, t17]
  refine meet_ct s65 sy5 (fun e => hne (List.eq_nil_of_length_eq_zero (by rw [← hXl, e]; rfl))) _ ?_
  simp
  refine works_ct _ _ ?_
  simp
  exact ga.trans gb5
end Go.Am

/-
  A list of numbers as an argument.
-/
namespace Go.Am
open Go.Proofs

theorem num_of {vs : List V} (h : Lfs [.int .u32] vs) : ∃ n : Nat, vs = cP n ∧ n < 4294967296 := by
  cases h with
  | cons k t =>
    cases t
    obtain ⟨n, rfl, hn⟩ := Lf.nat k rfl
    exact ⟨n, rfl, hn⟩
theorem nums_of : ∀ {ess : List (List V)}, (∀ e ∈ ess, Lfs [.int .u32] e) → ∃ l : List Nat, ess = l.map cP ∧ ∀ n ∈ l, n < 4294967296
  | [], _ => ⟨[], rfl, by simp⟩
  | e :: ess, h => by
    obtain ⟨n, rfl, hn⟩ := num_of (h e (by simp))
    obtain ⟨l, rfl, hl⟩ := nums_of (ess := ess) fun x hx => h x (by simp [hx])
    exact ⟨n :: l, rfl, fun x hx => by
      rcases List.mem_cons.1 hx with rfl | hx
      · exact hn
      · exact hl x hx⟩
end Go.Am
