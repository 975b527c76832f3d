/-
  TR14, WK, LO, LA, LH, LU, in one text.
-/
import Derived.Test.YtjejnanjelooiaaDoorQMB
import Derived.Test.YtjejnanjelooiaaDoorQSkRg
import Derived.Test.YtjejnanjelooiaaDoorQAm24
import Derived.Test.YtjejnanjelooiaaDoorQAm21
import Derived.Test.YtjejnanjelooiaaDoorQQwTab
import Derived.KernelRfl
import Derived.Test.YtjejnanjelooiaaDoorQAm33
/-
  Lists of what is told: the rounds of 'all' and 'under'.
-/
namespace Go.Am
open Go.Proofs

set_option maxRecDepth 100000
theorem ne_a (n : Nat) : ¬ n = n + 1 + 1 := by omega
theorem ne_b (n : Nat) : ¬ n = n + 1 + 1 + 1 := by omega
theorem ne_c (n : Nat) : ¬ n = n + 1 + 1 + 1 + 1 := by omega
theorem ne_d (n : Nat) : ¬ n = n + 1 + 1 + 1 + 1 + 1 := by omega
theorem eqV_fn (f : Fn) (a b : List V) : eqV .func (.func f a b) .nilfunc = some false := rfl
/-- What was told so far stands in a list that grows, in the box 'ob'. -/
def outJ (h3 : H) (ob : Nat) (r0 : LoopV) (pre : List (Pfx × Int)) (h : H) : Prop :=
  h.WF ∧ h3.next + 2 ≤ h.next ∧ (∀ j, j < h3.next → j ≠ ob → h.get j = h3.get j) ∧ h.get h3.next = some (.defo true) ∧ h.get (h3.next + 1) = some (.loopo r0) ∧ ∃ ov, h.get ob = some (.row [ov]) ∧ Gl h (h3.next + 2) 5 ov (pre.map pairC)
theorem pairC_len (x : Pfx × Int) : (pairC x).length = 5 := rfl
theorem pairC_all (l : List (Pfx × Int)) : ∀ e ∈ l.map pairC, e.length = 5 := fun e he => by
  obtain ⟨x, _, rfl⟩ := List.mem_map.1 he; rfl
theorem pair_ids : ∀ l : List (Pfx × Int), V.idss (l.map pairC).flatten = []
  | [] => rfl
  | x :: l => by
    simp [pairC, V.idss, V.ids, pair_ids l]
theorem outJ_sat {h3 : H} {ob : Nat} {r0 : LoopV} (hob : ob < h3.next) (w : h3.WF) (pre : List (Pfx × Int)) : ∃ h, outJ h3 ob r0 pre h := by
  obtain ⟨H0, hH0⟩ : ∃ H0, H0 = (h3.push (.defo true)).push (.loopo r0) := ⟨_, rfl⟩
  have n0 : H0.next = h3.next + 2 := by rw [hH0]; simp
  have w0 : H0.WF := by rw [hH0]; exact (w.push _).push _
  have k0 : ∀ j, j < h3.next → H0.get j = h3.get j := fun j hj => by rw [hH0]; simp [show ¬ j = h3.next by omega, show ¬ j = h3.next + 1 by omega]
  have d0 : H0.get h3.next = some (.defo true) := by rw [hH0]; simp
  have l0 : H0.get (h3.next + 1) = some (.loopo r0) := by rw [hH0]; simp
  cases pre with
  | nil =>
    refine ⟨H0.set ob (.row [.nilsl]), w0.set (by omega) _, by simp; omega, fun j hj hn => by rw [H.get_set, if_neg hn, k0 j hj], by rw [H.get_set, if_neg (by omega), d0], by rw [H.get_set, if_neg (by omega), l0], .nilsl, by simp, .inl ⟨rfl, rfl⟩⟩
  | cons x l =>
    refine ⟨(H0.push (.grow 5 (((x :: l).map pairC).flatten))).set ob (.row [.sl H0.next (((x :: l).map pairC).flatten).length 0 ((x :: l).map pairC).length none]), (w0.push _).set (by simp; omega) _, by simp; omega, fun j hj hn => by rw [H.get_set, if_neg hn, H.get_push, if_neg (by omega), k0 j hj],
      by rw [H.get_set, if_neg (by omega), H.get_push, if_neg (by omega), d0], by rw [H.get_set, if_neg (by omega), H.get_push, if_neg (by omega), l0], _, by rw [H.get_set, if_pos rfl], .inr ⟨by simp, H0.next, by omega, by simp, rfl, by rw [H.get_set, if_neg (by omega), H.get_push, if_pos rfl]⟩⟩
theorem outJ_mono {h3 : H} {ob : Nat} {r0 : LoopV} (hob : ob < h3.next) {pre : List (Pfx × Int)} {h h' : H} (j : outJ h3 ob r0 pre h) (g : Ge h h') (w : h'.WF) : outJ h3 ob r0 pre h' := by
  obtain ⟨a, b, c, d, e, ov, f, gl⟩ := j
  refine ⟨w, Nat.le_trans b g.1, fun j hj hn => (g.2 j (by omega)).trans (c j hj hn), (g.2 _ (by omega)).trans d, (g.2 _ (by omega)).trans e, ov, (g.2 _ (by omega)).trans f, gl.keep g.1 fun i hi => g.2 i (gl.lo i hi).2⟩
/-- The list's end: a fresh one. -/
theorem outJ_end {h3 : H} {ob : Nat} {r0 : LoopV} {l : List (Pfx × Int)} {h : H} (j : outJ h3 ob r0 l h) : ∃ ov, h.get ob = some (.row [ov]) ∧ ((ov = .nilsl ∧ (l.map pairC).flatten = []) ∨ ((l.map pairC).flatten ≠ [] ∧ ∃ j, ov = .sl j (l.map pairC).flatten.length 0 l.length none ∧ h3.next + 2 ≤ j ∧ j < h.next ∧ h.get j = some (.grow 5 (l.map pairC).flatten))) := by
  obtain ⟨a, b, c, d, e, ov, f, gl⟩ := j
  refine ⟨ov, f, ?_⟩
  rcases gl with ⟨e1, e2⟩ | ⟨e1, j, j1, j2, j3, j4⟩
  · exact .inl ⟨e2, by rw [e1]; rfl⟩
  · refine .inr ⟨fun e0 => e1 ?_, j, by simpa using j3, j1, j2, j4⟩
    cases l with
    | nil => rfl
    | cons x l => simp [pairC] at e0

theorem all_round {h3 : H} {ob nb : Nat} {r0 : LoopV} {n : Nat} (hwf3 : h3.WF) (hob : ob < h3.next) (hnb : h3.get nb = some (.row [.int .i64 (n : Nat)])) (hne : nb ≠ ob) (hn : n < 1000000000) (hst : r0.st = .ready) (hpd : r0.pending = none) (has : r0.assign = S.Hlaw03_all_as) (hbd : r0.body = S.Hlaw03_all_bd)
    (hps : r0.params = #[16, 17]) (htl : r0.tmps.length = 30) (t5 : r0.tmps[5]? = some (.ptr ob 1 0)) (t3 : r0.tmps[3]? = some (.ptr nb 1 0)) {pre : List (Pfx × Int)} {x : Pfx × Int} {h : H} (hJ : outJ h3 ob r0 pre h) (hl : pre.length + 1 ≤ n) :
    Ayields Tryd.prog (h3.next + 1) [.agg (pfxC x.1), .int .i64 x.2] h fun r h' => r = .bool true ∧ outJ h3 ob r0 (pre ++ [x]) h' := by
  obtain ⟨w, b1, k1, d1, l1, ov, f1, gl⟩ := hJ
  refine ayields_of l1 (ca := S.Hlaw03_all_ca) (cb := S.Hlaw03_all_cb) (by rw [htl, has]; exact S.Hlaw03_all_cas) (by rw [htl, hbd]; exact S.Hlaw03_all_cbd) (by rw [hps]; rfl) (by rw [hps, htl]; simp) ?_
  rw [hps]
  simp only [S.Hlaw03_all_ca, pfxC]
  simp
  obtain ⟨h1, hh1⟩ : ∃ h1, h1 = (h.push (.row [.int .i64 0, .int .u64 0, .str [], .int .i64 0])).set h.next (.row (pfxC x.1)) := ⟨_, rfl⟩
  have n1 : h1.next = h.next + 1 := by rw [hh1]; simp
  have w1 : h1.WF := by rw [hh1]; exact (w.push _).set (by simp) _
  have g1 : Ge h h1 := by rw [hh1]; exact ((Ge.refl _).push _).set (Nat.le_refl _) _
  have p1 : h1.get h.next = some (.row (pfxC x.1)) := by rw [hh1]; simp
  simp only [pfxC] at hh1
  rw [← hh1]
  refine ⟨r0, by rw [if_neg (by omega), if_neg (by omega)]; exact l1, hst, ?_⟩
  obtain ⟨r1, hr1⟩ : ∃ r1 : LoopV, r1 = { r0 with st := .busy, pending := r0.pending } := ⟨_, rfl⟩
  have hr2 : ({ r1 with st := .ready, pending := none } : LoopV) = r0 := by rw [hr1]; cases r0; simp_all
  rw [← hr1]
  obtain ⟨h2, hh2⟩ : ∃ h2, h2 = h1.set (h3.next + 1) (.loopo r1) := ⟨_, rfl⟩
  rw [← hh2]
  have k2 : ∀ j, j ≠ h3.next + 1 → h2.get j = h1.get j := fun j hj => by rw [hh2, H.get_set, if_neg hj]
  have n2 : h2.next = h.next + 1 := by rw [hh2]; simpa using n1
  have w2 : h2.WF := by rw [hh2]; exact w1.set (by omega) _
  have l2 : h2.get (h3.next + 1) = some (.loopo r1) := by rw [hh2]; simp
  have o2 : h2.get ob = some (.row [ov]) := (k2 ob (by omega)).trans ((g1.2 ob (by omega)).trans f1)
  have nblt : nb < h3.next := by
    have := k1 nb
    rcases Nat.lt_or_ge nb h3.next with h | h
    · exact h
    · exfalso
      by_cases e : nb = h3.next
      · have := hwf3 _ (Nat.le_of_eq e.symm); rw [this] at hnb; cases hnb
      · have := hwf3 nb h; rw [this] at hnb; cases hnb
  have nb2 : h2.get nb = some (.row [.int .i64 (n : Nat)]) := (k2 nb (by omega)).trans ((g1.2 nb (by omega)).trans ((k1 nb nblt hne).trans hnb))
  have q2 : h2.get h.next = some (.row (pfxC x.1)) := (k2 h.next (by omega)).trans p1
  have co : cellsAt h2.get ob 1 = some [ov] := by rw [cellsAt_of o2 (by rfl)]; rfl
  have cq : cellsAt h2.get h.next 4 = some (pfxC x.1) := by rw [cellsAt_of q2 (by rfl)]; rfl
  have gl2 : Gl h2 (h3.next + 2) 5 ov (pre.map pairC) := gl.keep (by omega) fun i hi => by
    have := gl.lo i hi
    rw [k2 i (by omega), g1.2 i this.2]
  -- one append
  obtain ⟨h4, hh4⟩ : ∃ h4, h4 = h2.push (.row (pairC x)) := ⟨_, rfl⟩
  have g4 : Ge h2 h4 := by rw [hh4]; exact (Ge.refl _).push _
  have w4 : h4.WF := by rw [hh4]; exact w2.push _
  have n4 : h4.next = h2.next + 1 := by rw [hh4]; simp
  have gl4 : Gl h4 (h3.next + 2) 5 ov (pre.map pairC) := gl2.keep g4.1 fun i hi => g4.2 i (gl2.lo i hi).2
  have el : elemsV h4.get 5 (.sl h2.next 5 0 1 (some 1)) = some (1, pairC x) := by rw [hh4]; simp [elemsV_sl, pairC]
  obtain ⟨ov', dd, A1, A2, A3, A4, A5⟩ := gl4.append (by omega) (pairC_all pre) (pairC_len x) el (by simp [pairC]) (by omega) (bytes := 48) (by simp; omega) (by simp; omega)
  obtain ⟨h5, hh5⟩ : ∃ h5, h5 = h4.app dd := ⟨_, rfl⟩
  rw [← hh5] at A2 A3 A4 A5
  have nov : ∀ j, j < h3.next + 2 → j ∉ ov.ids := fun j hj hm => by have := (gl.lo j hm).1; omega
  have o5 : h5.get ob = some (.row [ov]) := (A4 ob (nov ob (by omega)) (by omega)).trans ((g4.2 ob (by omega)).trans o2)
  have A1' := A1
  have o5' := o5
  rw [hh5] at o5'
  rw [hh4] at A1' o5'
  simp only [H.next_push, pairC] at A1' o5'
  have hov1 := A2.one
  have cov := cells_of_one hov1
  have sov := solid_of_one hov1
  have len2 : lenV 1 h5.get ov' = some (.int .i64 ((pre.length + 1 : Nat) : Int)) := by
    have := (A2.sls (by intro e he; rcases List.mem_append.1 he with he | he; exact pairC_all pre e he; rw [List.mem_singleton] at he; subst he; rfl) (by simp; omega)).len
    simpa using this
  obtain ⟨h6, hh6⟩ : ∃ h6, h6 = h5.set ob (.row [ov']) := ⟨_, rfl⟩
  have o6 : h6.get ob = some (.row [ov']) := by rw [hh6]; simp
  have k6 : ∀ j, j ≠ ob → h6.get j = h5.get j := fun j hj => by rw [hh6, H.get_set, if_neg hj]
  have k5 : ∀ j, j < h3.next + 2 → h5.get j = h2.get j := fun j hj => (A4 j (nov j hj) (by omega)).trans (g4.2 j (by omega))
  have nb6 : h6.get nb = some (.row [.int .i64 (n : Nat)]) := (k6 nb hne).trans ((k5 nb (by omega)).trans nb2)
  have co6 : cellsAt h6.get ob 1 = some [ov'] := by rw [cellsAt_of o6 (by rfl)]; rfl
  have cn6 : cellsAt h6.get nb 1 = some [.int .i64 (n : Nat)] := by rw [cellsAt_of nb6 (by rfl)]; rfl
  have len6 : lenV 1 h6.get ov' = some (.int .i64 ((pre.length + 1 : Nat) : Int)) := by
    rcases A2 with ⟨e, _⟩ | ⟨_, j, _, _, e, _⟩
    · simp at e
    · rw [e] at len2 ⊢; simp
  have nlt : ¬ (n : Int) < ((pre.length + 1 : Nat) : Int) := by omega
  simp only [pfxC] at cq
  simp only [S.Hlaw03_all_cb]
  simp [t5, co, cq, A1', o5', sov, cov]
  simp only [pairC] at hh4
  rw [← hh4, ← hh5, ← hh6]
  have l6 : h6.get (h3.next + 1) = some (.loopo r1) := (k6 _ (by omega)).trans ((k5 _ (by omega)).trans l2)
  have lenI : ((pre.length + 1 : Nat) : Int) = (pre.length : Int) + 1 := by omega
  rw [lenI] at len6 nlt
  simp [t3, cn6, len6, nlt]
  refine ⟨r1, l6, ?_⟩
  rw [hr2]
  have n5 : h4.next ≤ h5.next := A3
  have n6 : h6.next = h5.next := by rw [hh6]; simp
  have w6 : h6.WF := by rw [hh6]; exact (A5 w4).set (by omega) _
  have kk : ∀ j, j < h3.next + 2 → j ≠ ob → j ≠ h3.next + 1 → h6.get j = h.get j := fun j a b c => (k6 j b).trans ((k5 j a).trans ((k2 j c).trans (g1.2 j (by omega))))
  refine ⟨w6.set (by omega) _, by simp; omega, fun j hj hn => ?_, ?_, by simp, ov', ?_, ?_⟩
  · rw [H.get_set, if_neg (by omega), kk j (by omega) hn (by omega), k1 j hj hn]
  · rw [H.get_set, if_neg (by omega), kk _ (by omega) (by omega) (by omega), d1]
  · rw [H.get_set, if_neg (by omega), o6]
  · have A2' : Gl h5 (h3.next + 2) 5 ov' ((pre ++ [x]).map pairC) := by simpa using A2
    exact A2'.keep (by simp; omega) fun i hi => by
      have := (A2'.lo i hi).1
      rw [H.get_set, if_neg (by omega), k6 i (by omega)]

theorem under_round {h3 : H} {ob nb : Nat} {r0 : LoopV} {n : Nat} (hwf3 : h3.WF) (hob : ob < h3.next) (hnb : h3.get nb = some (.row [.int .i64 (n : Nat)])) (hne : nb ≠ ob) (hn : n < 1000000000) (hst : r0.st = .ready) (hpd : r0.pending = none) (has : r0.assign = S.Hlaw03_under_as) (hbd : r0.body = S.Hlaw03_under_bd)
    (hps : r0.params = #[19, 20]) (htl : r0.tmps.length = 33) (t5 : r0.tmps[7]? = some (.ptr ob 1 0)) (t3 : r0.tmps[5]? = some (.ptr nb 1 0)) {pre : List (Pfx × Int)} {x : Pfx × Int} {h : H} (hJ : outJ h3 ob r0 pre h) (hl : pre.length + 1 ≤ n) :
    Ayields Tryd.prog (h3.next + 1) [.agg (pfxC x.1), .int .i64 x.2] h fun r h' => r = .bool true ∧ outJ h3 ob r0 (pre ++ [x]) h' := by
  obtain ⟨w, b1, k1, d1, l1, ov, f1, gl⟩ := hJ
  refine ayields_of l1 (ca := S.Hlaw03_under_ca) (cb := S.Hlaw03_under_cb) (by rw [htl, has]; exact S.Hlaw03_under_cas) (by rw [htl, hbd]; exact S.Hlaw03_under_cbd) (by rw [hps]; rfl) (by rw [hps, htl]; simp) ?_
  rw [hps]
  simp only [S.Hlaw03_under_ca, pfxC]
  simp
  obtain ⟨h1, hh1⟩ : ∃ h1, h1 = (h.push (.row [.int .i64 0, .int .u64 0, .str [], .int .i64 0])).set h.next (.row (pfxC x.1)) := ⟨_, rfl⟩
  have n1 : h1.next = h.next + 1 := by rw [hh1]; simp
  have w1 : h1.WF := by rw [hh1]; exact (w.push _).set (by simp) _
  have g1 : Ge h h1 := by rw [hh1]; exact ((Ge.refl _).push _).set (Nat.le_refl _) _
  have p1 : h1.get h.next = some (.row (pfxC x.1)) := by rw [hh1]; simp
  simp only [pfxC] at hh1
  rw [← hh1]
  refine ⟨r0, by rw [if_neg (by omega), if_neg (by omega)]; exact l1, hst, ?_⟩
  obtain ⟨r1, hr1⟩ : ∃ r1 : LoopV, r1 = { r0 with st := .busy, pending := r0.pending } := ⟨_, rfl⟩
  have hr2 : ({ r1 with st := .ready, pending := none } : LoopV) = r0 := by rw [hr1]; cases r0; simp_all
  rw [← hr1]
  obtain ⟨h2, hh2⟩ : ∃ h2, h2 = h1.set (h3.next + 1) (.loopo r1) := ⟨_, rfl⟩
  rw [← hh2]
  have k2 : ∀ j, j ≠ h3.next + 1 → h2.get j = h1.get j := fun j hj => by rw [hh2, H.get_set, if_neg hj]
  have n2 : h2.next = h.next + 1 := by rw [hh2]; simpa using n1
  have w2 : h2.WF := by rw [hh2]; exact w1.set (by omega) _
  have l2 : h2.get (h3.next + 1) = some (.loopo r1) := by rw [hh2]; simp
  have o2 : h2.get ob = some (.row [ov]) := (k2 ob (by omega)).trans ((g1.2 ob (by omega)).trans f1)
  have nblt : nb < h3.next := by
    have := k1 nb
    rcases Nat.lt_or_ge nb h3.next with h | h
    · exact h
    · exfalso
      by_cases e : nb = h3.next
      · have := hwf3 _ (Nat.le_of_eq e.symm); rw [this] at hnb; cases hnb
      · have := hwf3 nb h; rw [this] at hnb; cases hnb
  have nb2 : h2.get nb = some (.row [.int .i64 (n : Nat)]) := (k2 nb (by omega)).trans ((g1.2 nb (by omega)).trans ((k1 nb nblt hne).trans hnb))
  have q2 : h2.get h.next = some (.row (pfxC x.1)) := (k2 h.next (by omega)).trans p1
  have co : cellsAt h2.get ob 1 = some [ov] := by rw [cellsAt_of o2 (by rfl)]; rfl
  have cq : cellsAt h2.get h.next 4 = some (pfxC x.1) := by rw [cellsAt_of q2 (by rfl)]; rfl
  have gl2 : Gl h2 (h3.next + 2) 5 ov (pre.map pairC) := gl.keep (by omega) fun i hi => by
    have := gl.lo i hi
    rw [k2 i (by omega), g1.2 i this.2]
  -- one append
  obtain ⟨h4, hh4⟩ : ∃ h4, h4 = h2.push (.row (pairC x)) := ⟨_, rfl⟩
  have g4 : Ge h2 h4 := by rw [hh4]; exact (Ge.refl _).push _
  have w4 : h4.WF := by rw [hh4]; exact w2.push _
  have n4 : h4.next = h2.next + 1 := by rw [hh4]; simp
  have gl4 : Gl h4 (h3.next + 2) 5 ov (pre.map pairC) := gl2.keep g4.1 fun i hi => g4.2 i (gl2.lo i hi).2
  have el : elemsV h4.get 5 (.sl h2.next 5 0 1 (some 1)) = some (1, pairC x) := by rw [hh4]; simp [elemsV_sl, pairC]
  obtain ⟨ov', dd, A1, A2, A3, A4, A5⟩ := gl4.append (by omega) (pairC_all pre) (pairC_len x) el (by simp [pairC]) (by omega) (bytes := 48) (by simp; omega) (by simp; omega)
  obtain ⟨h5, hh5⟩ : ∃ h5, h5 = h4.app dd := ⟨_, rfl⟩
  rw [← hh5] at A2 A3 A4 A5
  have nov : ∀ j, j < h3.next + 2 → j ∉ ov.ids := fun j hj hm => by have := (gl.lo j hm).1; omega
  have o5 : h5.get ob = some (.row [ov]) := (A4 ob (nov ob (by omega)) (by omega)).trans ((g4.2 ob (by omega)).trans o2)
  have A1' := A1
  have o5' := o5
  rw [hh5] at o5'
  rw [hh4] at A1' o5'
  simp only [H.next_push, pairC] at A1' o5'
  have hov1 := A2.one
  have cov := cells_of_one hov1
  have sov := solid_of_one hov1
  have len2 : lenV 1 h5.get ov' = some (.int .i64 ((pre.length + 1 : Nat) : Int)) := by
    have := (A2.sls (by intro e he; rcases List.mem_append.1 he with he | he; exact pairC_all pre e he; rw [List.mem_singleton] at he; subst he; rfl) (by simp; omega)).len
    simpa using this
  obtain ⟨h6, hh6⟩ : ∃ h6, h6 = h5.set ob (.row [ov']) := ⟨_, rfl⟩
  have o6 : h6.get ob = some (.row [ov']) := by rw [hh6]; simp
  have k6 : ∀ j, j ≠ ob → h6.get j = h5.get j := fun j hj => by rw [hh6, H.get_set, if_neg hj]
  have k5 : ∀ j, j < h3.next + 2 → h5.get j = h2.get j := fun j hj => (A4 j (nov j hj) (by omega)).trans (g4.2 j (by omega))
  have nb6 : h6.get nb = some (.row [.int .i64 (n : Nat)]) := (k6 nb hne).trans ((k5 nb (by omega)).trans nb2)
  have co6 : cellsAt h6.get ob 1 = some [ov'] := by rw [cellsAt_of o6 (by rfl)]; rfl
  have cn6 : cellsAt h6.get nb 1 = some [.int .i64 (n : Nat)] := by rw [cellsAt_of nb6 (by rfl)]; rfl
  have len6 : lenV 1 h6.get ov' = some (.int .i64 ((pre.length + 1 : Nat) : Int)) := by
    rcases A2 with ⟨e, _⟩ | ⟨_, j, _, _, e, _⟩
    · simp at e
    · rw [e] at len2 ⊢; simp
  have nlt : ¬ (n : Int) < ((pre.length + 1 : Nat) : Int) := by omega
  simp only [pfxC] at cq
  simp only [S.Hlaw03_under_cb]
  simp [t5, co, cq, A1', o5', sov, cov]
  simp only [pairC] at hh4
  rw [← hh4, ← hh5, ← hh6]
  have l6 : h6.get (h3.next + 1) = some (.loopo r1) := (k6 _ (by omega)).trans ((k5 _ (by omega)).trans l2)
  have lenI : ((pre.length + 1 : Nat) : Int) = (pre.length : Int) + 1 := by omega
  rw [lenI] at len6 nlt
  simp [t3, cn6, len6, nlt]
  refine ⟨r1, l6, ?_⟩
  rw [hr2]
  have n5 : h4.next ≤ h5.next := A3
  have n6 : h6.next = h5.next := by rw [hh6]; simp
  have w6 : h6.WF := by rw [hh6]; exact (A5 w4).set (by omega) _
  have kk : ∀ j, j < h3.next + 2 → j ≠ ob → j ≠ h3.next + 1 → h6.get j = h.get j := fun j a b c => (k6 j b).trans ((k5 j a).trans ((k2 j c).trans (g1.2 j (by omega))))
  refine ⟨w6.set (by omega) _, by simp; omega, fun j hj hn => ?_, ?_, by simp, ov', ?_, ?_⟩
  · rw [H.get_set, if_neg (by omega), kk j (by omega) hn (by omega), k1 j hj hn]
  · rw [H.get_set, if_neg (by omega), kk _ (by omega) (by omega) (by omega), d1]
  · rw [H.get_set, if_neg (by omega), o6]
  · have A2' : Gl h5 (h3.next + 2) 5 ov' ((pre ++ [x]).map pairC) := by simpa using A2
    exact A2'.keep (by simp; omega) fun i hi => by
      have := (A2'.lo i hi).1
      rw [H.get_set, if_neg (by omega), k6 i (by omega)]

theorem all_iter {h : H} {i : Nat} {Q : V → H → Prop} (q : h.WF → Q (.func (.func 57) [] [.ptr h.next 1 0]) (h.push (.row [.ptr i 3 0]))) : Acalls Tryd.prog 38 [.ptr i 3 0] h Q := by
  refine acalls_to Tryd.func38 S.trie_Trie_int_All_code S.trie_Trie_int_All_enter (Nat.le_of_ble_eq_true rfl) fun wf => ?_; simp only [S.trie_Trie_int_All]
  simp
  exact q wf
theorem all_loop {h3 : H} {i : Nat} {rs : List Rt} {m : Nat} {ns : List Nat} {n : Nat} (t : Tm) (w3 : h3.WF) (o : RsOk rs) (ta : TrieAt h3 i rs m ns) {ob nb tb : Nat} (nsn : ∀ j ∈ ns, j < h3.next ∧ j ≠ ob) (hb : rs.length ≤ 1000000) (hn : n < 1000000000) (hl : (rsPairs rs).length ≤ n)
    (hob : ob < h3.next) (ob3 : h3.get ob = some (.row [.nilsl])) (nb3 : h3.get nb = some (.row [.int .i64 (n : Nat)])) (hne : nb ≠ ob) (tb3 : h3.get tb = some (.row [.ptr i 3 0])) (htb : tb < h3.next ∧ tb ≠ ob) (t5 : t 5 = .ptr ob 1 0) (t3 : t 3 = .ptr nb 1 0) :
    Acalls Tryd.prog 57 [.yl (h3.next + 1), .ptr tb 1 0] (loopH 30 t #[16, 17] S.Hlaw03_all_as S.Hlaw03_all_bd h3) fun r h2 => r = .tup [] ∧
      outJ h3 ob ⟨.ready, none, (List.range 30).map t, #[16, 17], S.Hlaw03_all_as, S.Hlaw03_all_bd, h3.next⟩ (rsPairs rs) h2 := by
  obtain ⟨r0, hr0⟩ : ∃ r0 : LoopV, r0 = ⟨.ready, none, (List.range 30).map t, #[16, 17], S.Hlaw03_all_as, S.Hlaw03_all_bd, h3.next⟩ := ⟨_, rfl⟩
  have J0 : outJ h3 ob r0 [] (loopH 30 t #[16, 17] S.Hlaw03_all_as S.Hlaw03_all_bd h3) := by
    have e1 : ¬ ob = h3.next := by omega
    have e2 : ¬ ob = h3.next + 1 := by omega
    refine ⟨(w3.push _).push _, by simp [loopH], fun j hj hn => ?_, by simp [loopH], by simp [loopH, hr0], .nilsl, by simp [loopH, e1, e2, ob3], .inl ⟨rfl, rfl⟩⟩
    simp [loopH, show ¬ j = h3.next by omega, show ¬ j = h3.next + 1 by omega]
  rw [← hr0]
  have tl : Telling (h3.next + 1) 59 [] h3 ns (rsPairs rs) (outJ h3 ob r0) := by
    refine ⟨fun pre _ => outJ_sat hob w3 pre, fun pre h hj => hj.1, fun pre h hj j hjn => hj.2.2.1 j (nsn j hjn).1 (nsn j hjn).2, fun pre h h' hj g w => outJ_mono hob hj g w, fun pre x h hj hpre => ?_⟩
    refine all_round w3 hob nb3 hne hn (by rw [hr0]) (by rw [hr0]) (by rw [hr0]) (by rw [hr0]) (by rw [hr0]) (by rw [hr0]; simp) (by rw [hr0]; simp [t5]) (by rw [hr0]; simp [t3]) hj ?_
    have := hpre.length_le
    simp at this
    omega
  exact all1_ct tl o ta hb rfl (fun pre h hj => (hj.2.2.1 tb htb.1 htb.2).trans tb3) J0
theorem all_ct {h : H} {i : Nat} {rs : List Rt} {m : Nat} {ns : List Nat} (o : RsOk rs) (ta : TrieAt h i rs m ns) (hb : rs.length ≤ 1000000) {n : Nat} (hn : n < 1000000000) (hl : (rsPairs rs).length ≤ n) {Q : V → H → Prop}
    (q1 : ((rsPairs rs).map pairC).flatten = [] → Q .nilsl h) (q2 : ((rsPairs rs).map pairC).flatten ≠ [] → Q (.sl h.next ((rsPairs rs).map pairC).flatten.length 0 (rsPairs rs).length none) (h.push (.grow 5 ((rsPairs rs).map pairC).flatten))) :
    Acalls Tryd.prog 16 [.ptr i 3 0, .int .i64 (n : Nat)] h Q := by
  obtain ⟨cells, hcells⟩ : ∃ cells, cells = ((rsPairs rs).map pairC).flatten := ⟨_, rfl⟩
  obtain ⟨len, hlen⟩ : ∃ len, len = (rsPairs rs).length := ⟨_, rfl⟩
  have hids : V.idss cells = [] := by rw [hcells]; exact pair_ids _
  simp only [← hcells, ← hlen] at q1 q2
  refine Acalls.fresh (sz := 5) (len := len) (cells := cells) ?_ hids q1 q2
  refine acalls_range_to Tryd.func16 S.Hlaw03_all_rcode S.Hlaw03_all_enter (Nat.le_of_ble_eq_true rfl) fun wf => ?_
  have tlt := ta.lt wf
  simp only [S.Hlaw03_all_r]
  simp [ne_b, ne_c, ne_d]
  refine all_iter fun wf3 => ?_
  simp [eqV_fn, ne_d]
  obtain ⟨h3, hh3⟩ : ∃ h3, h3 = (((h.push (.row [.int .i64 (n : Nat)])).push (.row [.nilsl])).push (.row [.nilsl])).push (.row [.ptr i 3 0]) := ⟨_, rfl⟩
  rw [← hh3]
  have w3 : h3.WF := by rw [hh3]; exact (((wf.push _).push _).push _).push _
  have n3 : h3.next = h.next + 4 := by rw [hh3]; simp
  have g3 : Ge h h3 := by rw [hh3]; exact ((((Ge.refl _).push _).push _).push _).push _
  have ob3 : h3.get (h.next + 1 + 1) = some (.row [.nilsl]) := by rw [hh3]; simp
  have nb3 : h3.get (h.next + 0) = some (.row [.int .i64 (n : Nat)]) := by rw [hh3]; simp [ne_a, ne_b]
  have rs3 : h3.get (h.next + 1) = some (.row [.nilsl]) := by rw [hh3]; simp
  have tb3 : h3.get (h.next + 1 + 1 + 1) = some (.row [.ptr i 3 0]) := by rw [hh3]; simp
  skip
  refine rfor_of _ ?_
  have nsn : ∀ j ∈ ns, j < h3.next ∧ j ≠ h.next + 1 + 1 := fun j hj => by have := tlt j hj; omega
  refine Acalls.mono (all_loop (i := i) (rs := rs) (m := m) (ns := ns) (n := n) _ w3 o (ta.keep fun j hj => g3.2 j (tlt j hj)) nsn hb hn hl (ob := h.next + 1 + 1) (nb := h.next + 0) (tb := h.next + 1 + 1 + 1) (by omega) ob3 nb3 (by omega) tb3 (by omega) (by simp) (by simp)) ?_
  rintro _ h2 ⟨rfl, hJ2⟩
  have hJ2' := hJ2
  obtain ⟨w2, b2, k2, d2, l2, _⟩ := hJ2
  refine ⟨by simpa using d2, _, l2, by simp, ?_⟩
  obtain ⟨ov, f2, hov⟩ := outJ_end hJ2'
  rw [← hcells, ← hlen] at hov
  have co : cellsAt h2.get (h.next + 1 + 1) 1 = some [ov] := by rw [cellsAt_of f2 (by rfl)]; rfl
  have ov1 : ov.one = true := by rcases hov with ⟨rfl, _⟩ | ⟨_, j, rfl, _⟩ <;> rfl
  have cov := cells_of_one ov1
  have sov := solid_of_one ov1
  have rs2 : h2.get (h.next + 1) = some (.row [.nilsl]) := (k2 _ (by omega) (by omega)).trans rs3
  have m1 : ¬ h.next + 1 + 1 = h3.next + 1 := by omega
  have m2 : ¬ h.next + 1 = h3.next + 1 := by omega
  have m3 : ¬ h.next + 1 = h3.next := by omega
  have m4 : ¬ h3.next = h.next + 1 := by omega
  have m5 : ¬ h.next = h3.next := by omega
  have m6 : ¬ h.next + 1 = h3.next := by omega
  have m7 : ¬ h.next + 1 + 1 = h3.next := by omega
  have m8 : ¬ h3.next = h.next := by omega
  have m9 : ¬ h3.next = h.next + 1 := by omega
  have d2' : h2.get h3.next = some (.defo true) := d2
  simp [co, rs2, m3, m4, m5, sov, cov, d2', ne_a, ne_c, ne_d]
  refine ⟨⟨by simp only [H.next_set]; omega, fun j hj => ?_⟩, ?_⟩
  · rw [H.get_set, if_neg (by omega), H.get_set, if_neg (by omega), H.get_set, if_neg (by omega), k2 j (by omega) (by omega), g3.2 j hj]
  · rcases hov with ⟨e1, e2⟩ | ⟨e1, j, e2, e3, e4, e5⟩
    · exact .inl ⟨e1, e2⟩
    · exact .inr ⟨e1, j, e2, by omega, by rw [if_neg (by omega), if_neg (by omega), if_neg (by omega)]; exact e5⟩

theorem under_iter {h : H} {i : Nat} {p : Pfx} {Q : V → H → Prop} (q : h.WF → Q (.func (.func 63) [] [.ptr h.next 1 0, .ptr (h.next + 1) 4 0]) ((h.push (.row [.ptr i 3 0])).push (.row (pfxC p)))) : Acalls Tryd.prog 47 [.ptr i 3 0, .agg (pfxC p)] h Q := by
  refine acalls_to Tryd.func47 S.trie_Trie_int_Under_code S.trie_Trie_int_Under_enter (Nat.le_of_ble_eq_true rfl) fun wf => ?_; simp only [S.trie_Trie_int_Under]
  simp only [pfxC] at q ⊢
  simp
  exact q wf
theorem under_loop {h3 : H} {i : Nat} {rs : List Rt} {m : Nat} {ns : List Nat} {n : Nat} (t : Tm) (w3 : h3.WF) (o : RsOk rs) (ta : TrieAt h3 i rs m ns) {ob nb tb pb : Nat} (nsn : ∀ j ∈ ns, j < h3.next ∧ j ≠ ob) (hb : rs.length ≤ 1000000) (hn : n < 1000000000) {p : Pfx} (hl : (tunder rs p).length ≤ n)
    (pb3 : h3.get pb = some (.row (pfxC p))) (hpb : pb < h3.next ∧ pb ≠ ob) (hob : ob < h3.next) (ob3 : h3.get ob = some (.row [.nilsl])) (nb3 : h3.get nb = some (.row [.int .i64 (n : Nat)])) (hne : nb ≠ ob) (tb3 : h3.get tb = some (.row [.ptr i 3 0])) (htb : tb < h3.next ∧ tb ≠ ob) (t5 : t 7 = .ptr ob 1 0) (t3 : t 5 = .ptr nb 1 0) :
    Acalls Tryd.prog 63 [.yl (h3.next + 1), .ptr tb 1 0, .ptr pb 4 0] (loopH 33 t #[19, 20] S.Hlaw03_under_as S.Hlaw03_under_bd h3) fun r h2 => r = .tup [] ∧
      outJ h3 ob ⟨.ready, none, (List.range 33).map t, #[19, 20], S.Hlaw03_under_as, S.Hlaw03_under_bd, h3.next⟩ (tunder rs p) h2 := by
  obtain ⟨r0, hr0⟩ : ∃ r0 : LoopV, r0 = ⟨.ready, none, (List.range 33).map t, #[19, 20], S.Hlaw03_under_as, S.Hlaw03_under_bd, h3.next⟩ := ⟨_, rfl⟩
  have J0 : outJ h3 ob r0 [] (loopH 33 t #[19, 20] S.Hlaw03_under_as S.Hlaw03_under_bd h3) := by
    have e1 : ¬ ob = h3.next := by omega
    have e2 : ¬ ob = h3.next + 1 := by omega
    refine ⟨(w3.push _).push _, by simp [loopH], fun j hj hn => ?_, by simp [loopH], by simp [loopH, hr0], .nilsl, by simp [loopH, e1, e2, ob3], .inl ⟨rfl, rfl⟩⟩
    simp [loopH, show ¬ j = h3.next by omega, show ¬ j = h3.next + 1 by omega]
  rw [← hr0]
  have tl : Telling (h3.next + 1) 64 [.ptr pb 4 0] h3 ns (tunder rs p) (outJ h3 ob r0) := by
    refine ⟨fun pre _ => outJ_sat hob w3 pre, fun pre h hj => hj.1, fun pre h hj j hjn => hj.2.2.1 j (nsn j hjn).1 (nsn j hjn).2, fun pre h h' hj g w => outJ_mono hob hj g w, fun pre x h hj hpre => ?_⟩
    refine under_round w3 hob nb3 hne hn (by rw [hr0]) (by rw [hr0]) (by rw [hr0]) (by rw [hr0]) (by rw [hr0]) (by rw [hr0]; simp) (by rw [hr0]; simp [t5]) (by rw [hr0]; simp [t3]) hj ?_
    have := hpre.length_le
    simp at this
    omega
  exact under1_ct tl o ta hb rfl (fun pre h hj => (hj.2.2.1 tb htb.1 htb.2).trans tb3) (fun pre h hj => (hj.2.2.1 pb hpb.1 hpb.2).trans pb3) J0
theorem under_ct {h : H} {i : Nat} {rs : List Rt} {m : Nat} {ns : List Nat} (o : RsOk rs) (ta : TrieAt h i rs m ns) (hb : rs.length ≤ 1000000) {p : Pfx} {n : Nat} (hn : n < 1000000000) (hl : (tunder rs p).length ≤ n) {Q : V → H → Prop}
    (q1 : ((tunder rs p).map pairC).flatten = [] → Q .nilsl h) (q2 : ((tunder rs p).map pairC).flatten ≠ [] → Q (.sl h.next ((tunder rs p).map pairC).flatten.length 0 (tunder rs p).length none) (h.push (.grow 5 ((tunder rs p).map pairC).flatten))) :
    Acalls Tryd.prog 19 [.ptr i 3 0, .agg (pfxC p), .int .i64 (n : Nat)] h Q := by
  obtain ⟨cells, hcells⟩ : ∃ cells, cells = ((tunder rs p).map pairC).flatten := ⟨_, rfl⟩
  obtain ⟨len, hlen⟩ : ∃ len, len = (tunder rs p).length := ⟨_, rfl⟩
  have hids : V.idss cells = [] := by rw [hcells]; exact pair_ids _
  simp only [← hcells, ← hlen] at q1 q2
  refine Acalls.fresh (sz := 5) (len := len) (cells := cells) ?_ hids q1 q2
  refine acalls_range_to Tryd.func19 S.Hlaw03_under_rcode S.Hlaw03_under_enter (Nat.le_of_ble_eq_true rfl) fun wf => ?_
  have tlt := ta.lt wf
  simp only [S.Hlaw03_under_r, pfxC]
  simp [ne_a, ne_b, ne_c, ne_d]
  refine under_iter (p := p) fun wf3 => ?_
  simp [eqV_fn]
  obtain ⟨h3, hh3⟩ : ∃ h3, h3 = (((((h.push (.row [.int .i64 p.fam, .int .u64 (p.rd : Nat), .str p.addr, .int .i64 p.len])).push (.row [.int .i64 (n : Nat)])).push (.row [.nilsl])).push (.row [.nilsl])).push (.row [.ptr i 3 0])).push (.row (pfxC p)) := ⟨_, rfl⟩
  rw [← hh3]
  have w3 : h3.WF := by rw [hh3]; exact (((((wf.push _).push _).push _).push _).push _).push _
  have n3 : h3.next = h.next + 6 := by rw [hh3]; simp
  have g3 : Ge h h3 := by rw [hh3]; exact ((((((Ge.refl _).push _).push _).push _).push _).push _).push _
  have ob3 : h3.get (h.next + 1 + 1 + 1) = some (.row [.nilsl]) := by rw [hh3]; simp [ne_a]
  have nb3 : h3.get (h.next + 1) = some (.row [.int .i64 (n : Nat)]) := by rw [hh3]; simp
  have rs3 : h3.get (h.next + 1 + 1) = some (.row [.nilsl]) := by rw [hh3]; simp [ne_a, ne_b]
  have tb3 : h3.get (h.next + 1 + 1 + 1 + 1) = some (.row [.ptr i 3 0]) := by rw [hh3]; simp
  have pb3 : h3.get (h.next + 1 + 1 + 1 + 1 + 1) = some (.row (pfxC p)) := by rw [hh3]; simp [pfxC]
  refine rfor_of _ ?_
  have nsn : ∀ j ∈ ns, j < h3.next ∧ j ≠ h.next + 1 + 1 + 1 := fun j hj => by have := tlt j hj; omega
  refine Acalls.mono (under_loop (i := i) (rs := rs) (m := m) (ns := ns) (n := n) _ w3 o (ta.keep fun j hj => g3.2 j (tlt j hj)) nsn hb hn hl (ob := h.next + 1 + 1 + 1) (nb := h.next + 1) (tb := h.next + 1 + 1 + 1 + 1) (pb := h.next + 1 + 1 + 1 + 1 + 1) pb3 (by omega) (by omega) ob3 nb3 (by omega) tb3 (by omega) (by simp) (by simp)) ?_
  rintro _ h2 ⟨rfl, hJ2⟩
  have hJ2' := hJ2
  obtain ⟨w2, b2, k2, d2, l2, _⟩ := hJ2
  refine ⟨by simpa using d2, _, l2, by simp, ?_⟩
  obtain ⟨ov, f2, hov⟩ := outJ_end hJ2'
  rw [← hcells, ← hlen] at hov
  have co : cellsAt h2.get (h.next + 1 + 1 + 1) 1 = some [ov] := by rw [cellsAt_of f2 (by rfl)]; rfl
  have ov1 : ov.one = true := by rcases hov with ⟨rfl, _⟩ | ⟨_, j, rfl, _⟩ <;> rfl
  have cov := cells_of_one ov1
  have sov := solid_of_one ov1
  have rs2 : h2.get (h.next + 1 + 1) = some (.row [.nilsl]) := (k2 _ (by omega) (by omega)).trans rs3
  have m1 : ¬ h.next + 1 + 1 + 1 = h3.next + 1 := by omega
  have m2 : ¬ h.next + 1 + 1 = h3.next + 1 := by omega
  have m3 : ¬ h.next + 1 + 1 = h3.next := by omega
  have m4 : ¬ h3.next = h.next + 1 + 1 := by omega
  have m5 : ¬ h.next = h3.next := by omega
  have m6 : ¬ h.next + 1 = h3.next := by omega
  have m7 : ¬ h.next + 1 + 1 = h3.next := by omega
  have m8 : ¬ h3.next = h.next := by omega
  have m9 : ¬ h3.next = h.next + 1 := by omega
  have d2' : h2.get h3.next = some (.defo true) := d2
  simp [co, rs2, m3, m4, m6, sov, cov, d2', ne_a, ne_c, ne_d]
  refine ⟨⟨by simp only [H.next_set]; omega, fun j hj => ?_⟩, ?_⟩
  · rw [H.get_set, if_neg (by omega), H.get_set, if_neg (by omega), H.get_set, if_neg (by omega), k2 j (by omega) (by omega), g3.2 j hj]
  · rcases hov with ⟨e1, e2⟩ | ⟨e1, j, e2, e3, e4, e5⟩
    · exact .inl ⟨e1, e2⟩
    · exact .inr ⟨e1, j, e2, by omega, by rw [if_neg (by omega), if_neg (by omega), if_neg (by omega)]; exact e5⟩
end Go.Am

/-
  'works' answers true, by a run of its code.
-/
namespace Go.Am
open Go.Proofs
theorem works_run : saysTrue (Fr.runF8 Fr.q.tab 100000 60 15 [] ⟨0, .nil⟩) = true := by kernel_rfl
theorem works_ct (h : H) : Pure Tryd.prog 15 [] h (.bool true) := pure_true8 Fr.q.tab_ok works_run h
end Go.Am

/-
  Prefixes of small numbers: 'of'.
-/
namespace Go.Am
open Go.Proofs

set_option maxRecDepth 100000
structure Sp where
  fam : Nat
  a : Nat
  len : Nat
  v : Int
  deriving DecidableEq
structure SpOk (s : Sp) : Prop where
  fam : s.fam < 256
  a : s.a < 256
  len : s.len < 256
  v : -32768 ≤ s.v ∧ s.v ≤ 32767
def spC (s : Sp) : List V := [.int .u8 (s.fam : Nat), .int .u8 (s.a : Nat), .int .u8 (s.len : Nat), .int .i16 s.v]
def spFam (s : Sp) : Int := 1 + (s.fam % 2 : Nat)
def spAddr (s : Sp) : List UInt8 := UInt8.ofNat s.a :: UInt8.ofNat (s.a * 16 % 256) :: List.replicate (sizeN (spFam s) - 2) 0
def ofP (s : Sp) : Pfx := ⟨spFam s, 0, maskL (spAddr s) (s.len % 13 : Nat), (s.len % 13 : Nat)⟩
theorem may_mk {p : Pfx} (a1 : sizeN p.fam ≠ 0) (a2 : p.addr.length = sizeN p.fam) (a3 : 0 ≤ p.len) (a4 : p.len ≤ 8 * (sizeN p.fam : Int)) (a5 : p.rd = 0 ∨ apartF p.fam = true) (a6 : maskL p.addr p.len = p.addr) : mayP p = true := by
  simp only [mayP, Bool.and_eq_true, Bool.or_eq_true, decide_eq_true_eq]
  exact ⟨⟨⟨⟨⟨a1, a2⟩, a3⟩, a4⟩, a5⟩, a6⟩
theorem maskL_all : ∀ (l : List UInt8) (n : Int), 8 * (l.length : Int) ≤ n → maskL l n = l
  | [], _, _ => rfl
  | b :: l, n, h => by
    simp only [List.length_cons] at h
    rw [maskL, maskL_all l (n - 8) (by omega), maskN_big (by omega)]
    simp
theorem spFam_cases (s : Sp) : spFam s = 1 ∨ spFam s = 2 := by unfold spFam; omega
theorem sp_size (s : Sp) : sizeN (spFam s) = 4 ∨ sizeN (spFam s) = 16 := by
  rcases spFam_cases s with h | h <;> rw [h] <;> simp [sizeN]
theorem spAddr_len (s : Sp) : (spAddr s).length = sizeN (spFam s) := by
  have := sp_size s
  simp [spAddr]; omega
def spFull (s : Sp) : Pfx := ⟨spFam s, 0, spAddr s, (8 * sizeN (spFam s) : Nat)⟩
theorem spFull_may (s : Sp) : mayP (spFull s) = true := by
  have h1 := sp_size s
  have h2 := spAddr_len s
  have h3 := maskL_all (spAddr s) (8 * sizeN (spFam s) : Nat) (by rw [h2]; omega)
  exact may_mk (p := spFull s) (by show sizeN (spFam s) ≠ 0; omega) h2 (by show (0 : Int) ≤ (8 * sizeN (spFam s) : Nat); omega) (by show ((8 * sizeN (spFam s) : Nat) : Int) ≤ 8 * (sizeN (spFam s) : Int); omega) (.inl rfl) h3
theorem ofP_cut (s : Sp) : cutOk (spFull s) (s.len % 13 : Nat) = true := by
  have := sp_size s
  have h : ((s.len % 13 : Nat) : Int) ≤ (spFull s).len := by show ((s.len % 13 : Nat) : Int) ≤ (8 * sizeN (spFam s) : Nat); omega
  have h0 : (0 : Int) ≤ ((s.len % 13 : Nat) : Int) := by omega
  rw [cutOk, spFull_may, decide_eq_true h, decide_eq_true h0]; rfl
theorem ofP_may (s : Sp) : mayP (ofP s) = true := by
  have h1 := sp_size s
  have h2 := spAddr_len s
  exact may_mk (p := ofP s) (by show sizeN (spFam s) ≠ 0; omega) (by show (maskL _ _).length = _; rw [maskL_len, h2]; rfl) (by show (0 : Int) ≤ (s.len % 13 : Nat); omega) (by show ((s.len % 13 : Nat) : Int) ≤ 8 * (sizeN (spFam s) : Int); omega) (.inl rfl) (maskL_idem _ _)
theorem of_ct {h : H} {s : Sp} (ok : SpOk s) : Pure Tryd.prog 10 [.agg (spC s)] h (.agg (pfxC (ofP s))) := by
  refine pure_to Tryd.func10 S.Hlaw03_of_code S.Hlaw03_of_enter rfl (Nat.le_of_ble_eq_true rfl) fun wf => ?_; simp only [S.Hlaw03_of]
  obtain ⟨k1, k2, k3, k4⟩ := ok
  have sz := sp_size s
  have r2 : intV .rem .u8 (s.fam : Int) 2 = some (.int .u8 ((s.fam % 2 : Nat) : Int)) := by simp [intV]; rw [Int.tmod_eq_emod_of_nonneg (by omega)]
  have r13 : intV .rem .u8 (s.len : Int) 13 = some (.int .u8 ((s.len % 13 : Nat) : Int)) := by simp [intV]; rw [Int.tmod_eq_emod_of_nonneg (by omega)]
  have w2 : IntKind.i64.wrap ((s.fam % 2 : Nat) : Int) = ((s.fam % 2 : Nat) : Int) := wrap_i64_id (by omega) (by omega)
  have w13 : IntKind.i64.wrap ((s.len % 13 : Nat) : Int) = ((s.len % 13 : Nat) : Int) := wrap_i64_id (by omega) (by omega)
  have wf1 : IntKind.i64.wrap (1 + ((s.fam % 2 : Nat) : Int)) = spFam s := wrap_i64_id (by omega) (by omega)
  obtain ⟨f2, hf2⟩ : ∃ f2 : Nat, f2 = s.fam % 2 := ⟨_, rfl⟩
  obtain ⟨l13, hl13⟩ : ∃ l13 : Nat, l13 = s.len % 13 := ⟨_, rfl⟩
  rw [← hf2] at r2 w2 wf1
  rw [← hl13] at r13 w13
  simp only [spC]
  simp [r2, w2, wf1]
  refine psize_ct _ ?_
  have sh : shiftV .shl .u8 (s.a : Int) 4 = some (.int .u8 ((s.a * 16 % 256 : Nat) : Int)) := by simp [shiftV, IntKind.wrap, IntKind.bits, IntKind.signed]
  have b1 : (UInt8.ofNat s.a).toNat = s.a := by simp; omega
  have b2 : (UInt8.ofNat (s.a * 16 % 256)).toNat = s.a * 16 % 256 := by simp
  have ok13 : cutOk (spFull s) (l13 : Nat) = true := by rw [hl13]; exact ofP_cut s
  have fin : (⟨(spFull s).fam, (spFull s).rd, maskL (spFull s).addr (l13 : Nat), (l13 : Nat)⟩ : Pfx) = ofP s := by rw [hl13]; rfl
  have cc : ∀ h, Pure Tryd.prog 34 [.agg [.int .i64 (spFam s), .int .u64 0, .str (spAddr s), .int .i64 ((8 * sizeN (spFam s) : Nat) : Int)], .int .i64 (l13 : Nat)] h (.tup [.agg (pfxC (ofP s)), .int .i64 0]) := fun h => by
    have := cut_ct (h := h) (p := spFull s) (n := (l13 : Nat))
    rw [if_pos ok13, if_pos ok13, fin] at this
    exact this
  rcases sz with sz | sz
  · have ea : spAddr s = [UInt8.ofNat s.a, UInt8.ofNat (s.a * 16 % 256), 0, 0] := by simp [spAddr, sz]
    simp only [ea, sz] at cc
    simp [makeSliceV, sz, repCells, sh, r13, w13, ne_a, ne_b, elemsV_sl, u8Of]
    refine cc _ _ ?_
    simp [ne_a, ne_b, ne_c, pfxC]
    repeat' (first | exact Ge.refl _ | refine Ge.push ?_ _ | refine Ge.set ?_ (by omega) _)
  · have ea : spAddr s = [UInt8.ofNat s.a, UInt8.ofNat (s.a * 16 % 256), 0, 0, 0, 0, 0, 0, 0, 0, 0, 0, 0, 0, 0, 0] := by simp [spAddr, sz]
    simp only [ea, sz] at cc
    simp [makeSliceV, sz, repCells, sh, r13, w13, ne_a, ne_b, elemsV_sl, u8Of]
    refine cc _ _ ?_
    simp [ne_a, ne_b, ne_c, pfxC]
    repeat' (first | exact Ge.refl _ | refine Ge.push ?_ _ | refine Ge.set ?_ (by omega) _)
end Go.Am

/-
  Small numbers and acts among the arguments.
-/
namespace Go.Am
open Go.Proofs

def spLs : List Lf := [.int .u8, .int .u8, .int .u8, .int .i16]
theorem sp_of {vs : List V} (h : Lfs spLs vs) : ∃ s : Sp, SpOk s ∧ vs = spC s := by
  cases h with
  | cons k1 t1 => cases t1 with
    | cons k2 t2 => cases t2 with
      | cons k3 t3 => cases t3 with
        | cons k4 t4 =>
          cases t4
          obtain ⟨a, rfl, h1⟩ := Lf.nat k1 rfl
          obtain ⟨b, rfl, h2⟩ := Lf.nat k2 rfl
          obtain ⟨c, rfl, h3⟩ := Lf.nat k3 rfl
          obtain ⟨v, rfl, h4⟩ := k4
          simp [Lit.wf, IntKind.min, IntKind.max, IntKind.bits, IntKind.signed] at h4
          exact ⟨⟨a, b, c, v⟩, ⟨h1, h2, h3, by omega⟩, rfl⟩
theorem spots_of : ∀ {ess : List (List V)}, (∀ e ∈ ess, Lfs spLs e) → ∃ l : List Sp, ess = l.map spC ∧ ∀ s ∈ l, SpOk s
  | [], _ => ⟨[], rfl, by simp⟩
  | e :: ess, h => by
    obtain ⟨s, hs, rfl⟩ := sp_of (h e (by simp))
    obtain ⟨l, rfl, hl⟩ := spots_of (ess := ess) fun x hx => h x (by simp [hx])
    exact ⟨s :: l, rfl, fun x hx => by
      rcases List.mem_cons.1 hx with rfl | hx
      · exact hs
      · exact hl x hx⟩
end Go.Am

/-
  The trie's contracts, as the laws use them.
-/
namespace Go.Am
open Go.Proofs

set_option maxRecDepth 100000
theorem TTurned.self {h : H} {i : Nat} {rs : List Rt} {n : Nat} {ns : List Nat} (a : TrieAt h i rs n ns) (w : h.WF) : TTurned ns h i rs n h := ⟨⟨ns, a, fun _ h => .inl h⟩, Out.refl _ _, w⟩
theorem TTurned.later {ns : List Nat} {hb h h' : H} {i : Nat} {rs : List Rt} {n : Nat} (t : TTurned ns hb i rs n h) (g : Ge h h') (w : h'.WF) : TTurned ns hb i rs n h' := by
  obtain ⟨⟨ms, a, b⟩, c, d⟩ := t
  exact ⟨⟨ms, a.keep fun j hj => g.2 j (a.lt d j hj), b⟩, ⟨Nat.le_trans c.next g.1, fun j hj hn => (g.2 j (Nat.lt_of_lt_of_le hj c.next)).trans (c.keep j hj hn)⟩, w⟩
theorem TTurned.set_ct {ns : List Nat} {hb h : H} {i : Nat} {rs : List Rt} (t : TTurned ns hb i rs (rsPairs rs).length h) (o : RsOk rs) (b : rs.length < 1000000) (bn : (rsPairs rs).length < 1000000000) {p : Pfx} (hp : mayP p = true) (x : Int) :
    Acalls Tryd.prog 9 [.ptr i 3 0, .agg (pfxC p), .int .i64 x] h fun u h' => u = .int .i64 0 ∧ TTurned ns hb i (tset rs p x) (rsPairs (tset rs p x)).length h' := by
  obtain ⟨⟨ms, a, hs⟩, c, d⟩ := t
  refine Acalls.mono (tset_ct o a b bn hp x) ?_
  rintro u h' ⟨rfl, q⟩
  refine ⟨rfl, ?_⟩
  rw [tset_len]
  exact TTurned.up (Ge.refl _) c hs q
theorem TTurned.del_ct {ns : List Nat} {hb h : H} {i : Nat} {rs : List Rt} (t : TTurned ns hb i rs (rsPairs rs).length h) (o : RsOk rs) (b : rs.length ≤ 1000000) (bn : (rsPairs rs).length < 1000000000) {p : Pfx} (hp : mayP p = true) :
    Acalls Tryd.prog 20 [.ptr i 3 0, .agg (pfxC p)] h fun u h' => u = .bool (tget rs p).isSome ∧ TTurned ns hb i (tdel rs p) (rsPairs (tdel rs p)).length h' := by
  obtain ⟨⟨ms, a, hs⟩, c, d⟩ := t
  have hl := tdel_len rs p
  have hg := tgone_iff o hp
  refine Acalls.mono (tdel_ct o a b bn hp (fun hx => ?_)) ?_
  · have : tgone rs p = true := hx
    rw [this] at hl; simp at hl; omega
  · rintro u h' ⟨rfl, q⟩
    refine ⟨by rw [← hg]; rfl, ?_⟩
    have e : (rsPairs rs).length - (if (T.del (kOf p) (treeOf p.fam p.rd rs)).2 = true then 1 else 0) = (rsPairs (tdel rs p)).length := by
      show (rsPairs rs).length - (if tgone rs p = true then 1 else 0) = _
      split <;> simp_all
    rw [e] at q
    exact TTurned.up (Ge.refl _) c hs q
theorem gl_fresh {h : H} {l : List (Pfx × Int)} {Q : V → H → Prop} (wf : h.WF) (q : ∀ v h', Ge h h' → h'.WF → Gl h' h.next 5 v (l.map pairC) → Q v h') : ((l.map pairC).flatten = [] → Q .nilsl h) ∧ ((l.map pairC).flatten ≠ [] → Q (.sl h.next (l.map pairC).flatten.length 0 l.length none) (h.push (.grow 5 (l.map pairC).flatten))) := by
  refine ⟨fun e => q _ _ (Ge.refl _) wf (.inl ⟨?_, rfl⟩), fun e => q _ _ ((Ge.refl _).push _) (wf.push _) (.inr ⟨fun e2 => e (by rw [e2]; rfl), h.next, Nat.le_refl _, by simp, by simp, by simp⟩)⟩
  cases l with
  | nil => rfl
  | cons x l => simp [pairC] at e
theorem all_gl {h : H} {i : Nat} {rs : List Rt} {m : Nat} {ns : List Nat} (o : RsOk rs) (ta : TrieAt h i rs m ns) (hb : rs.length ≤ 1000000) {n : Nat} (hn : n < 1000000000) (hl : (rsPairs rs).length ≤ n) {Q : V → H → Prop} (q : ∀ v h', Ge h h' → h'.WF → Gl h' h.next 5 v ((rsPairs rs).map pairC) → Q v h') :
    Acalls Tryd.prog 16 [.ptr i 3 0, .int .i64 (n : Nat)] h Q :=
  Acalls.wf S.Hlaw03_all_enter fun wf => all_ct o ta hb hn hl (gl_fresh wf q).1 (gl_fresh wf q).2
theorem under_gl {h : H} {i : Nat} {rs : List Rt} {m : Nat} {ns : List Nat} (o : RsOk rs) (ta : TrieAt h i rs m ns) (hb : rs.length ≤ 1000000) {p : Pfx} {n : Nat} (hn : n < 1000000000) (hl : (rsPairs rs).length ≤ n) {Q : V → H → Prop} (q : ∀ v h', Ge h h' → h'.WF → Gl h' h.next 5 v (((rsPairs rs).filter fun x => covP p x.1).map pairC) → Q v h') :
    Acalls Tryd.prog 19 [.ptr i 3 0, .agg (pfxC p), .int .i64 (n : Nat)] h Q := by
  refine Acalls.wf S.Hlaw03_under_enter fun wf => ?_
  have e := tunder_eq o p
  rw [← e] at q
  refine under_ct o ta hb hn ?_ (gl_fresh wf q).1 (gl_fresh wf q).2
  rw [e]
  exact Nat.le_trans (List.length_filter_le _ _) hl
theorem eq_pair (a b : Pfx × Int) : eqV (TS.st [(0, 4, true, (TS.st [(0, 1, false, TS.int), (1, 1, false, TS.int), (2, 1, false, TS.str), (3, 1, false, TS.int)])), (4, 1, false, TS.int)]) (.agg (pairC a)) (.agg (pairC b)) = some (decide (a = b)) := by
  show eqFs _ _ _ = _
  rw [eqFs_cons (x := .agg (pfxC a.1)) (y := .agg (pfxC b.1)) rfl rfl (eq_pf _ _), eqFs_cons rfl rfl (eqV_int _ _ _), show eqFs [] (pairC a) (pairC b) = some true from rfl]
  simp only [ifs]
  obtain ⟨p, i⟩ := a
  obtain ⟨p', i'⟩ := b
  simp only [Prod.mk.injEq, Bool.and_true, Bool.decide_and]
end Go.Am

/-
  TrieUnder.
-/
namespace Go.Am
open Go.Proofs

set_option maxRecDepth 100000
theorem filt_at {α : Type} (p : α → Bool) (l : List α) (k : Nat) (hk : k < l.length) (hp : p l[k] = true) : (l.filter p)[((l.take k).filter p).length]? = some l[k] := by
  have e : l.filter p = (l.take k).filter p ++ (l[k] :: (l.drop (k + 1)).filter p) := by
    conv => lhs; rw [← List.take_append_drop k l, List.drop_eq_getElem_cons hk, List.filter_append, List.filter_cons, if_pos hp]
  rw [e, List.getElem?_append_right (Nat.le_refl _), Nat.sub_self]
  rfl
theorem filt_succ {α : Type} (p : α → Bool) (l : List α) (k : Nat) (hk : k < l.length) : ((l.take (k + 1)).filter p).length = ((l.take k).filter p).length + if p l[k] = true then 1 else 0 := by
  rw [List.take_add_one, List.getElem?_eq_getElem hk, List.filter_append]
  by_cases h : p l[k] = true
  · simp [h]
  · simp [h]
theorem filt_not {α : Type} (p : α → Bool) : ∀ l : List α, (l.filter p).length + (l.filter fun x => !p x).length = l.length
  | [] => rfl
  | x :: l => by
    have := filt_not p l
    cases h : p x <;> simp [h] <;> omega
/-- An element of a list of pairs. -/
theorem pair_at {g : Nat → Option O} {v : V} {l : List (Pfx × Int)} (s : Sls g 5 v (l.map pairC)) {k : Nat} (hk : k < l.length) : ∃ p q o cs, (∀ kd, indexAddrV 5 v (.int kd (k : Int)) = some (.ptr p q o)) ∧ cellsAt g p q = some cs ∧ o + 5 ≤ cs.length ∧ o + 4 ≤ cs.length ∧ (cs.drop o).take 5 = pairC l[k] ∧ (cs.drop o).take 4 = pfxC l[k].1 := by
  obtain ⟨p, q, o, cs, h1, h2, h3, h4, _⟩ := s.at (k := k) (by simpa using hk)
  rw [List.getElem_map] at h4
  refine ⟨p, q, o, cs, h1, h2, h3, by omega, h4, ?_⟩
  have := congrArg (List.take 4) h4
  rw [List.take_take] at this
  exact this
theorem TTurned.ge {ns : List Nat} {hb h0 h : H} {i : Nat} {rs : List Rt} {n : Nat} (t : TTurned ns hb i rs n h) (g : Ge h0 hb) (hn : ∀ j ∈ ns, h0.next ≤ j) : Ge h0 h := ⟨Nat.le_trans g.1 t.out.next, fun j hj => (t.out.keep j (Nat.lt_of_lt_of_le hj g.1) (fun hm => by have := hn j hm; omega)).trans (g.2 j hj)⟩
set_option maxHeartbeats 4000000 in
theorem tunderlaw_ct {h : H} {lv : V} {l : List Sp} {x : Sp} (sl : Sls h.get 4 lv (l.map spC)) (hl : ∀ s ∈ l, SpOk s) (hx : SpOk x) : Pure Tryd.prog 5 [lv, .agg (spC x)] h (.bool true) := by
  refine pure_to Tryd.func5 S.Hlaw03_TrieUnder_code S.Hlaw03_TrieUnder_enter rfl (Nat.le_of_ble_eq_true rfl) fun wf => ?_; simp only [S.Hlaw03_TrieUnder]
  have bl := sl.bound
  rw [List.length_map] at bl
  obtain ⟨h1, hh1⟩ : ∃ h1, h1 = h.push (.row (spC x)) := ⟨_, rfl⟩
  have g1 : Ge h h1 := by rw [hh1]; exact (Ge.refl _).push _
  have w1 : h1.WF := by rw [hh1]; exact wf.push _
  have n1 : h1.next = h.next + 1 := by rw [hh1]; simp
  have x1 : h1.get h.next = some (.row (spC x)) := by rw [hh1]; simp
  simp only [spC] at hh1 ⊢
  simp
  rw [← hh1]
  refine new_ct fun _ ta0 => ?_
  simp
  obtain ⟨h2, hh2⟩ : ∃ h2, h2 = h1.push (trieO .nilsl 0) := ⟨_, rfl⟩
  rw [← hh2] at ta0 ⊢
  have g2 : Ge h1 h2 := by rw [hh2]; exact (Ge.refl _).push _
  have w2 : h2.WF := by rw [hh2]; exact w1.push _
  have n2 : h2.next = h.next + 2 := by rw [hh2]; simp; omega
  obtain ⟨i, hi⟩ : ∃ i, i = h1.next := ⟨_, rfl⟩
  rw [← hi] at ta0 ⊢
  have L := fun h' (g : Ge h h') => sl.lenG wf (List.length_map ..) h' g
  refine loop_cut 0 (fun t h' => (t 3 = .ptr h.next 4 0 ∧ t 5 = .ptr i 3 0) ∧ ∃ rs, RsOk rs ∧ TTurned [i] h2 i rs (rsPairs rs).length h' ∧ rs.length ≤ 60 ∧ (rsPairs rs).length ≤ 60) (fun k t h' => (t 0 = lv ∧ t 3 = .ptr h.next 4 0 ∧ t 5 = .ptr i 3 0 ∧ t 6 = .int .i64 (k : Nat)) ∧ k ≤ l.length ∧ ∃ rs, RsOk rs ∧ TTurned [i] h2 i rs (rsPairs rs).length h' ∧ rs.length ≤ k ∧ (rsPairs rs).length ≤ k) 60
    ⟨by simp, by omega, [], ⟨by simp, by simp⟩, TTurned.self ta0 w2, by simp, by simp [rsPairs]⟩ ?_ ?_
  · rintro k t h' hk ⟨⟨t0, t3, t5, t6⟩, hkl, rs, ro, tt, b1, b2⟩ K R hK hJ _
    have gh' : Ge h1 h' := tt.ge g2 (by simp; omega)
    have L' := L h' (g1.trans gh')
    by_cases hgo : k < l.length ∧ k < 60
    · obtain ⟨hlt, h60⟩ := hgo
      have hw := wrap_succ h60 (by omega)
      have h60' : (k : Int) < 60 := by omega
      obtain ⟨pp, q, off, ccs, e1, e2, e3, e4, e5, e6⟩ := sl.atG wf (k := k) (by simpa using hlt)
      have e3' := e3 h' (g1.trans gh')
      have hs := hl l[k] (List.getElem_mem hlt)
      rw [List.getElem_map] at e5
      simp only [spC] at e5
      simp [t0, t6, L', hlt, h60', e1, e3', e4, e5]
      refine of_ct hs _ ?_
      simp [t5, t6]
      refine Acalls.mono (tt.set_ct ro (by omega) (by omega) (ofP_may _) (k : Int)) ?_
      rintro _ h3 ⟨rfl, tt3⟩
      simp [t6, hw]
      refine hK _ _ h60 ⟨by simp [t0, t3, t5], hlt, _, tset_ok ro (ofP_may _) _, tt3, ?_, ?_⟩
      · have := tset_rts rs (ofP l[k]) k; omega
      · have := tset_len rs (ofP l[k]) k
        split at this <;> omega
    · have fin : ∀ t' : Tm, t' 3 = .ptr h.next 4 0 ∧ t' 5 = .ptr i 3 0 → R (.exit 0) t' h' := fun t' ht => hJ _ _ ⟨ht, rs, ro, tt, by omega, by omega⟩
      by_cases hlt : k < l.length
      · have h60 : ¬ (k : Int) < 60 := by omega
        simp [t0, t6, L', hlt, h60]
        exact fin _ (by simp [t3, t5])
      · simp [t0, t6, L', hlt]
        exact fin _ (by simp [t3, t5])
  · rintro t h3 ⟨⟨t3, t5⟩, rs, ro, tt, b1, b2⟩
    have g3 : Ge h1 h3 := tt.ge g2 (by simp; omega)
    have w3 := tt.wf
    have x3 : cellsAt h3.get h.next 4 = some (spC x) := by rw [cellsAt_of ((g3.2 _ (by omega)).trans x1) (by rfl)]; rfl
    simp only [spC] at x3
    simp [t3, x3]
    refine of_ct hx _ ?_
    obtain ⟨p, hp⟩ : ∃ p, p = ofP x := ⟨_, rfl⟩
    rw [← hp]
    simp only [pfxC]
    simp [t5]
    obtain ⟨h4, hh4⟩ : ∃ h4, h4 = (h3.push (.row [.int .i64 0, .int .u64 0, .str [], .int .i64 0])).set h3.next (.row (pfxC p)) := ⟨_, rfl⟩
    have g4 : Ge h3 h4 := by rw [hh4]; exact ((Ge.refl _).push _).set (Nat.le_refl _) _
    have w4 : h4.WF := by rw [hh4]; exact (w3.push _).set (by simp) _
    have n4 : h4.next = h3.next + 1 := by rw [hh4]; simp
    have q4 : h4.get h3.next = some (.row (pfxC p)) := by rw [hh4]; simp
    simp only [pfxC] at hh4
    rw [← hh4]
    obtain ⟨ns4, ta3, sub4⟩ := tt.ex
    have lt3 := ta3.lt w3
    have ta4 : TrieAt h4 i rs (rsPairs rs).length ns4 := ta3.keep fun j hj => g4.2 j (lt3 j hj)
    refine all_gl (n := 60) ro ta4 (by omega) (by omega) b2 ?_
    intro wv h5 g5 w5 gl5
    have q5 : cellsAt h5.get h3.next 4 = some (pfxC p) := by rw [cellsAt_of ((g5.2 _ (by omega)).trans q4) (by rfl)]; rfl
    simp only [pfxC] at q5
    simp [t5, q5]
    have ta5 : TrieAt h5 i rs (rsPairs rs).length ns4 := ta4.keep fun j hj => g5.2 j (ta4.lt w4 j hj)
    refine under_gl (p := p) (n := 60) ro ta5 (by omega) (by omega) b2 ?_
    intro pv h6 g6 w6 gl6
    simp
    obtain ⟨W, hW⟩ : ∃ W, W = rsPairs rs := ⟨_, rfl⟩
    obtain ⟨Pt, hPt⟩ : ∃ Pt, Pt = W.filter fun x => covP p x.1 := ⟨_, rfl⟩
    rw [← hW] at b2 gl5
    rw [← hW, ← hPt] at gl6
    have hPl : Pt.length ≤ 60 := by rw [hPt]; exact Nat.le_trans (List.length_filter_le _ _) b2
    have sW : PSorted W := by rw [hW]; exact rs_sorted ro
    have gl5' : Gl h6 h4.next 5 wv (W.map pairC) := gl5.keep g6.1 fun j hj => g6.2 j (gl5.lo j hj).2
    have wsl : Sls h6.get 5 wv (W.map pairC) := gl5'.sls (pairC_all _) (by simp; omega)
    have psl : Sls h6.get 5 pv (Pt.map pairC) := gl6.sls (pairC_all _) (by simp; omega)
    have wl := wsl.len
    have pl := psl.len
    rw [List.length_map] at wl pl
    have q6 : cellsAt h6.get h3.next 4 = some (pfxC p) := by rw [g6.cells (by have := g5.1; omega)]; rw [g5.cells (by omega), cellsAt_of q4 (by rfl)]; rfl
    simp only [pfxC] at q6
    refine loop_cut 2 (fun t h' => (t 5 = .ptr i 3 0 ∧ t 7 = .ptr h3.next 4 0 ∧ t 8 = wv ∧ t 9 = pv ∧ t 10 = .int .i64 (Pt.length : Nat)) ∧ h' = h6) (fun k t h' => (t 5 = .ptr i 3 0 ∧ t 7 = .ptr h3.next 4 0 ∧ t 8 = wv ∧ t 9 = pv ∧ t 10 = .int .i64 (((W.take k).filter fun x => covP p x.1).length : Nat) ∧ t 11 = .int .i64 (k : Nat)) ∧ k ≤ W.length ∧ h' = h6) 60
      ⟨by simp [t5], by omega, rfl⟩ ?_ ?_
    · rintro k t h' hk ⟨⟨t5, t7, t8, t9, t10, t11⟩, hkl, rfl⟩ K R hK hJ hret
      by_cases hlt : k < W.length
      · have hw := wrap_succ (show k < 60 by omega) (by omega)
        obtain ⟨pp, q, off, ccs, e1, e2, e3, e3', e4, e5⟩ := pair_at wsl hlt
        simp only [pfxC] at e5
        simp [t8, t11, wl, hlt]
        refine dreg_of ?_
        simp [t7, t8, t11, q6, e1, e2, e3', e5]
        refine scall_of (covers_ct (a := p) (b := W[k].1)) ?_
        have fs := filt_succ (fun x : Pfx × Int => covP p x.1) W k hlt
        cases hc : covP p W[k].1 with
        | false =>
          simp [t11, hw]
          have fs0 : ((W.take (k + 1)).filter fun x => covP p x.1).length = ((W.take k).filter fun x => covP p x.1).length := by rw [fs, hc]; rfl
          refine hK _ _ (by omega) ⟨by simp [t5, t7, t8, t9, t10, fs0], hlt, rfl⟩
        | true =>
          have fa := filt_at (fun x : Pfx × Int => covP p x.1) W k hlt hc
          rw [← hPt] at fa
          obtain ⟨c, hcn⟩ : ∃ c, c = ((W.take k).filter fun x => covP p x.1).length := ⟨_, rfl⟩
          rw [← hcn] at fa fs t10
          obtain ⟨hcl, fa⟩ := List.getElem?_eq_some_iff.1 fa
          have ncl : ¬ Pt.length ≤ c := by omega
          obtain ⟨pp2, q2, off2, ccs2, a1, a2, a3, a3', a4, a5⟩ := pair_at psl hcl
          have ee := eq_pair Pt[c] W[k]
          rw [fa] at ee a4
          have wc : IntKind.i64.wrap ((c : Int) + 1) = (c : Int) + 1 := wrap_i64_id (by omega) (by omega)
          simp
          refine dreg_of ?_
          simp [t9, t10, pl, ncl, t8, t11, e1, e2, e3, e4, a1, a2, a3, a4, ee, wc, hw]
          rw [hc, if_pos rfl] at fs
          refine hK _ _ (by omega) ⟨by simp [t5, t7, t8, t9, fs], hlt, rfl⟩
      · have hkk : k = W.length := by omega
        simp [t8, t11, wl, hlt]
        refine hJ _ _ ⟨?_, rfl⟩
        rw [hkk, List.take_length, ← hPt] at t10
        simp [t5, t7, t8, t9, t10]
    · rintro t h' ⟨⟨t5, t7, t8, t9, t10⟩, rfl⟩
      simp [t9, t10, pl]
      have ta6 : TrieAt h' i rs W.length ns4 := by rw [hW]; exact ta5.keep fun j hj => g6.2 j (ta5.lt w5 j hj)
      have n54 : h4.next ≤ h5.next := g5.1
      have n65 : h5.next ≤ h'.next := g6.1
      have lt4 := ta4.lt w4
      have g30 : Ge h h' := (((g1.trans g3).trans g4).trans g5).trans g6
      have sub0 : ∀ j ∈ ns4, h1.next ≤ j := fun j hj => by
        have := tt.out.next
        have := g2.1
        rcases sub4 j hj with h | h
        · simp at h; omega
        · omega
      have pids : ∀ j ∈ pv.ids, j < h'.next ∧ j ∉ ns4 := fun j hj => by
        have := gl6.lo j hj
        exact ⟨this.2, fun hm => by have := lt4 j hm; omega⟩
      have wids : ∀ j ∈ wv.ids, j < h'.next ∧ j ∉ ns4 := fun j hj => by
        have := gl5'.lo j hj
        exact ⟨this.2, fun hm => by have := lt4 j hm; omega⟩
      have mayW : ∀ e ∈ W, mayP e.1 = true := fun e he => by rw [hW] at he; exact ((mem_rs ro (q := e.1) (y := e.2)).1 he).1
      have sP : PSorted Pt := by rw [hPt]; exact sW.filter _
      have x6 : cellsAt h'.get h3.next 4 = _ := q6
      refine loop_cut 4 (fun t h2 => (t 5 = .ptr i 3 0 ∧ t 7 = .ptr h3.next 4 0 ∧ t 8 = wv ∧ t 9 = pv) ∧ ∃ rs', RsOk rs' ∧ TTurned ns4 h' i rs' (rsPairs rs').length h2 ∧ rs'.length ≤ 1000 ∧ ∀ q y, (q, y) ∈ rsPairs rs' ↔ (q, y) ∈ W ∧ (q, y) ∉ Pt)
        (fun k t h2 => (t 5 = .ptr i 3 0 ∧ t 7 = .ptr h3.next 4 0 ∧ t 8 = wv ∧ t 9 = pv ∧ t 12 = .int .i64 (k : Nat)) ∧ k ≤ Pt.length ∧ ∃ rs', RsOk rs' ∧ TTurned ns4 h' i rs' (rsPairs rs').length h2 ∧ rs'.length ≤ 60 + 2 * k ∧ (rsPairs rs').length ≤ 60 ∧ ∀ q y, (q, y) ∈ rsPairs rs' ↔ (q, y) ∈ W ∧ (q, y) ∉ Pt.take k) 60
        ⟨by simp [t5, t7, t8, t9], by omega, rs, ro, by rw [← hW]; exact TTurned.self ta6 w6, by omega, by rw [← hW]; exact b2, fun q y => by simp [hW]⟩ ?_ ?_
      · rintro k t h2 hk ⟨⟨t5, t7, t8, t9, t12⟩, hkl, rs', ro', tt', c1, c2, c3⟩ K R hK hJ hret
        have pg : Gl h2 h5.next 5 pv (Pt.map pairC) := gl6.keep tt'.out.next fun j hj => tt'.out.keep j (pids j hj).1 (pids j hj).2
        have psl2 : Sls h2.get 5 pv (Pt.map pairC) := pg.sls (pairC_all _) (by simp; omega)
        have pl2 := psl2.len
        rw [List.length_map] at pl2
        by_cases hlt : k < Pt.length
        · have hw := wrap_succ (show k < 60 by omega) (by omega)
          obtain ⟨pp, q, off, ccs, e1, e2, e3, e3', e4, e5⟩ := pair_at psl2 hlt
          obtain ⟨e, he⟩ : ∃ e, e = Pt[k] := ⟨_, rfl⟩
          rw [← he] at e5
          have heP : e ∈ Pt := by rw [he]; exact List.getElem_mem hlt
          have heW : e ∈ W := by rw [hPt] at heP; exact (List.mem_filter.1 heP).1
          have hem := mayW e heW
          have nin : e ∉ Pt.take k := fun hm => by
            have nd := sP.nodup
            rw [← List.take_append_drop k Pt] at nd
            have := (List.nodup_append.1 nd).2.2 e hm e (by rw [List.drop_eq_getElem_cons hlt, ← he]; simp)
            exact this rfl
          have in1 : tget rs' e.1 = some e.2 := (tget_iff ro').2 ((c3 e.1 e.2).2 ⟨heW, nin⟩)
          have in2 : tget (tdel rs' e.1) e.1 = none := by
            cases hg : tget (tdel rs' e.1) e.1 with
            | none => rfl
            | some y => exact absurd rfl ((tdel_mem ro' hem e.1 y).1 ((tget_iff (tdel_ok ro' hem)).1 hg)).1
          simp only [pfxC] at e5
          simp [t9, t12, pl2, hlt, t5, e1, e2, e3', e5]
          refine Acalls.mono (tt'.del_ct ro' (by omega) (by omega) hem) ?_
          rintro _ h5' ⟨rfl, tt5⟩
          rw [in1]
          have pg5 : Gl h5' h5.next 5 pv (Pt.map pairC) := gl6.keep tt5.out.next fun j hj => tt5.out.keep j (pids j hj).1 (pids j hj).2
          obtain ⟨pp, q, off, ccs, a1, a2, a3, a3', a4, a5⟩ := pair_at (pg5.sls (pairC_all _) (by simp; omega)) hlt
          rw [← he] at a5
          simp only [pfxC] at a5
          have dl := tdel_len rs' e.1
          have dr := tdel_rts rs' e.1
          simp [t9, t12, t5, a1, a2, a3', a5]
          refine Acalls.mono (tt5.del_ct (tdel_ok ro' hem) (by omega) (by omega) hem) ?_
          rintro _ h6' ⟨rfl, tt6⟩
          rw [in2]
          have dl2 := tdel_len (tdel rs' e.1) e.1
          have dr2 := tdel_rts (tdel rs' e.1) e.1
          simp [t12, hw]
          refine hK _ _ (by omega) ⟨by simp [t5, t7, t8, t9], hlt, _, tdel_ok (tdel_ok ro' hem) hem, tt6, by omega, by omega, fun q y => ?_⟩
          rw [tdel_mem (tdel_ok ro' hem) hem, tdel_mem ro' hem, c3, List.take_add_one, List.getElem?_eq_getElem hlt, ← he]
          simp only [Option.toList_some, List.mem_append, List.mem_singleton, not_or]
          constructor
          · rintro ⟨h1, _, h2, h3⟩
            exact ⟨h2, h3, fun e2 => h1 (by rw [← e2])⟩
          · rintro ⟨h1, h2, h3⟩
            have hne : q ≠ e.1 := fun e2 => by
              subst e2
              exact h3 (by rw [show e = (e.1, e.2) from rfl, pairs_one sW h1 heW])
            exact ⟨hne, hne, h1, h2⟩
        · have hkk : k = Pt.length := by omega
          rw [hkk, List.take_length] at c3
          simp [t9, t12, pl2, hlt]
          exact hJ _ _ ⟨by simp [t5, t7, t8, t9], rs', ro', tt', by omega, c3⟩
      · rintro t h2 ⟨⟨t5, t7, t8, t9⟩, rs', ro', tt', c1, c3⟩
        obtain ⟨V1, hV1⟩ : ∃ V1, V1 = rsPairs rs' := ⟨_, rfl⟩
        rw [← hV1] at tt' c3
        have eV : V1 = W.filter fun x => !covP p x.1 := by
          refine psorted_eq (by rw [hV1]; exact rs_sorted ro') (sW.filter _) fun z => ?_
          obtain ⟨q, y⟩ := z
          rw [c3, hPt, List.mem_filter, List.mem_filter]
          cases hc : covP p q <;> simp
        have fl := filt_not (fun x : Pfx × Int => covP p x.1) W
        rw [← eV, ← hPt] at fl
        have eU : (V1.filter fun x => covP p x.1) = [] := by
          rw [eV, List.filter_filter]
          rw [List.filter_eq_nil_iff]
          intro x _
          simp
        have w2 := tt'.wf
        obtain ⟨⟨ns7, ta7, sub7⟩, out7, _⟩ := tt'
        have gl7 : Gl h2 h4.next 5 wv (W.map pairC) := gl5'.keep out7.next fun j hj => out7.keep j (wids j hj).1 (wids j hj).2
        have pg7 : Gl h2 h5.next 5 pv (Pt.map pairC) := gl6.keep out7.next fun j hj => out7.keep j (pids j hj).1 (pids j hj).2
        have q7 : cellsAt h2.get h3.next 4 = some (pfxC p) := by
          have : h2.get h3.next = h'.get h3.next := out7.keep _ (by omega) (fun hm => by have := lt3 _ hm; omega)
          unfold cellsAt; rw [this]; exact q6
        have g72 : Ge h h2 := ⟨Nat.le_trans g30.1 out7.next, fun j hj => (out7.keep j (Nat.lt_of_lt_of_le hj g30.1) (fun hm => by have := sub0 j hm; omega)).trans (g30.2 j hj)⟩
        simp only [pfxC] at q7
        have Vl : V1.length ≤ 60 := by rw [eV]; exact Nat.le_trans (List.length_filter_le _ _) b2
        simp [t5, t7, q7]
        refine under_gl (p := p) (n := 60) ro' ta7 (by omega) (by omega) (by rw [← hV1]; exact Vl) ?_
        intro uv h8 g8 w8 gl8
        rw [← hV1, eU] at gl8
        have ul := (gl8.sls (pairC_all _) (by simp)).len
        have ta8 := ta7.keep (h' := h8) fun j hj => g8.2 j (ta7.lt w2 j hj)
        have ta8' := ta8
        obtain ⟨rv8, _, _, _, i8, _⟩ := ta8'
        simp at ul
        simp [ul, t5]
        refine len_ct i8 _ ?_
        have wl8 := ((gl7.keep g8.1 fun j hj => g8.2 j (gl7.lo j hj).2).sls (pairC_all _) (by simp; omega)).len
        have pl8 := ((pg7.keep g8.1 fun j hj => g8.2 j (pg7.lo j hj).2).sls (pairC_all _) (by simp; omega)).len
        rw [List.length_map] at wl8 pl8
        have sb : IntKind.i64.wrap ((W.length : Int) - (Pt.length : Int)) = (V1.length : Nat) := by rw [wrap_i64_id (by omega) (by omega)]; omega
        simp [t8, t9, wl8, pl8, sb, t5]
        refine all_gl (n := 60) ro' ta8 (by omega) (by omega) (by rw [← hV1]; exact Vl) ?_
        intro av h9 g9 w9 gl9
        rw [← hV1] at gl9
        have al := (gl9.sls (pairC_all _) (by simp; omega)).len
        rw [List.length_map] at al
        have i9 := (g9.2 i (w8.lt i8)).trans i8
        simp [al, t5]
        refine len_ct i9 _ ?_
        simp
        refine works_ct _ _ ?_
        simp
        exact (g72.trans g8).trans g9
end Go.Am
