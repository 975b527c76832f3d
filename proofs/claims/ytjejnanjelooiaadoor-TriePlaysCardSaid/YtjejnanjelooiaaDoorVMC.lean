/-
  TR14, WK, LO, LA, LH, T3, N4, N5, N6, T4, T5, TP1, TP2, TP3, LP, LB, in one text.
-/
import Derived.Test.YtjejnanjelooiaaDoorVMB
import Derived.Test.YtjejnanjelooiaaDoorVSkRg
import Derived.Test.YtjejnanjelooiaaDoorVAm24
import Derived.Test.YtjejnanjelooiaaDoorVAm21
import Derived.Test.YtjejnanjelooiaaDoorVQwTab
import Derived.KernelRfl
import Derived.Test.YtjejnanjelooiaaDoorVAm33
/-
  Lists of what is told: the rounds of 'all' and 'under'.
-/
namespace Go.Am
open Go.Proofs

set_option maxRecDepth 100000
theorem ne_a (n : Nat) : ¬ n = n + 1 + 1 := by omega
theorem ne_b (n : Nat) : ¬ n = n + 1 + 1 + 1 := by omega
theorem ne_c (n : Nat) : ¬ n = n + 1 + 1 + 1 + 1 := by omega
theorem ne_d (n : Nat) : ¬ n = n + 1 + 1 + 1 + 1 + 1 := by omega
theorem eqV_fn (f : Fn) (a b : List V) : eqV .func (.func f a b) .nilfunc = some false := rfl
/-- What was told so far stands in a list that grows, in the box 'ob'. -/
def outJ (h3 : H) (ob : Nat) (r0 : LoopV) (pre : List (Pfx × Int)) (h : H) : Prop :=
  h.WF ∧ h3.next + 2 ≤ h.next ∧ (∀ j, j < h3.next → j ≠ ob → h.get j = h3.get j) ∧ h.get h3.next = some (.defo true) ∧ h.get (h3.next + 1) = some (.loopo r0) ∧ ∃ ov, h.get ob = some (.row [ov]) ∧ Gl h (h3.next + 2) 5 ov (pre.map pairC)
theorem pairC_len (x : Pfx × Int) : (pairC x).length = 5 := rfl
theorem pairC_all (l : List (Pfx × Int)) : ∀ e ∈ l.map pairC, e.length = 5 := fun e he => by
  obtain ⟨x, _, rfl⟩ := List.mem_map.1 he; rfl
theorem pair_ids : ∀ l : List (Pfx × Int), V.idss (l.map pairC).flatten = []
  | [] => rfl
  | x :: l => by
    simp [pairC, V.idss, V.ids, pair_ids l]
theorem outJ_sat {h3 : H} {ob : Nat} {r0 : LoopV} (hob : ob < h3.next) (w : h3.WF) (pre : List (Pfx × Int)) : ∃ h, outJ h3 ob r0 pre h := by
  obtain ⟨H0, hH0⟩ : ∃ H0, H0 = (h3.push (.defo true)).push (.loopo r0) := ⟨_, rfl⟩
  have n0 : H0.next = h3.next + 2 := by rw [hH0]; simp
  have w0 : H0.WF := by rw [hH0]; exact (w.push _).push _
  have k0 : ∀ j, j < h3.next → H0.get j = h3.get j := fun j hj => by rw [hH0]; simp [show ¬ j = h3.next by omega, show ¬ j = h3.next + 1 by omega]
  have d0 : H0.get h3.next = some (.defo true) := by rw [hH0]; simp
  have l0 : H0.get (h3.next + 1) = some (.loopo r0) := by rw [hH0]; simp
  cases pre with
  | nil =>
    refine ⟨H0.set ob (.row [.nilsl]), w0.set (by omega) _, by simp; omega, fun j hj hn => by rw [H.get_set, if_neg hn, k0 j hj], by rw [H.get_set, if_neg (by omega), d0], by rw [H.get_set, if_neg (by omega), l0], .nilsl, by simp, .inl ⟨rfl, rfl⟩⟩
  | cons x l =>
    refine ⟨(H0.push (.grow 5 (((x :: l).map pairC).flatten))).set ob (.row [.sl H0.next (((x :: l).map pairC).flatten).length 0 ((x :: l).map pairC).length none]), (w0.push _).set (by simp; omega) _, by simp; omega, fun j hj hn => by rw [H.get_set, if_neg hn, H.get_push, if_neg (by omega), k0 j hj],
      by rw [H.get_set, if_neg (by omega), H.get_push, if_neg (by omega), d0], by rw [H.get_set, if_neg (by omega), H.get_push, if_neg (by omega), l0], _, by rw [H.get_set, if_pos rfl], .inr ⟨by simp, H0.next, by omega, by simp, rfl, by rw [H.get_set, if_neg (by omega), H.get_push, if_pos rfl]⟩⟩
theorem outJ_mono {h3 : H} {ob : Nat} {r0 : LoopV} (hob : ob < h3.next) {pre : List (Pfx × Int)} {h h' : H} (j : outJ h3 ob r0 pre h) (g : Ge h h') (w : h'.WF) : outJ h3 ob r0 pre h' := by
  obtain ⟨a, b, c, d, e, ov, f, gl⟩ := j
  refine ⟨w, Nat.le_trans b g.1, fun j hj hn => (g.2 j (by omega)).trans (c j hj hn), (g.2 _ (by omega)).trans d, (g.2 _ (by omega)).trans e, ov, (g.2 _ (by omega)).trans f, gl.keep g.1 fun i hi => g.2 i (gl.lo i hi).2⟩
/-- The list's end: a fresh one. -/
theorem outJ_end {h3 : H} {ob : Nat} {r0 : LoopV} {l : List (Pfx × Int)} {h : H} (j : outJ h3 ob r0 l h) : ∃ ov, h.get ob = some (.row [ov]) ∧ ((ov = .nilsl ∧ (l.map pairC).flatten = []) ∨ ((l.map pairC).flatten ≠ [] ∧ ∃ j, ov = .sl j (l.map pairC).flatten.length 0 l.length none ∧ h3.next + 2 ≤ j ∧ j < h.next ∧ h.get j = some (.grow 5 (l.map pairC).flatten))) := by
  obtain ⟨a, b, c, d, e, ov, f, gl⟩ := j
  refine ⟨ov, f, ?_⟩
  rcases gl with ⟨e1, e2⟩ | ⟨e1, j, j1, j2, j3, j4⟩
  · exact .inl ⟨e2, by rw [e1]; rfl⟩
  · refine .inr ⟨fun e0 => e1 ?_, j, by simpa using j3, j1, j2, j4⟩
    cases l with
    | nil => rfl
    | cons x l => simp [pairC] at e0

theorem all_round {h3 : H} {ob nb : Nat} {r0 : LoopV} {n : Nat} (hwf3 : h3.WF) (hob : ob < h3.next) (hnb : h3.get nb = some (.row [.int .i64 (n : Nat)])) (hne : nb ≠ ob) (hn : n < 1000000000) (hst : r0.st = .ready) (hpd : r0.pending = none) (has : r0.assign = S.Hlaw03_all_as) (hbd : r0.body = S.Hlaw03_all_bd)
    (hps : r0.params = #[16, 17]) (htl : r0.tmps.length = 30) (t5 : r0.tmps[5]? = some (.ptr ob 1 0)) (t3 : r0.tmps[3]? = some (.ptr nb 1 0)) {pre : List (Pfx × Int)} {x : Pfx × Int} {h : H} (hJ : outJ h3 ob r0 pre h) (hl : pre.length + 1 ≤ n) :
    Ayields Tryd.prog (h3.next + 1) [.agg (pfxC x.1), .int .i64 x.2] h fun r h' => r = .bool true ∧ outJ h3 ob r0 (pre ++ [x]) h' := by
  obtain ⟨w, b1, k1, d1, l1, ov, f1, gl⟩ := hJ
  refine ayields_of l1 (ca := S.Hlaw03_all_ca) (cb := S.Hlaw03_all_cb) (by rw [htl, has]; exact S.Hlaw03_all_cas) (by rw [htl, hbd]; exact S.Hlaw03_all_cbd) (by rw [hps]; rfl) (by rw [hps, htl]; simp) ?_
  rw [hps]
  simp only [S.Hlaw03_all_ca, pfxC]
  simp
  obtain ⟨h1, hh1⟩ : ∃ h1, h1 = (h.push (.row [.int .i64 0, .int .u64 0, .str [], .int .i64 0])).set h.next (.row (pfxC x.1)) := ⟨_, rfl⟩
  have n1 : h1.next = h.next + 1 := by rw [hh1]; simp
  have w1 : h1.WF := by rw [hh1]; exact (w.push _).set (by simp) _
  have g1 : Ge h h1 := by rw [hh1]; exact ((Ge.refl _).push _).set (Nat.le_refl _) _
  have p1 : h1.get h.next = some (.row (pfxC x.1)) := by rw [hh1]; simp
  simp only [pfxC] at hh1
  rw [← hh1]
  refine ⟨r0, by rw [if_neg (by omega), if_neg (by omega)]; exact l1, hst, ?_⟩
  obtain ⟨r1, hr1⟩ : ∃ r1 : LoopV, r1 = { r0 with st := .busy, pending := r0.pending } := ⟨_, rfl⟩
  have hr2 : ({ r1 with st := .ready, pending := none } : LoopV) = r0 := by rw [hr1]; cases r0; simp_all
  rw [← hr1]
  obtain ⟨h2, hh2⟩ : ∃ h2, h2 = h1.set (h3.next + 1) (.loopo r1) := ⟨_, rfl⟩
  rw [← hh2]
  have k2 : ∀ j, j ≠ h3.next + 1 → h2.get j = h1.get j := fun j hj => by rw [hh2, H.get_set, if_neg hj]
  have n2 : h2.next = h.next + 1 := by rw [hh2]; simpa using n1
  have w2 : h2.WF := by rw [hh2]; exact w1.set (by omega) _
  have l2 : h2.get (h3.next + 1) = some (.loopo r1) := by rw [hh2]; simp
  have o2 : h2.get ob = some (.row [ov]) := (k2 ob (by omega)).trans ((g1.2 ob (by omega)).trans f1)
  have nblt : nb < h3.next := by
    have := k1 nb
    rcases Nat.lt_or_ge nb h3.next with h | h
    · exact h
    · exfalso
      by_cases e : nb = h3.next
      · have := hwf3 _ (Nat.le_of_eq e.symm); rw [this] at hnb; cases hnb
      · have := hwf3 nb h; rw [this] at hnb; cases hnb
  have nb2 : h2.get nb = some (.row [.int .i64 (n : Nat)]) := (k2 nb (by omega)).trans ((g1.2 nb (by omega)).trans ((k1 nb nblt hne).trans hnb))
  have q2 : h2.get h.next = some (.row (pfxC x.1)) := (k2 h.next (by omega)).trans p1
  have co : cellsAt h2.get ob 1 = some [ov] := by rw [cellsAt_of o2 (by rfl)]; rfl
  have cq : cellsAt h2.get h.next 4 = some (pfxC x.1) := by rw [cellsAt_of q2 (by rfl)]; rfl
  have gl2 : Gl h2 (h3.next + 2) 5 ov (pre.map pairC) := gl.keep (by omega) fun i hi => by
    have := gl.lo i hi
    rw [k2 i (by omega), g1.2 i this.2]
  -- one append
  obtain ⟨h4, hh4⟩ : ∃ h4, h4 = h2.push (.row (pairC x)) := ⟨_, rfl⟩
  have g4 : Ge h2 h4 := by rw [hh4]; exact (Ge.refl _).push _
  have w4 : h4.WF := by rw [hh4]; exact w2.push _
  have n4 : h4.next = h2.next + 1 := by rw [hh4]; simp
  have gl4 : Gl h4 (h3.next + 2) 5 ov (pre.map pairC) := gl2.keep g4.1 fun i hi => g4.2 i (gl2.lo i hi).2
  have el : elemsV h4.get 5 (.sl h2.next 5 0 1 (some 1)) = some (1, pairC x) := by rw [hh4]; simp [elemsV_sl, pairC]
  obtain ⟨ov', dd, A1, A2, A3, A4, A5⟩ := gl4.append (by omega) (pairC_all pre) (pairC_len x) el (by simp [pairC]) (by omega) (bytes := 48) (by simp; omega) (by simp; omega)
  obtain ⟨h5, hh5⟩ : ∃ h5, h5 = h4.app dd := ⟨_, rfl⟩
  rw [← hh5] at A2 A3 A4 A5
  have nov : ∀ j, j < h3.next + 2 → j ∉ ov.ids := fun j hj hm => by have := (gl.lo j hm).1; omega
  have o5 : h5.get ob = some (.row [ov]) := (A4 ob (nov ob (by omega)) (by omega)).trans ((g4.2 ob (by omega)).trans o2)
  have A1' := A1
  have o5' := o5
  rw [hh5] at o5'
  rw [hh4] at A1' o5'
  simp only [H.next_push, pairC] at A1' o5'
  have hov1 := A2.one
  have cov := cells_of_one hov1
  have sov := solid_of_one hov1
  have len2 : lenV 1 h5.get ov' = some (.int .i64 ((pre.length + 1 : Nat) : Int)) := by
    have := (A2.sls (by intro e he; rcases List.mem_append.1 he with he | he; exact pairC_all pre e he; rw [List.mem_singleton] at he; subst he; rfl) (by simp; omega)).len
    simpa using this
  obtain ⟨h6, hh6⟩ : ∃ h6, h6 = h5.set ob (.row [ov']) := ⟨_, rfl⟩
  have o6 : h6.get ob = some (.row [ov']) := by rw [hh6]; simp
  have k6 : ∀ j, j ≠ ob → h6.get j = h5.get j := fun j hj => by rw [hh6, H.get_set, if_neg hj]
  have k5 : ∀ j, j < h3.next + 2 → h5.get j = h2.get j := fun j hj => (A4 j (nov j hj) (by omega)).trans (g4.2 j (by omega))
  have nb6 : h6.get nb = some (.row [.int .i64 (n : Nat)]) := (k6 nb hne).trans ((k5 nb (by omega)).trans nb2)
  have co6 : cellsAt h6.get ob 1 = some [ov'] := by rw [cellsAt_of o6 (by rfl)]; rfl
  have cn6 : cellsAt h6.get nb 1 = some [.int .i64 (n : Nat)] := by rw [cellsAt_of nb6 (by rfl)]; rfl
  have len6 : lenV 1 h6.get ov' = some (.int .i64 ((pre.length + 1 : Nat) : Int)) := by
    rcases A2 with ⟨e, _⟩ | ⟨_, j, _, _, e, _⟩
    · simp at e
    · rw [e] at len2 ⊢; simp
  have nlt : ¬ (n : Int) < ((pre.length + 1 : Nat) : Int) := by omega
  simp only [pfxC] at cq
  simp only [S.Hlaw03_all_cb]
  simp [t5, co, cq, A1', o5', sov, cov]
  simp only [pairC] at hh4
  rw [← hh4, ← hh5, ← hh6]
  have l6 : h6.get (h3.next + 1) = some (.loopo r1) := (k6 _ (by omega)).trans ((k5 _ (by omega)).trans l2)
  have lenI : ((pre.length + 1 : Nat) : Int) = (pre.length : Int) + 1 := by omega
  rw [lenI] at len6 nlt
  simp [t3, cn6, len6, nlt]
  refine ⟨r1, l6, ?_⟩
  rw [hr2]
  have n5 : h4.next ≤ h5.next := A3
  have n6 : h6.next = h5.next := by rw [hh6]; simp
  have w6 : h6.WF := by rw [hh6]; exact (A5 w4).set (by omega) _
  have kk : ∀ j, j < h3.next + 2 → j ≠ ob → j ≠ h3.next + 1 → h6.get j = h.get j := fun j a b c => (k6 j b).trans ((k5 j a).trans ((k2 j c).trans (g1.2 j (by omega))))
  refine ⟨w6.set (by omega) _, by simp; omega, fun j hj hn => ?_, ?_, by simp, ov', ?_, ?_⟩
  · rw [H.get_set, if_neg (by omega), kk j (by omega) hn (by omega), k1 j hj hn]
  · rw [H.get_set, if_neg (by omega), kk _ (by omega) (by omega) (by omega), d1]
  · rw [H.get_set, if_neg (by omega), o6]
  · have A2' : Gl h5 (h3.next + 2) 5 ov' ((pre ++ [x]).map pairC) := by simpa using A2
    exact A2'.keep (by simp; omega) fun i hi => by
      have := (A2'.lo i hi).1
      rw [H.get_set, if_neg (by omega), k6 i (by omega)]

theorem under_round {h3 : H} {ob nb : Nat} {r0 : LoopV} {n : Nat} (hwf3 : h3.WF) (hob : ob < h3.next) (hnb : h3.get nb = some (.row [.int .i64 (n : Nat)])) (hne : nb ≠ ob) (hn : n < 1000000000) (hst : r0.st = .ready) (hpd : r0.pending = none) (has : r0.assign = S.Hlaw03_under_as) (hbd : r0.body = S.Hlaw03_under_bd)
    (hps : r0.params = #[19, 20]) (htl : r0.tmps.length = 33) (t5 : r0.tmps[7]? = some (.ptr ob 1 0)) (t3 : r0.tmps[5]? = some (.ptr nb 1 0)) {pre : List (Pfx × Int)} {x : Pfx × Int} {h : H} (hJ : outJ h3 ob r0 pre h) (hl : pre.length + 1 ≤ n) :
    Ayields Tryd.prog (h3.next + 1) [.agg (pfxC x.1), .int .i64 x.2] h fun r h' => r = .bool true ∧ outJ h3 ob r0 (pre ++ [x]) h' := by
  obtain ⟨w, b1, k1, d1, l1, ov, f1, gl⟩ := hJ
  refine ayields_of l1 (ca := S.Hlaw03_under_ca) (cb := S.Hlaw03_under_cb) (by rw [htl, has]; exact S.Hlaw03_under_cas) (by rw [htl, hbd]; exact S.Hlaw03_under_cbd) (by rw [hps]; rfl) (by rw [hps, htl]; simp) ?_
  rw [hps]
  simp only [S.Hlaw03_under_ca, pfxC]
  simp
  obtain ⟨h1, hh1⟩ : ∃ h1, h1 = (h.push (.row [.int .i64 0, .int .u64 0, .str [], .int .i64 0])).set h.next (.row (pfxC x.1)) := ⟨_, rfl⟩
  have n1 : h1.next = h.next + 1 := by rw [hh1]; simp
  have w1 : h1.WF := by rw [hh1]; exact (w.push _).set (by simp) _
  have g1 : Ge h h1 := by rw [hh1]; exact ((Ge.refl _).push _).set (Nat.le_refl _) _
  have p1 : h1.get h.next = some (.row (pfxC x.1)) := by rw [hh1]; simp
  simp only [pfxC] at hh1
  rw [← hh1]
  refine ⟨r0, by rw [if_neg (by omega), if_neg (by omega)]; exact l1, hst, ?_⟩
  obtain ⟨r1, hr1⟩ : ∃ r1 : LoopV, r1 = { r0 with st := .busy, pending := r0.pending } := ⟨_, rfl⟩
  have hr2 : ({ r1 with st := .ready, pending := none } : LoopV) = r0 := by rw [hr1]; cases r0; simp_all
  rw [← hr1]
  obtain ⟨h2, hh2⟩ : ∃ h2, h2 = h1.set (h3.next + 1) (.loopo r1) := ⟨_, rfl⟩
  rw [← hh2]
  have k2 : ∀ j, j ≠ h3.next + 1 → h2.get j = h1.get j := fun j hj => by rw [hh2, H.get_set, if_neg hj]
  have n2 : h2.next = h.next + 1 := by rw [hh2]; simpa using n1
  have w2 : h2.WF := by rw [hh2]; exact w1.set (by omega) _
  have l2 : h2.get (h3.next + 1) = some (.loopo r1) := by rw [hh2]; simp
  have o2 : h2.get ob = some (.row [ov]) := (k2 ob (by omega)).trans ((g1.2 ob (by omega)).trans f1)
  have nblt : nb < h3.next := by
    have := k1 nb
    rcases Nat.lt_or_ge nb h3.next with h | h
    · exact h
    · exfalso
      by_cases e : nb = h3.next
      · have := hwf3 _ (Nat.le_of_eq e.symm); rw [this] at hnb; cases hnb
      · have := hwf3 nb h; rw [this] at hnb; cases hnb
  have nb2 : h2.get nb = some (.row [.int .i64 (n : Nat)]) := (k2 nb (by omega)).trans ((g1.2 nb (by omega)).trans ((k1 nb nblt hne).trans hnb))
  have q2 : h2.get h.next = some (.row (pfxC x.1)) := (k2 h.next (by omega)).trans p1
  have co : cellsAt h2.get ob 1 = some [ov] := by rw [cellsAt_of o2 (by rfl)]; rfl
  have cq : cellsAt h2.get h.next 4 = some (pfxC x.1) := by rw [cellsAt_of q2 (by rfl)]; rfl
  have gl2 : Gl h2 (h3.next + 2) 5 ov (pre.map pairC) := gl.keep (by omega) fun i hi => by
    have := gl.lo i hi
    rw [k2 i (by omega), g1.2 i this.2]
  -- one append
  obtain ⟨h4, hh4⟩ : ∃ h4, h4 = h2.push (.row (pairC x)) := ⟨_, rfl⟩
  have g4 : Ge h2 h4 := by rw [hh4]; exact (Ge.refl _).push _
  have w4 : h4.WF := by rw [hh4]; exact w2.push _
  have n4 : h4.next = h2.next + 1 := by rw [hh4]; simp
  have gl4 : Gl h4 (h3.next + 2) 5 ov (pre.map pairC) := gl2.keep g4.1 fun i hi => g4.2 i (gl2.lo i hi).2
  have el : elemsV h4.get 5 (.sl h2.next 5 0 1 (some 1)) = some (1, pairC x) := by rw [hh4]; simp [elemsV_sl, pairC]
  obtain ⟨ov', dd, A1, A2, A3, A4, A5⟩ := gl4.append (by omega) (pairC_all pre) (pairC_len x) el (by simp [pairC]) (by omega) (bytes := 48) (by simp; omega) (by simp; omega)
  obtain ⟨h5, hh5⟩ : ∃ h5, h5 = h4.app dd := ⟨_, rfl⟩
  rw [← hh5] at A2 A3 A4 A5
  have nov : ∀ j, j < h3.next + 2 → j ∉ ov.ids := fun j hj hm => by have := (gl.lo j hm).1; omega
  have o5 : h5.get ob = some (.row [ov]) := (A4 ob (nov ob (by omega)) (by omega)).trans ((g4.2 ob (by omega)).trans o2)
  have A1' := A1
  have o5' := o5
  rw [hh5] at o5'
  rw [hh4] at A1' o5'
  simp only [H.next_push, pairC] at A1' o5'
  have hov1 := A2.one
  have cov := cells_of_one hov1
  have sov := solid_of_one hov1
  have len2 : lenV 1 h5.get ov' = some (.int .i64 ((pre.length + 1 : Nat) : Int)) := by
    have := (A2.sls (by intro e he; rcases List.mem_append.1 he with he | he; exact pairC_all pre e he; rw [List.mem_singleton] at he; subst he; rfl) (by simp; omega)).len
    simpa using this
  obtain ⟨h6, hh6⟩ : ∃ h6, h6 = h5.set ob (.row [ov']) := ⟨_, rfl⟩
  have o6 : h6.get ob = some (.row [ov']) := by rw [hh6]; simp
  have k6 : ∀ j, j ≠ ob → h6.get j = h5.get j := fun j hj => by rw [hh6, H.get_set, if_neg hj]
  have k5 : ∀ j, j < h3.next + 2 → h5.get j = h2.get j := fun j hj => (A4 j (nov j hj) (by omega)).trans (g4.2 j (by omega))
  have nb6 : h6.get nb = some (.row [.int .i64 (n : Nat)]) := (k6 nb hne).trans ((k5 nb (by omega)).trans nb2)
  have co6 : cellsAt h6.get ob 1 = some [ov'] := by rw [cellsAt_of o6 (by rfl)]; rfl
  have cn6 : cellsAt h6.get nb 1 = some [.int .i64 (n : Nat)] := by rw [cellsAt_of nb6 (by rfl)]; rfl
  have len6 : lenV 1 h6.get ov' = some (.int .i64 ((pre.length + 1 : Nat) : Int)) := by
    rcases A2 with ⟨e, _⟩ | ⟨_, j, _, _, e, _⟩
    · simp at e
    · rw [e] at len2 ⊢; simp
  have nlt : ¬ (n : Int) < ((pre.length + 1 : Nat) : Int) := by omega
  simp only [pfxC] at cq
  simp only [S.Hlaw03_under_cb]
  simp [t5, co, cq, A1', o5', sov, cov]
  simp only [pairC] at hh4
  rw [← hh4, ← hh5, ← hh6]
  have l6 : h6.get (h3.next + 1) = some (.loopo r1) := (k6 _ (by omega)).trans ((k5 _ (by omega)).trans l2)
  have lenI : ((pre.length + 1 : Nat) : Int) = (pre.length : Int) + 1 := by omega
  rw [lenI] at len6 nlt
  simp [t3, cn6, len6, nlt]
  refine ⟨r1, l6, ?_⟩
  rw [hr2]
  have n5 : h4.next ≤ h5.next := A3
  have n6 : h6.next = h5.next := by rw [hh6]; simp
  have w6 : h6.WF := by rw [hh6]; exact (A5 w4).set (by omega) _
  have kk : ∀ j, j < h3.next + 2 → j ≠ ob → j ≠ h3.next + 1 → h6.get j = h.get j := fun j a b c => (k6 j b).trans ((k5 j a).trans ((k2 j c).trans (g1.2 j (by omega))))
  refine ⟨w6.set (by omega) _, by simp; omega, fun j hj hn => ?_, ?_, by simp, ov', ?_, ?_⟩
  · rw [H.get_set, if_neg (by omega), kk j (by omega) hn (by omega), k1 j hj hn]
  · rw [H.get_set, if_neg (by omega), kk _ (by omega) (by omega) (by omega), d1]
  · rw [H.get_set, if_neg (by omega), o6]
  · have A2' : Gl h5 (h3.next + 2) 5 ov' ((pre ++ [x]).map pairC) := by simpa using A2
    exact A2'.keep (by simp; omega) fun i hi => by
      have := (A2'.lo i hi).1
      rw [H.get_set, if_neg (by omega), k6 i (by omega)]

theorem all_iter {h : H} {i : Nat} {Q : V → H → Prop} (q : h.WF → Q (.func (.func 57) [] [.ptr h.next 1 0]) (h.push (.row [.ptr i 3 0]))) : Acalls Tryd.prog 38 [.ptr i 3 0] h Q := by
  refine acalls_to Tryd.func38 S.trie_Trie_int_All_code S.trie_Trie_int_All_enter (Nat.le_of_ble_eq_true rfl) fun wf => ?_; simp only [S.trie_Trie_int_All]
  simp
  exact q wf
theorem all_loop {h3 : H} {i : Nat} {rs : List Rt} {m : Nat} {ns : List Nat} {n : Nat} (t : Tm) (w3 : h3.WF) (o : RsOk rs) (ta : TrieAt h3 i rs m ns) {ob nb tb : Nat} (nsn : ∀ j ∈ ns, j < h3.next ∧ j ≠ ob) (hb : rs.length ≤ 1000000) (hn : n < 1000000000) (hl : (rsPairs rs).length ≤ n)
    (hob : ob < h3.next) (ob3 : h3.get ob = some (.row [.nilsl])) (nb3 : h3.get nb = some (.row [.int .i64 (n : Nat)])) (hne : nb ≠ ob) (tb3 : h3.get tb = some (.row [.ptr i 3 0])) (htb : tb < h3.next ∧ tb ≠ ob) (t5 : t 5 = .ptr ob 1 0) (t3 : t 3 = .ptr nb 1 0) :
    Acalls Tryd.prog 57 [.yl (h3.next + 1), .ptr tb 1 0] (loopH 30 t #[16, 17] S.Hlaw03_all_as S.Hlaw03_all_bd h3) fun r h2 => r = .tup [] ∧
      outJ h3 ob ⟨.ready, none, (List.range 30).map t, #[16, 17], S.Hlaw03_all_as, S.Hlaw03_all_bd, h3.next⟩ (rsPairs rs) h2 := by
  obtain ⟨r0, hr0⟩ : ∃ r0 : LoopV, r0 = ⟨.ready, none, (List.range 30).map t, #[16, 17], S.Hlaw03_all_as, S.Hlaw03_all_bd, h3.next⟩ := ⟨_, rfl⟩
  have J0 : outJ h3 ob r0 [] (loopH 30 t #[16, 17] S.Hlaw03_all_as S.Hlaw03_all_bd h3) := by
    have e1 : ¬ ob = h3.next := by omega
    have e2 : ¬ ob = h3.next + 1 := by omega
    refine ⟨(w3.push _).push _, by simp [loopH], fun j hj hn => ?_, by simp [loopH], by simp [loopH, hr0], .nilsl, by simp [loopH, e1, e2, ob3], .inl ⟨rfl, rfl⟩⟩
    simp [loopH, show ¬ j = h3.next by omega, show ¬ j = h3.next + 1 by omega]
  rw [← hr0]
  have tl : Telling (h3.next + 1) 59 [] h3 ns (rsPairs rs) (outJ h3 ob r0) := by
    refine ⟨fun pre _ => outJ_sat hob w3 pre, fun pre h hj => hj.1, fun pre h hj j hjn => hj.2.2.1 j (nsn j hjn).1 (nsn j hjn).2, fun pre h h' hj g w => outJ_mono hob hj g w, fun pre x h hj hpre => ?_⟩
    refine all_round w3 hob nb3 hne hn (by rw [hr0]) (by rw [hr0]) (by rw [hr0]) (by rw [hr0]) (by rw [hr0]) (by rw [hr0]; simp) (by rw [hr0]; simp [t5]) (by rw [hr0]; simp [t3]) hj ?_
    have := hpre.length_le
    simp at this
    omega
  exact all1_ct tl o ta hb rfl (fun pre h hj => (hj.2.2.1 tb htb.1 htb.2).trans tb3) J0
theorem all_ct {h : H} {i : Nat} {rs : List Rt} {m : Nat} {ns : List Nat} (o : RsOk rs) (ta : TrieAt h i rs m ns) (hb : rs.length ≤ 1000000) {n : Nat} (hn : n < 1000000000) (hl : (rsPairs rs).length ≤ n) {Q : V → H → Prop}
    (q1 : ((rsPairs rs).map pairC).flatten = [] → Q .nilsl h) (q2 : ((rsPairs rs).map pairC).flatten ≠ [] → Q (.sl h.next ((rsPairs rs).map pairC).flatten.length 0 (rsPairs rs).length none) (h.push (.grow 5 ((rsPairs rs).map pairC).flatten))) :
    Acalls Tryd.prog 16 [.ptr i 3 0, .int .i64 (n : Nat)] h Q := by
  obtain ⟨cells, hcells⟩ : ∃ cells, cells = ((rsPairs rs).map pairC).flatten := ⟨_, rfl⟩
  obtain ⟨len, hlen⟩ : ∃ len, len = (rsPairs rs).length := ⟨_, rfl⟩
  have hids : V.idss cells = [] := by rw [hcells]; exact pair_ids _
  simp only [← hcells, ← hlen] at q1 q2
  refine Acalls.fresh (sz := 5) (len := len) (cells := cells) ?_ hids q1 q2
  refine acalls_range_to Tryd.func16 S.Hlaw03_all_rcode S.Hlaw03_all_enter (Nat.le_of_ble_eq_true rfl) fun wf => ?_
  have tlt := ta.lt wf
  simp only [S.Hlaw03_all_r]
  simp [ne_b, ne_c, ne_d]
  refine all_iter fun wf3 => ?_
  simp [eqV_fn, ne_d]
  obtain ⟨h3, hh3⟩ : ∃ h3, h3 = (((h.push (.row [.int .i64 (n : Nat)])).push (.row [.nilsl])).push (.row [.nilsl])).push (.row [.ptr i 3 0]) := ⟨_, rfl⟩
  rw [← hh3]
  have w3 : h3.WF := by rw [hh3]; exact (((wf.push _).push _).push _).push _
  have n3 : h3.next = h.next + 4 := by rw [hh3]; simp
  have g3 : Ge h h3 := by rw [hh3]; exact ((((Ge.refl _).push _).push _).push _).push _
  have ob3 : h3.get (h.next + 1 + 1) = some (.row [.nilsl]) := by rw [hh3]; simp
  have nb3 : h3.get (h.next + 0) = some (.row [.int .i64 (n : Nat)]) := by rw [hh3]; simp [ne_a, ne_b]
  have rs3 : h3.get (h.next + 1) = some (.row [.nilsl]) := by rw [hh3]; simp
  have tb3 : h3.get (h.next + 1 + 1 + 1) = some (.row [.ptr i 3 0]) := by rw [hh3]; simp
  skip
  refine rfor_of _ ?_
  have nsn : ∀ j ∈ ns, j < h3.next ∧ j ≠ h.next + 1 + 1 := fun j hj => by have := tlt j hj; omega
  refine Acalls.mono (all_loop (i := i) (rs := rs) (m := m) (ns := ns) (n := n) _ w3 o (ta.keep fun j hj => g3.2 j (tlt j hj)) nsn hb hn hl (ob := h.next + 1 + 1) (nb := h.next + 0) (tb := h.next + 1 + 1 + 1) (by omega) ob3 nb3 (by omega) tb3 (by omega) (by simp) (by simp)) ?_
  rintro _ h2 ⟨rfl, hJ2⟩
  have hJ2' := hJ2
  obtain ⟨w2, b2, k2, d2, l2, _⟩ := hJ2
  refine ⟨by simpa using d2, _, l2, by simp, ?_⟩
  obtain ⟨ov, f2, hov⟩ := outJ_end hJ2'
  rw [← hcells, ← hlen] at hov
  have co : cellsAt h2.get (h.next + 1 + 1) 1 = some [ov] := by rw [cellsAt_of f2 (by rfl)]; rfl
  have ov1 : ov.one = true := by rcases hov with ⟨rfl, _⟩ | ⟨_, j, rfl, _⟩ <;> rfl
  have cov := cells_of_one ov1
  have sov := solid_of_one ov1
  have rs2 : h2.get (h.next + 1) = some (.row [.nilsl]) := (k2 _ (by omega) (by omega)).trans rs3
  have m1 : ¬ h.next + 1 + 1 = h3.next + 1 := by omega
  have m2 : ¬ h.next + 1 = h3.next + 1 := by omega
  have m3 : ¬ h.next + 1 = h3.next := by omega
  have m4 : ¬ h3.next = h.next + 1 := by omega
  have m5 : ¬ h.next = h3.next := by omega
  have m6 : ¬ h.next + 1 = h3.next := by omega
  have m7 : ¬ h.next + 1 + 1 = h3.next := by omega
  have m8 : ¬ h3.next = h.next := by omega
  have m9 : ¬ h3.next = h.next + 1 := by omega
  have d2' : h2.get h3.next = some (.defo true) := d2
  simp [co, rs2, m3, m4, m5, sov, cov, d2', ne_a, ne_c, ne_d]
  refine ⟨⟨by simp only [H.next_set]; omega, fun j hj => ?_⟩, ?_⟩
  · rw [H.get_set, if_neg (by omega), H.get_set, if_neg (by omega), H.get_set, if_neg (by omega), k2 j (by omega) (by omega), g3.2 j hj]
  · rcases hov with ⟨e1, e2⟩ | ⟨e1, j, e2, e3, e4, e5⟩
    · exact .inl ⟨e1, e2⟩
    · exact .inr ⟨e1, j, e2, by omega, by rw [if_neg (by omega), if_neg (by omega), if_neg (by omega)]; exact e5⟩

theorem under_iter {h : H} {i : Nat} {p : Pfx} {Q : V → H → Prop} (q : h.WF → Q (.func (.func 63) [] [.ptr h.next 1 0, .ptr (h.next + 1) 4 0]) ((h.push (.row [.ptr i 3 0])).push (.row (pfxC p)))) : Acalls Tryd.prog 47 [.ptr i 3 0, .agg (pfxC p)] h Q := by
  refine acalls_to Tryd.func47 S.trie_Trie_int_Under_code S.trie_Trie_int_Under_enter (Nat.le_of_ble_eq_true rfl) fun wf => ?_; simp only [S.trie_Trie_int_Under]
  simp only [pfxC] at q ⊢
  simp
  exact q wf
theorem under_loop {h3 : H} {i : Nat} {rs : List Rt} {m : Nat} {ns : List Nat} {n : Nat} (t : Tm) (w3 : h3.WF) (o : RsOk rs) (ta : TrieAt h3 i rs m ns) {ob nb tb pb : Nat} (nsn : ∀ j ∈ ns, j < h3.next ∧ j ≠ ob) (hb : rs.length ≤ 1000000) (hn : n < 1000000000) {p : Pfx} (hl : (tunder rs p).length ≤ n)
    (pb3 : h3.get pb = some (.row (pfxC p))) (hpb : pb < h3.next ∧ pb ≠ ob) (hob : ob < h3.next) (ob3 : h3.get ob = some (.row [.nilsl])) (nb3 : h3.get nb = some (.row [.int .i64 (n : Nat)])) (hne : nb ≠ ob) (tb3 : h3.get tb = some (.row [.ptr i 3 0])) (htb : tb < h3.next ∧ tb ≠ ob) (t5 : t 7 = .ptr ob 1 0) (t3 : t 5 = .ptr nb 1 0) :
    Acalls Tryd.prog 63 [.yl (h3.next + 1), .ptr tb 1 0, .ptr pb 4 0] (loopH 33 t #[19, 20] S.Hlaw03_under_as S.Hlaw03_under_bd h3) fun r h2 => r = .tup [] ∧
      outJ h3 ob ⟨.ready, none, (List.range 33).map t, #[19, 20], S.Hlaw03_under_as, S.Hlaw03_under_bd, h3.next⟩ (tunder rs p) h2 := by
  obtain ⟨r0, hr0⟩ : ∃ r0 : LoopV, r0 = ⟨.ready, none, (List.range 33).map t, #[19, 20], S.Hlaw03_under_as, S.Hlaw03_under_bd, h3.next⟩ := ⟨_, rfl⟩
  have J0 : outJ h3 ob r0 [] (loopH 33 t #[19, 20] S.Hlaw03_under_as S.Hlaw03_under_bd h3) := by
    have e1 : ¬ ob = h3.next := by omega
    have e2 : ¬ ob = h3.next + 1 := by omega
    refine ⟨(w3.push _).push _, by simp [loopH], fun j hj hn => ?_, by simp [loopH], by simp [loopH, hr0], .nilsl, by simp [loopH, e1, e2, ob3], .inl ⟨rfl, rfl⟩⟩
    simp [loopH, show ¬ j = h3.next by omega, show ¬ j = h3.next + 1 by omega]
  rw [← hr0]
  have tl : Telling (h3.next + 1) 64 [.ptr pb 4 0] h3 ns (tunder rs p) (outJ h3 ob r0) := by
    refine ⟨fun pre _ => outJ_sat hob w3 pre, fun pre h hj => hj.1, fun pre h hj j hjn => hj.2.2.1 j (nsn j hjn).1 (nsn j hjn).2, fun pre h h' hj g w => outJ_mono hob hj g w, fun pre x h hj hpre => ?_⟩
    refine under_round w3 hob nb3 hne hn (by rw [hr0]) (by rw [hr0]) (by rw [hr0]) (by rw [hr0]) (by rw [hr0]) (by rw [hr0]; simp) (by rw [hr0]; simp [t5]) (by rw [hr0]; simp [t3]) hj ?_
    have := hpre.length_le
    simp at this
    omega
  exact under1_ct tl o ta hb rfl (fun pre h hj => (hj.2.2.1 tb htb.1 htb.2).trans tb3) (fun pre h hj => (hj.2.2.1 pb hpb.1 hpb.2).trans pb3) J0
theorem under_ct {h : H} {i : Nat} {rs : List Rt} {m : Nat} {ns : List Nat} (o : RsOk rs) (ta : TrieAt h i rs m ns) (hb : rs.length ≤ 1000000) {p : Pfx} {n : Nat} (hn : n < 1000000000) (hl : (tunder rs p).length ≤ n) {Q : V → H → Prop}
    (q1 : ((tunder rs p).map pairC).flatten = [] → Q .nilsl h) (q2 : ((tunder rs p).map pairC).flatten ≠ [] → Q (.sl h.next ((tunder rs p).map pairC).flatten.length 0 (tunder rs p).length none) (h.push (.grow 5 ((tunder rs p).map pairC).flatten))) :
    Acalls Tryd.prog 19 [.ptr i 3 0, .agg (pfxC p), .int .i64 (n : Nat)] h Q := by
  obtain ⟨cells, hcells⟩ : ∃ cells, cells = ((tunder rs p).map pairC).flatten := ⟨_, rfl⟩
  obtain ⟨len, hlen⟩ : ∃ len, len = (tunder rs p).length := ⟨_, rfl⟩
  have hids : V.idss cells = [] := by rw [hcells]; exact pair_ids _
  simp only [← hcells, ← hlen] at q1 q2
  refine Acalls.fresh (sz := 5) (len := len) (cells := cells) ?_ hids q1 q2
  refine acalls_range_to Tryd.func19 S.Hlaw03_under_rcode S.Hlaw03_under_enter (Nat.le_of_ble_eq_true rfl) fun wf => ?_
  have tlt := ta.lt wf
  simp only [S.Hlaw03_under_r, pfxC]
  simp [ne_a, ne_b, ne_c, ne_d]
  refine under_iter (p := p) fun wf3 => ?_
  simp [eqV_fn]
  obtain ⟨h3, hh3⟩ : ∃ h3, h3 = (((((h.push (.row [.int .i64 p.fam, .int .u64 (p.rd : Nat), .str p.addr, .int .i64 p.len])).push (.row [.int .i64 (n : Nat)])).push (.row [.nilsl])).push (.row [.nilsl])).push (.row [.ptr i 3 0])).push (.row (pfxC p)) := ⟨_, rfl⟩
  rw [← hh3]
  have w3 : h3.WF := by rw [hh3]; exact (((((wf.push _).push _).push _).push _).push _).push _
  have n3 : h3.next = h.next + 6 := by rw [hh3]; simp
  have g3 : Ge h h3 := by rw [hh3]; exact ((((((Ge.refl _).push _).push _).push _).push _).push _).push _
  have ob3 : h3.get (h.next + 1 + 1 + 1) = some (.row [.nilsl]) := by rw [hh3]; simp [ne_a]
  have nb3 : h3.get (h.next + 1) = some (.row [.int .i64 (n : Nat)]) := by rw [hh3]; simp
  have rs3 : h3.get (h.next + 1 + 1) = some (.row [.nilsl]) := by rw [hh3]; simp [ne_a, ne_b]
  have tb3 : h3.get (h.next + 1 + 1 + 1 + 1) = some (.row [.ptr i 3 0]) := by rw [hh3]; simp
  have pb3 : h3.get (h.next + 1 + 1 + 1 + 1 + 1) = some (.row (pfxC p)) := by rw [hh3]; simp [pfxC]
  refine rfor_of _ ?_
  have nsn : ∀ j ∈ ns, j < h3.next ∧ j ≠ h.next + 1 + 1 + 1 := fun j hj => by have := tlt j hj; omega
  refine Acalls.mono (under_loop (i := i) (rs := rs) (m := m) (ns := ns) (n := n) _ w3 o (ta.keep fun j hj => g3.2 j (tlt j hj)) nsn hb hn hl (ob := h.next + 1 + 1 + 1) (nb := h.next + 1) (tb := h.next + 1 + 1 + 1 + 1) (pb := h.next + 1 + 1 + 1 + 1 + 1) pb3 (by omega) (by omega) ob3 nb3 (by omega) tb3 (by omega) (by simp) (by simp)) ?_
  rintro _ h2 ⟨rfl, hJ2⟩
  have hJ2' := hJ2
  obtain ⟨w2, b2, k2, d2, l2, _⟩ := hJ2
  refine ⟨by simpa using d2, _, l2, by simp, ?_⟩
  obtain ⟨ov, f2, hov⟩ := outJ_end hJ2'
  rw [← hcells, ← hlen] at hov
  have co : cellsAt h2.get (h.next + 1 + 1 + 1) 1 = some [ov] := by rw [cellsAt_of f2 (by rfl)]; rfl
  have ov1 : ov.one = true := by rcases hov with ⟨rfl, _⟩ | ⟨_, j, rfl, _⟩ <;> rfl
  have cov := cells_of_one ov1
  have sov := solid_of_one ov1
  have rs2 : h2.get (h.next + 1 + 1) = some (.row [.nilsl]) := (k2 _ (by omega) (by omega)).trans rs3
  have m1 : ¬ h.next + 1 + 1 + 1 = h3.next + 1 := by omega
  have m2 : ¬ h.next + 1 + 1 = h3.next + 1 := by omega
  have m3 : ¬ h.next + 1 + 1 = h3.next := by omega
  have m4 : ¬ h3.next = h.next + 1 + 1 := by omega
  have m5 : ¬ h.next = h3.next := by omega
  have m6 : ¬ h.next + 1 = h3.next := by omega
  have m7 : ¬ h.next + 1 + 1 = h3.next := by omega
  have m8 : ¬ h3.next = h.next := by omega
  have m9 : ¬ h3.next = h.next + 1 := by omega
  have d2' : h2.get h3.next = some (.defo true) := d2
  simp [co, rs2, m3, m4, m6, sov, cov, d2', ne_a, ne_c, ne_d]
  refine ⟨⟨by simp only [H.next_set]; omega, fun j hj => ?_⟩, ?_⟩
  · rw [H.get_set, if_neg (by omega), H.get_set, if_neg (by omega), H.get_set, if_neg (by omega), k2 j (by omega) (by omega), g3.2 j hj]
  · rcases hov with ⟨e1, e2⟩ | ⟨e1, j, e2, e3, e4, e5⟩
    · exact .inl ⟨e1, e2⟩
    · exact .inr ⟨e1, j, e2, by omega, by rw [if_neg (by omega), if_neg (by omega), if_neg (by omega)]; exact e5⟩
end Go.Am

/-
  'works' answers true, by a run of its code.
-/
namespace Go.Am
open Go.Proofs
theorem works_run : saysTrue (Fr.runF8 Fr.q.tab 100000 60 15 [] ⟨0, .nil⟩) = true := by kernel_rfl
theorem works_ct (h : H) : Pure Tryd.prog 15 [] h (.bool true) := pure_true8 Fr.q.tab_ok works_run h
end Go.Am

/-
  Prefixes of small numbers: 'of'.
-/
namespace Go.Am
open Go.Proofs

set_option maxRecDepth 100000
structure Sp where
  fam : Nat
  a : Nat
  len : Nat
  v : Int
  deriving DecidableEq
structure SpOk (s : Sp) : Prop where
  fam : s.fam < 256
  a : s.a < 256
  len : s.len < 256
  v : -32768 ≤ s.v ∧ s.v ≤ 32767
end Go.Am

/-
  Small numbers and acts among the arguments.
-/
namespace Go.Am
open Go.Proofs

end Go.Am

/-
  The trie's contracts, as the laws use them.
-/
namespace Go.Am
open Go.Proofs

set_option maxRecDepth 100000
theorem TTurned.self {h : H} {i : Nat} {rs : List Rt} {n : Nat} {ns : List Nat} (a : TrieAt h i rs n ns) (w : h.WF) : TTurned ns h i rs n h := ⟨⟨ns, a, fun _ h => .inl h⟩, Out.refl _ _, w⟩
theorem TTurned.later {ns : List Nat} {hb h h' : H} {i : Nat} {rs : List Rt} {n : Nat} (t : TTurned ns hb i rs n h) (g : Ge h h') (w : h'.WF) : TTurned ns hb i rs n h' := by
  obtain ⟨⟨ms, a, b⟩, c, d⟩ := t
  exact ⟨⟨ms, a.keep fun j hj => g.2 j (a.lt d j hj), b⟩, ⟨Nat.le_trans c.next g.1, fun j hj hn => (g.2 j (Nat.lt_of_lt_of_le hj c.next)).trans (c.keep j hj hn)⟩, w⟩
theorem TTurned.set_ct {ns : List Nat} {hb h : H} {i : Nat} {rs : List Rt} (t : TTurned ns hb i rs (rsPairs rs).length h) (o : RsOk rs) (b : rs.length < 1000000) (bn : (rsPairs rs).length < 1000000000) {p : Pfx} (hp : mayP p = true) (x : Int) :
    Acalls Tryd.prog 9 [.ptr i 3 0, .agg (pfxC p), .int .i64 x] h fun u h' => u = .int .i64 0 ∧ TTurned ns hb i (tset rs p x) (rsPairs (tset rs p x)).length h' := by
  obtain ⟨⟨ms, a, hs⟩, c, d⟩ := t
  refine Acalls.mono (tset_ct o a b bn hp x) ?_
  rintro u h' ⟨rfl, q⟩
  refine ⟨rfl, ?_⟩
  rw [tset_len]
  exact TTurned.up (Ge.refl _) c hs q
theorem TTurned.del_ct {ns : List Nat} {hb h : H} {i : Nat} {rs : List Rt} (t : TTurned ns hb i rs (rsPairs rs).length h) (o : RsOk rs) (b : rs.length ≤ 1000000) (bn : (rsPairs rs).length < 1000000000) {p : Pfx} (hp : mayP p = true) :
    Acalls Tryd.prog 20 [.ptr i 3 0, .agg (pfxC p)] h fun u h' => u = .bool (tget rs p).isSome ∧ TTurned ns hb i (tdel rs p) (rsPairs (tdel rs p)).length h' := by
  obtain ⟨⟨ms, a, hs⟩, c, d⟩ := t
  have hl := tdel_len rs p
  have hg := tgone_iff o hp
  refine Acalls.mono (tdel_ct o a b bn hp (fun hx => ?_)) ?_
  · have : tgone rs p = true := hx
    rw [this] at hl; simp at hl; omega
  · rintro u h' ⟨rfl, q⟩
    refine ⟨by rw [← hg]; rfl, ?_⟩
    have e : (rsPairs rs).length - (if (T.del (kOf p) (treeOf p.fam p.rd rs)).2 = true then 1 else 0) = (rsPairs (tdel rs p)).length := by
      show (rsPairs rs).length - (if tgone rs p = true then 1 else 0) = _
      split <;> simp_all
    rw [e] at q
    exact TTurned.up (Ge.refl _) c hs q
theorem gl_fresh {h : H} {l : List (Pfx × Int)} {Q : V → H → Prop} (wf : h.WF) (q : ∀ v h', Ge h h' → h'.WF → Gl h' h.next 5 v (l.map pairC) → Q v h') : ((l.map pairC).flatten = [] → Q .nilsl h) ∧ ((l.map pairC).flatten ≠ [] → Q (.sl h.next (l.map pairC).flatten.length 0 l.length none) (h.push (.grow 5 (l.map pairC).flatten))) := by
  refine ⟨fun e => q _ _ (Ge.refl _) wf (.inl ⟨?_, rfl⟩), fun e => q _ _ ((Ge.refl _).push _) (wf.push _) (.inr ⟨fun e2 => e (by rw [e2]; rfl), h.next, Nat.le_refl _, by simp, by simp, by simp⟩)⟩
  cases l with
  | nil => rfl
  | cons x l => simp [pairC] at e
theorem all_gl {h : H} {i : Nat} {rs : List Rt} {m : Nat} {ns : List Nat} (o : RsOk rs) (ta : TrieAt h i rs m ns) (hb : rs.length ≤ 1000000) {n : Nat} (hn : n < 1000000000) (hl : (rsPairs rs).length ≤ n) {Q : V → H → Prop} (q : ∀ v h', Ge h h' → h'.WF → Gl h' h.next 5 v ((rsPairs rs).map pairC) → Q v h') :
    Acalls Tryd.prog 16 [.ptr i 3 0, .int .i64 (n : Nat)] h Q :=
  Acalls.wf S.Hlaw03_all_enter fun wf => all_ct o ta hb hn hl (gl_fresh wf q).1 (gl_fresh wf q).2
theorem under_gl {h : H} {i : Nat} {rs : List Rt} {m : Nat} {ns : List Nat} (o : RsOk rs) (ta : TrieAt h i rs m ns) (hb : rs.length ≤ 1000000) {p : Pfx} {n : Nat} (hn : n < 1000000000) (hl : (rsPairs rs).length ≤ n) {Q : V → H → Prop} (q : ∀ v h', Ge h h' → h'.WF → Gl h' h.next 5 v (((rsPairs rs).filter fun x => covP p x.1).map pairC) → Q v h') :
    Acalls Tryd.prog 19 [.ptr i 3 0, .agg (pfxC p), .int .i64 (n : Nat)] h Q := by
  refine Acalls.wf S.Hlaw03_under_enter fun wf => ?_
  have e := tunder_eq o p
  rw [← e] at q
  refine under_ct o ta hb hn ?_ (gl_fresh wf q).1 (gl_fresh wf q).2
  rw [e]
  exact Nat.le_trans (List.length_filter_le _ _) hl
theorem eq_pair (a b : Pfx × Int) : eqV (TS.st [(0, 4, true, (TS.st [(0, 1, false, TS.int), (1, 1, false, TS.int), (2, 1, false, TS.str), (3, 1, false, TS.int)])), (4, 1, false, TS.int)]) (.agg (pairC a)) (.agg (pairC b)) = some (decide (a = b)) := by
  show eqFs _ _ _ = _
  rw [eqFs_cons (x := .agg (pfxC a.1)) (y := .agg (pfxC b.1)) rfl rfl (eq_pf _ _), eqFs_cons rfl rfl (eqV_int _ _ _), show eqFs [] (pairC a) (pairC b) = some true from rfl]
  simp only [ifs]
  obtain ⟨p, i⟩ := a
  obtain ⟨p', i'⟩ := b
  simp only [Prod.mk.injEq, Bool.and_true, Bool.decide_and]
end Go.Am

/-
  The reference's contracts: what may be.
-/
namespace Go.Am
open Go.Proofs

set_option maxRecDepth 100000
theorem rmay_ct {h : H} {p : Pfx} : Pure Tryd.prog 49 [.agg (pfxC p)] h (.bool (mayP p)) := by
  refine pure_to Tryd.func49 S.Href01_May_code S.Href01_May_enter rfl (Nat.le_of_ble_eq_true rfl) fun wf => ?_; simp only [S.Href01_May]
  have sl := size_le p.fam
  obtain ⟨h1, hh1⟩ : ∃ h1, h1 = h.push (.row (pfxC p)) := ⟨_, rfl⟩
  have g1 : Ge h h1 := by rw [hh1]; exact (Ge.refl _).push _
  have c1 : cellsAt h1.get h.next 4 = some (pfxC p) := by rw [hh1, cellsAt_of (by simp; rfl) (by simp [pfxC])]; rfl
  simp only [pfxC] at hh1 c1 ⊢
  simp
  rw [← hh1]
  refine rsize_ct _ ?_
  have hm : mayP p = (decide (sizeN p.fam ≠ 0) && decide (p.addr.length = sizeN p.fam) && decide (0 ≤ p.len) && decide (p.len ≤ 8 * (sizeN p.fam : Int)) && (decide (p.rd = 0) || apartF p.fam) && decide (maskL p.addr p.len = p.addr)) := rfl
  obtain ⟨sz, hsz⟩ : ∃ sz, sz = sizeN p.fam := ⟨_, rfl⟩
  rw [← hsz] at hm sl ⊢
  by_cases e0 : sz = 0
  · have m : mayP p = false := by rw [hm]; simp [e0]
    simp [e0, m, g1]
  have b0 : ((sz : Int) == 0) = false := beq_no (by omega)
  by_cases e1 : p.addr.length = sz
  · have b1 : ((p.addr.length : Int) != (sz : Int)) = false := by rw [e1]; simp
    by_cases e2 : p.len < 0
    · have m : mayP p = false := by
        have : ¬ 0 ≤ p.len := by omega
        rw [hm]; simp [this]
      simp [b0, c1, b1, e2, m, g1]
    · have w8 : IntKind.i64.wrap (8 * (sz : Int)) = 8 * (sz : Int) := wrap_i64_id (by omega) (by omega)
      by_cases e3 : 8 * (sz : Int) < p.len
      · have m : mayP p = false := by
          have : ¬ p.len ≤ 8 * (sz : Int) := by omega
          rw [hm]; simp [this]
        simp [b0, c1, b1, e2, w8, e3, m, g1]
      · have e2' : 0 ≤ p.len := by omega
        have e3' : p.len ≤ 8 * (sz : Int) := by omega
        obtain ⟨n0, hn0⟩ : ∃ n0 : Nat, p.len = n0 := ⟨p.len.toNat, by omega⟩
        have ti := tail_iff p.addr p.len
        have fin : ∀ (hrd : (decide (p.rd = 0) || apartF p.fam) = true), mayP p = decide (maskL p.addr p.len = p.addr) := fun hrd => by
          have e0' : sz ≠ 0 := e0
          rw [hm]
          simp only [e0', e1, e2', e3', hrd, decide_true, Bool.true_and, ne_eq, not_false_eq_true]
        by_cases e4 : p.rd = 0
        · have b4 : (((p.rd : Nat) : Int) != 0) = false := by rw [e4]; rfl
          rw [fin (by simp [e4])]
          simp [b0, c1, b1, e2, w8, e3, b4]
          refine loop_up (fun i t h' => (t 1 = .ptr h.next 4 0 ∧ t 3 = .int .i64 (sz : Nat) ∧ t 4 = .int .i64 ((n0 + i : Nat) : Int)) ∧ h' = h1 ∧ n0 + i ≤ 8 * sz ∧ ∀ j : Nat, n0 ≤ j → j < n0 + i → bitN p.addr j = 0) (8 * sz - n0) ⟨by simp [hn0], rfl, by omega, by intro j a b; omega⟩ ?_
          rintro i t h' hi ⟨⟨t1, t3, t4⟩, rfl, hi8, hz⟩ K hK
          by_cases hlt : n0 + i < 8 * sz
          · have hb := rbit_ct (h := h') (l := p.addr) (n := n0 + i) (by omega)
            have hlt' : ((n0 + i : Nat) : Int) < 8 * (sz : Int) := by omega
            have ws : IntKind.i64.wrap (((n0 + i : Nat) : Int) + 1) = ((n0 + (i + 1) : Nat) : Int) := by rw [wrap_i64_id (by omega) (by omega)]; omega
            obtain ⟨x, hx⟩ : ∃ x, x = n0 + i := ⟨_, rfl⟩
            rw [← hx] at t4 hb hlt' ws
            simp [t1, t3, t4, w8, hlt', c1]
            refine hb _ ?_
            by_cases hz0 : bitN p.addr x = 0
            · simp [hz0, t1, t3, t4, ws]
              refine hK _ _ (by omega) ⟨by simp [t1, t3], rfl, by omega, fun j a b => ?_⟩
              rcases (by omega : j < n0 + i ∨ j = x) with c | rfl
              · exact hz j a c
              · exact hz0
            · have hb1 : (((bitN p.addr x : Nat) : Int) != 0) = true := by
                have : ¬ ((bitN p.addr x : Nat) : Int) = 0 := by omega
                simpa using this
              have m : ¬ maskL p.addr p.len = p.addr := fun e => hz0 (ti.2 e x (by omega) (by omega))
              simp [hb1, m, g1]
          · have hge : ¬ ((n0 + i : Nat) : Int) < 8 * (sz : Int) := by omega
            have m : maskL p.addr p.len = p.addr := ti.1 fun j a b => hz j (by omega) (by omega)
            obtain ⟨x, hx⟩ : ∃ x, x = n0 + i := ⟨_, rfl⟩
            rw [← hx] at t4 hge
            simp [t1, t3, t4, w8, hge, m, g1]
        · have b4 : (((p.rd : Nat) : Int) != 0) = true := by
            have : ¬ ((p.rd : Nat) : Int) = 0 := by omega
            simpa using this
          simp [b0, c1, b1, e2, w8, e3, b4]
          refine rapart_ct _ ?_
          cases ha : apartF p.fam with
          | false =>
            have m : mayP p = false := by rw [hm]; simp [e4, ha]
            simp [m, g1]
          | true =>
            rw [fin (by simp [ha])]
            simp [c1]
            refine loop_up (fun i t h' => (t 1 = .ptr h.next 4 0 ∧ t 3 = .int .i64 (sz : Nat) ∧ t 4 = .int .i64 ((n0 + i : Nat) : Int)) ∧ h' = h1 ∧ n0 + i ≤ 8 * sz ∧ ∀ j : Nat, n0 ≤ j → j < n0 + i → bitN p.addr j = 0) (8 * sz - n0) ⟨by simp [hn0], rfl, by omega, by intro j a b; omega⟩ ?_
            rintro i t h' hi ⟨⟨t1, t3, t4⟩, rfl, hi8, hz⟩ K hK
            by_cases hlt : n0 + i < 8 * sz
            · have hb := rbit_ct (h := h') (l := p.addr) (n := n0 + i) (by omega)
              have hlt' : ((n0 + i : Nat) : Int) < 8 * (sz : Int) := by omega
              have ws : IntKind.i64.wrap (((n0 + i : Nat) : Int) + 1) = ((n0 + (i + 1) : Nat) : Int) := by rw [wrap_i64_id (by omega) (by omega)]; omega
              obtain ⟨x, hx⟩ : ∃ x, x = n0 + i := ⟨_, rfl⟩
              rw [← hx] at t4 hb hlt' ws
              simp [t1, t3, t4, w8, hlt', c1]
              refine hb _ ?_
              by_cases hz0 : bitN p.addr x = 0
              · simp [hz0, t1, t3, t4, ws]
                refine hK _ _ (by omega) ⟨by simp [t1, t3], rfl, by omega, fun j a b => ?_⟩
                rcases (by omega : j < n0 + i ∨ j = x) with c | rfl
                · exact hz j a c
                · exact hz0
              · have hb1 : (((bitN p.addr x : Nat) : Int) != 0) = true := by
                  have : ¬ ((bitN p.addr x : Nat) : Int) = 0 := by omega
                  simpa using this
                have m : ¬ maskL p.addr p.len = p.addr := fun e => hz0 (ti.2 e x (by omega) (by omega))
                simp [hb1, m, g1]
            · have hge : ¬ ((n0 + i : Nat) : Int) < 8 * (sz : Int) := by omega
              have m : maskL p.addr p.len = p.addr := ti.1 fun j a b => hz j (by omega) (by omega)
              obtain ⟨x, hx⟩ : ∃ x, x = n0 + i := ⟨_, rfl⟩
              rw [← hx] at t4 hge
              simp [t1, t3, t4, w8, hge, m, g1]
  · have b1 : ((p.addr.length : Int) != (sz : Int)) = true := by
      have : ¬ (p.addr.length : Int) = (sz : Int) := by omega
      simpa using this
    have m : mayP p = false := by rw [hm]; simp [e1]
    simp [b0, c1, b1, m, g1]
end Go.Am

/-
  Contracts: bytes that grow behind a pointer; Encode.
-/
namespace Go.Am
open Go.Proofs

set_option maxRecDepth 100000
@[simp] theorem solid_ptr (i n o : Nat) : (V.ptr i n o).solid = true := _root_.id rfl
@[simp] theorem cells_ptr (i n o : Nat) : (V.ptr i n o).cells = [.ptr i n o] := _root_.id rfl
/-- 'v' is a row of bytes that was built by append from nothing. -/
def Gb (h : H) (lo : Nat) (v : V) (l : List UInt8) : Prop :=
  (l = [] ∧ v = .nilsl) ∨ (l ≠ [] ∧ ∃ j, lo ≤ j ∧ j < h.next ∧ v = .sl j l.length 0 l.length none ∧ h.get j = some (.grow 1 (l.map byteV)))
theorem Gb.one {h : H} {lo : Nat} {v : V} {l : List UInt8} (g : Gb h lo v l) : v.one = true := by
  rcases g with ⟨_, rfl⟩ | ⟨_, j, _, _, rfl, _⟩ <;> rfl
theorem byteV_all (l : List UInt8) : (l.map byteV).all V.one = true := by simp [byteV]
/-- A string of bytes is appended. -/
theorem Gb.append {h : H} {lo : Nat} {v : V} {l : List UInt8} (g : Gb h lo v l) (hlo : lo ≤ h.next) (s : List UInt8) (hb : l.length + s.length ≤ 1000000000) :
    ∃ v' d, appendV h.get h.next 1 1 v (.str s) = some (v', d) ∧ Gb (h.app d) lo v' (l ++ s) ∧ h.next ≤ (h.app d).next ∧ (∀ b cs, h.get b = some (.row cs) → b < h.next → (h.app d).get b = some (.row cs)) ∧ (∀ b, b < lo → (h.app d).get b = h.get b) ∧ (h.WF → (h.app d).WF) := by
  have hx : elemsV h.get 1 (.str s) = some (s.length, s.map byteV) := by simp [elemsV]
  by_cases h0 : s = []
  · subst h0
    refine ⟨v, .keep, ?_, by simpa using g, Nat.le_refl _, fun _ _ e _ => e, fun _ _ => rfl, fun w => w⟩
    unfold appendV
    rw [hx]
    rcases g with ⟨_, rfl⟩ | ⟨_, j, _, _, rfl, _⟩ <;> simp
  · have hs : s.length ≠ 0 := by simpa using h0
    rcases g with ⟨rfl, rfl⟩ | ⟨hne, j, g1, g2, rfl, g3⟩
    · refine ⟨_, _, appendV_nil hx hs (byteV_all s) (by omega) (by simp at hb; omega) (by simp at hb; omega), .inr ⟨by simpa using h0, h.next, hlo, by simp, by simp, by simp⟩, by simp, fun b cs e hlt => ?_, fun b hb => ?_, fun w => w.push _⟩
      · rw [app_push, H.get_push, if_neg (by omega)]; exact e
      · rw [app_push, H.get_push, if_neg (by omega)]
    · refine ⟨_, _, appendV_grow g3 (by simp) (by simp) hx hs (byteV_all s) (by omega) (by omega) (by omega), .inr ⟨by simp [hne], j, g1, by simpa using g2, by simp, by simp⟩, by simp, fun b cs e hlt => ?_, fun b hb => ?_, fun w => w.set g2 _⟩
      · rw [app_set, H.get_set]
        split
        · rename_i e2; rw [e2, g3] at e; cases e
        · exact e
      · rw [app_set, H.get_set, if_neg (by omega)]
/-- A buffer behind a pointer at 'o', over the heap 'h0'. -/
structure Buf (h0 : H) (o : Nat) (acc : List UInt8) (h : H) : Prop where
  ge : Ge h0 h
  wf : h.WF
  lt : o < h.next
  lo : h0.next ≤ o
  at_ : ∃ v, h.get o = some (.row [v]) ∧ Gb h (o + 1) v acc
/-- Rows are kept, but the one at 'o'. -/
def Keeps (o : Nat) (h h' : H) : Prop := h.next ≤ h'.next ∧ ∀ b cs, b ≠ o → h.get b = some (.row cs) → h'.get b = some (.row cs)
theorem Keeps.refl (o : Nat) (h : H) : Keeps o h h := ⟨Nat.le_refl _, fun _ _ _ e => e⟩
theorem Keeps.trans {o : Nat} {a b c : H} (x : Keeps o a b) (y : Keeps o b c) : Keeps o a c := ⟨Nat.le_trans x.1 y.1, fun i cs hi e => y.2 i cs hi (x.2 i cs hi e)⟩
theorem Keeps.push {o : Nat} {h h' : H} (k : Keeps o h h') (w : h'.WF) (x : O) : Keeps o h (h'.push x) := ⟨by have := k.1; simp; omega, fun b cs hb e => by
  have := k.2 b cs hb e
  rw [H.get_push, if_neg (by have := w.lt this; omega)]; exact this⟩
theorem Buf.push {h0 h : H} {o : Nat} {acc : List UInt8} (b : Buf h0 o acc h) (x : O) : Buf h0 o acc (h.push x) := by
  obtain ⟨v, h1, h2⟩ := b.at_
  have hlt := b.lt
  refine ⟨b.ge.push x, b.wf.push x, by have := b.lt; simp; omega, b.lo, v, by rw [H.get_push, if_neg (by omega)]; exact h1, ?_⟩
  rcases h2 with ⟨rfl, rfl⟩ | ⟨hne, j, g1, g2, rfl, g3⟩
  · exact .inl ⟨rfl, rfl⟩
  · exact .inr ⟨hne, j, g1, by simp; omega, rfl, by rw [H.get_push, if_neg (by omega)]; exact g3⟩
/-- A row that is not the buffer's is written anew. -/
theorem Buf.set {h0 h : H} {o : Nat} {acc : List UInt8} (b : Buf h0 o acc h) {i : Nat} {cs : List V} (hi : h.get i = some (.row cs)) (hne : i ≠ o) (h0i : h0.next ≤ i) (x : O) : Buf h0 o acc (h.set i x) := by
  obtain ⟨v, h1, h2⟩ := b.at_
  refine ⟨b.ge.set h0i x, b.wf.set (b.wf.lt hi) x, b.lt, b.lo, v, by rw [H.get_set, if_neg (Ne.symm hne)]; exact h1, ?_⟩
  rcases h2 with ⟨rfl, rfl⟩ | ⟨hne2, j, g1, g2, rfl, g3⟩
  · exact .inl ⟨rfl, rfl⟩
  · exact .inr ⟨hne2, j, g1, g2, rfl, by rw [H.get_set, if_neg (fun e => by rw [e, hi] at g3; cases g3)]; exact g3⟩
/-- A string is appended to the buffer. -/
theorem Buf.add {h0 h : H} {o : Nat} {acc : List UInt8} (b : Buf h0 o acc h) (s : List UInt8) (hb : acc.length + s.length ≤ 1000000000) :
    ∃ v v' d, h.get o = some (.row [v]) ∧ appendV h.get h.next 1 1 v (.str s) = some (v', d) ∧ v'.one = true ∧ (h.app d).get o = some (.row [v]) ∧ Buf h0 o (acc ++ s) ((h.app d).set o (.row [v'])) ∧ Keeps o h ((h.app d).set o (.row [v'])) := by
  obtain ⟨v, h1, h2⟩ := b.at_
  have hlt := b.lt
  have hlo := b.lo
  obtain ⟨v', d, a1, a2, a3, a4, a5, a6⟩ := h2.append (by omega) s hb
  have go : (h.app d).get o = some (.row [v]) := a4 o _ h1 hlt
  have hw := a6 b.wf
  refine ⟨v, v', d, h1, a1, a2.one, go, ⟨?_, hw.set (hw.lt go) _, by have := b.lt; simp; omega, hlo, v', by simp, ?_⟩, ⟨by simpa using a3, fun x cs hx e => ?_⟩⟩
  · refine Ge.set ⟨by have := b.ge.1; omega, fun i hi => ?_⟩ hlo _
    rw [a5 i (by omega)]
    exact b.ge.2 i hi
  · rcases a2 with ⟨e1, e2⟩ | ⟨hne, j, g1, g2, e2, g3⟩
    · exact .inl ⟨e1, e2⟩
    · exact .inr ⟨hne, j, g1, by simpa using g2, e2, by rw [H.get_set, if_neg (by omega)]; exact g3⟩
  · rw [H.get_set, if_neg hx]
    exact a4 x cs e (b.wf.lt e)
structure NlFit (n : Nl) : Prop where
  id : n.id < 4294967296
  rd : n.p.rd < 18446744073709551616
end Go.Am

/-
  Encode's contract.
-/
namespace Go.Am
open Go.Proofs

set_option maxRecDepth 100000
def aheadP : List V → Option V
  | [.int .i64 f] => some (.int .i64 (aheadN f : Nat))
  | _ => none
@[simp] theorem aheadP_eq (f : Int) : aheadP [.int .i64 f] = some (.int .i64 (aheadN f : Nat)) := rfl
end Go.Am

/-
  Encode's contract.
-/
namespace Go.Am
open Go.Proofs

set_option maxRecDepth 100000
end Go.Am

/-
  The reference's contracts: told prefixes: what may be, their bytes, their size.
-/
namespace Go.Am
open Go.Proofs

set_option maxRecDepth 100000
end Go.Am

/-
  The reference's order of told prefixes; NlriTells answers true.
-/
namespace Go.Am
open Go.Proofs

set_option maxRecDepth 100000
theorem rcmp_ct {h : H} {a b : Pfx} (ha : a.addr.length < 9223372036854775808) : Pure Tryd.prog 50 [.agg (pfxC a), .agg (pfxC b)] h (.int .i64 (cmpPf a b)) := by
  refine pure_to Tryd.func50 S.Href01_Cmp_code S.Href01_Cmp_enter rfl (Nat.le_of_ble_eq_true rfl) fun wf => ?_; simp only [S.Href01_Cmp]
  obtain ⟨h2, hh2⟩ : ∃ h2, h2 = (h.push (.row (pfxC a))).push (.row (pfxC b)) := ⟨_, rfl⟩
  have g2 : Ge h h2 := by rw [hh2]; exact ((Ge.refl _).push _).push _
  have c1 : cellsAt h2.get h.next 4 = some (pfxC a) := by rw [hh2]; simp [pfxC]
  have c2 : cellsAt h2.get (h.next + 1) 4 = some (pfxC b) := by rw [hh2]; simp [pfxC]
  simp only [pfxC] at hh2 c1 c2 ⊢
  simp
  rw [← hh2]
  by_cases e1 : a.fam = b.fam
  · have b1 : (a.fam != b.fam) = false := by rw [e1]; simp
    have z1 : cmpI a.fam b.fam = 0 := cmpI_zero.2 e1
    by_cases e2 : a.rd = b.rd
    · have b2 : (((a.rd : Nat) : Int) != ((b.rd : Nat) : Int)) = false := by rw [e2]; simp
      have z2 : cmpI (a.rd : Int) (b.rd : Int) = 0 := cmpI_zero.2 (by rw [e2])
      simp [b1, b2, c1, c2]
      refine loop_up (fun i t h' => (t 2 = .ptr h.next 4 0 ∧ t 3 = .ptr (h.next + 1) 4 0 ∧ t 5 = .int .i64 (i : Nat)) ∧ h' = h2 ∧ i ≤ b.addr.length ∧ a.addr.take i = b.addr.take i) a.addr.length ⟨by simp, rfl, by omega, by simp⟩ ?_
      rintro i t h' hi ⟨⟨t2, t3, t5⟩, rfl, hib, htk⟩ K hK
      have fin : cmpPf a b = orI (Go.Lib.compareBytes a.addr b.addr) (cmpI a.len b.len) := by
        simp only [cmpPf, z1, z2, orI_zero]
      by_cases hA : i < a.addr.length
      · by_cases hB : i < b.addr.length
        · have hA' : (i : Int) < (a.addr.length : Int) := by omega
          have hB' : (i : Int) < (b.addr.length : Int) := by omega
          have ga : a.addr[i]? = some a.addr[i] := List.getElem?_eq_getElem hA
          have gb : b.addr[i]? = some b.addr[i] := List.getElem?_eq_getElem hB
          have hw := wrap_succ hA (by omega)
          simp [t2, t3, t5, c1, c2, hA, hB]
          refine dreg_of ?_
          by_cases hx : a.addr[i] = b.addr[i]
          · simp [t2, t3, t5, c1, c2, ga, gb, hx, hw]
            refine hK _ _ hA ⟨by simp [t2, t3], rfl, by omega, ?_⟩
            rw [List.take_add_one, List.take_add_one, htk, ga, gb, hx]
          · have hne : ¬ (a.addr[i].toNat : Int) = (b.addr[i].toNat : Int) := by
              intro e; exact hx (UInt8.toNat_inj.1 (by omega))
            have bx : ((a.addr[i].toNat : Int) != (b.addr[i].toNat : Int)) = true := by simpa using hne
            have w1 : IntKind.i64.wrap (a.addr[i].toNat : Int) = (a.addr[i].toNat : Int) := by
              have := a.addr[i].toNat_lt; exact wrap_i64_id (by omega) (by omega)
            have w2 : IntKind.i64.wrap (b.addr[i].toNat : Int) = (b.addr[i].toNat : Int) := by
              have := b.addr[i].toNat_lt; exact wrap_i64_id (by omega) (by omega)
            simp [t2, t3, t5, c1, c2, ga, gb, bx]
            refine dreg_of ?_
            simp [t2, t3, t5, c1, c2, ga, gb, w1, w2]
            refine scall_of (rorder_ct (a := a.addr[i].toNat) (b := b.addr[i].toNat)) ?_
            have nz : cmpI (a.addr[i].toNat : Int) (b.addr[i].toNat : Int) ≠ 0 := fun e => hne (cmpI_zero.1 e)
            have r : cmpPf a b = cmpI (a.addr[i].toNat : Int) (b.addr[i].toNat : Int) := by
              rw [fin, cb_at hA hB htk hx, orI_nz nz]
            simp [r, g2]
        · have hB' : i = b.addr.length := by omega
          have hl : ((a.addr.length : Int) != (b.addr.length : Int)) = true := by
            have : ¬ (a.addr.length : Int) = (b.addr.length : Int) := by omega
            simpa using this
          have nz : cmpI (a.addr.length : Int) (b.addr.length : Int) ≠ 0 := fun e => by rw [cmpI_zero] at e; omega
          have r : cmpPf a b = cmpI (a.addr.length : Int) (b.addr.length : Int) := by
            rw [fin, cb_end (by omega) hib (.inr hB') htk, orI_nz nz]
          simp [t2, t3, t5, c1, c2, hA, hB, hl]
          refine rorder_ct _ ?_
          simp [r, g2]
      · have hA' : i = a.addr.length := by omega
        by_cases hl : a.addr.length = b.addr.length
        · have bl : ((a.addr.length : Int) != (b.addr.length : Int)) = false := by rw [hl]; simp
          have r : cmpPf a b = cmpI a.len b.len := by
            rw [fin, cb_end (by omega) hib (.inl hA') htk, show cmpI (a.addr.length : Int) (b.addr.length : Int) = 0 from cmpI_zero.2 (by omega), orI_zero]
          simp [t2, t3, t5, c1, c2, hA, bl]
          refine rorder_ct _ ?_
          simp [r, g2]
        · have bl : ((a.addr.length : Int) != (b.addr.length : Int)) = true := by
            have : ¬ (a.addr.length : Int) = (b.addr.length : Int) := by omega
            simpa using this
          have nz : cmpI (a.addr.length : Int) (b.addr.length : Int) ≠ 0 := fun e => by rw [cmpI_zero] at e; omega
          have r : cmpPf a b = cmpI (a.addr.length : Int) (b.addr.length : Int) := by
            rw [fin, cb_end (by omega) hib (.inl hA') htk, orI_nz nz]
          simp [t2, t3, t5, c1, c2, hA, bl]
          refine rorder_ct _ ?_
          simp [r, g2]
    · have b2 : (((a.rd : Nat) : Int) != ((b.rd : Nat) : Int)) = true := by
        have : ¬ ((a.rd : Nat) : Int) = ((b.rd : Nat) : Int) := by omega
        simpa using this
      by_cases e3 : a.rd < b.rd
      · have r : cmpPf a b = -1 := by
          simp only [cmpPf, z1, orI_zero]
          have : cmpI (a.rd : Int) (b.rd : Int) = -1 := by unfold cmpI; rw [if_pos (by omega)]
          rw [this]; rfl
        simp [b1, b2, c1, c2, e3, r, g2]
      · have r : cmpPf a b = 1 := by
          simp only [cmpPf, z1, orI_zero]
          have : cmpI (a.rd : Int) (b.rd : Int) = 1 := by unfold cmpI; rw [if_neg (by omega), if_pos (by omega)]
          rw [this]; rfl
        simp [b1, b2, c1, c2, e3, r, g2]
  · have b1 : (a.fam != b.fam) = true := by simpa using e1
    have nz : cmpI a.fam b.fam ≠ 0 := fun e => e1 (cmpI_zero.1 e)
    have r : cmpPf a b = cmpI a.fam b.fam := by simp only [cmpPf]; rw [orI_nz nz]
    simp [b1, c1, c2]
    refine rorder_ct _ ?_
    simp [r, g2]
end Go.Am

/-
  The reference's contracts over lists of pairs: what covers, asked, taken away, alike.
-/
namespace Go.Am
open Go.Proofs

set_option maxRecDepth 100000
theorem kOf_at {p : Pfx} (h : mayP p = true) {j : Nat} (hj : (j : Int) < p.len) : ∃ b, (kOf p)[j]? = some b ∧ bitN p.addr j = if b = true then 1 else 0 := by
  obtain ⟨_, h2, h3, h4, _, _⟩ := may_parts h
  have hl : j < (bitsL p.addr).length := by rw [bitsL_len]; omega
  refine ⟨(bitsL p.addr)[j], ?_, ?_⟩
  · simp only [kOf]
    rw [List.getElem?_take, if_pos (by omega), List.getElem?_eq_getElem hl]
  · rw [bitN_bits, List.getElem?_eq_getElem hl]; simp
theorem kOf_len {p : Pfx} (h : mayP p = true) : ((kOf p).length : Int) = p.len := by
  obtain ⟨_, h2, h3, h4, _, _⟩ := may_parts h
  simp only [kOf, List.length_take, bitsL_len]; omega
theorem covP_bits {a b : Pfx} (ha : mayP a = true) (hb : mayP b = true) (hf : a.fam = b.fam) (hr : a.rd = b.rd) (hl : a.len ≤ b.len) : covP a b = true ↔ ∀ j : Nat, (j : Int) < a.len → bitN a.addr j = bitN b.addr j := by
  obtain ⟨ea, ka⟩ := may_pk ha
  obtain ⟨eb, kb⟩ := may_pk hb
  obtain ⟨x1, _, _, _, x5, _⟩ := may_parts ha
  have e : covP a b = (kOf a).isPrefixOf (kOf b) := by
    have := covP_pk (f := a.fam) (r := a.rd) x1 x5 (a := kOf a) (b := kOf b) ka (by rw [hf]; exact kb)
    rw [← ea, hf, hr, ← eb] at this; exact this
  have la := kOf_len ha
  have lb := kOf_len hb
  rw [e, List.isPrefixOf_iff_prefix, List.prefix_iff_eq_take]
  constructor
  · intro h j hj
    obtain ⟨x, hx, ex⟩ := kOf_at ha hj
    obtain ⟨y, hy, ey⟩ := kOf_at hb (show (j : Int) < b.len by omega)
    rw [h, List.getElem?_take, if_pos (by omega), hy] at hx
    simp only [Option.some.injEq] at hx
    rw [ex, ey, hx]
  · intro h
    refine List.ext_getElem? fun j => ?_
    by_cases hj : (j : Int) < a.len
    · obtain ⟨x, hx, ex⟩ := kOf_at ha hj
      obtain ⟨y, hy, ey⟩ := kOf_at hb (show (j : Int) < b.len by omega)
      have := h j hj
      rw [ex, ey] at this
      rw [hx, List.getElem?_take, if_pos (by omega), hy]
      have : x = y := by cases x <;> cases y <;> first | rfl | exact absurd this (by decide)
      rw [this]
    · rw [List.getElem?_eq_none (by omega), List.getElem?_take, if_neg (by omega)]
theorem rcovers_ct {h : H} {a b : Pfx} : Pure Tryd.prog 51 [.agg (pfxC a), .agg (pfxC b)] h (.bool (covP a b)) := by
  refine pure_to Tryd.func51 S.Href01_Covers_code S.Href01_Covers_enter rfl (Nat.le_of_ble_eq_true rfl) fun wf => ?_; simp only [S.Href01_Covers]
  obtain ⟨h2, hh2⟩ : ∃ h2, h2 = (h.push (.row (pfxC a))).push (.row (pfxC b)) := ⟨_, rfl⟩
  have g2 : Ge h h2 := by rw [hh2]; exact ((Ge.refl _).push _).push _
  have w2 : h2.WF := by rw [hh2]; exact (wf.push _).push _
  have c1 : cellsAt h2.get h.next 4 = some (pfxC a) := by rw [hh2]; simp [pfxC]
  have c2 : cellsAt h2.get (h.next + 1) 4 = some (pfxC b) := by rw [hh2]; simp [pfxC]
  simp only [pfxC] at hh2 c1 c2 ⊢
  simp
  rw [← hh2]
  refine rmay_ct (p := a) _ ?_
  cases ma : mayP a with
  | false =>
    have e : covP a b = false := by
      cases hc : covP a b with
      | false => rfl
      | true => have := (covP_other hc).2.2.2; rw [ma] at this; cases this
    simp [e, g2]
  | true =>
    simp [c2]
    refine rmay_ct (p := b) _ ?_
    cases mb : mayP b with
    | false =>
      have e : covP a b = false := by simp [covP, mb]
      simp [e, g2]
    | true =>
      simp [c1, c2]
      by_cases e1 : a.fam = b.fam
      · have b1 : (a.fam != b.fam) = false := by rw [e1]; simp
        by_cases e2 : a.rd = b.rd
        · have b2 : (((a.rd : Nat) : Int) != ((b.rd : Nat) : Int)) = false := by rw [e2]; simp
          by_cases e3 : b.len < a.len
          · have e : covP a b = false := by
              have : ¬ a.len ≤ b.len := by omega
              simp [covP, this]
            simp [b1, b2, c1, c2, e3, e, g2]
          · obtain ⟨_, al, a0, a8, _, _⟩ := may_parts ma
            have sz := size_le a.fam
            have cb := covP_bits ma mb e1 e2 (by omega)
            obtain ⟨n, hn⟩ : ∃ n : Nat, a.len = n := ⟨a.len.toNat, by omega⟩
            simp [b1, b2, c1, c2, e3]
            rw [hn] at cb c1
            refine loop_up (fun i t h' => (t 2 = .ptr h.next 4 0 ∧ t 3 = .ptr (h.next + 1) 4 0 ∧ t 5 = .int .i64 (i : Nat)) ∧ h' = h2 ∧ ∀ j : Nat, j < i → bitN a.addr j = bitN b.addr j) n ⟨by simp, rfl, fun j hj => absurd hj (by omega)⟩ ?_
            rintro i t h' hi ⟨⟨t2, t3, t5⟩, rfl, hbit⟩ K hK
            by_cases hlt : i < n
            · have hw := wrap_succ hlt (by omega)
              simp [t2, t3, t5, c1, hlt]
              refine dreg_quiet w2 ?_
              simp [t2, t3, t5, c1, c2]
              refine qcall_of (v := .int .i64 (bitN a.addr i : Nat)) rfl (fun h2 _ => rbit_ct (by omega)) ?_
              simp [t3, t5, c2]
              refine qcall_of (v := .int .i64 (bitN b.addr i : Nat)) rfl (fun h2 _ => rbit_ct (by omega)) ?_
              by_cases hb : bitN a.addr i = bitN b.addr i
              · simp [hb, t5, hw]
                refine hK _ _ hlt ⟨by simp [t2, t3], rfl, fun j hj => ?_⟩
                rcases (by omega : j < i ∨ j = i) with h | rfl
                · exact hbit j h
                · exact hb
              · have nb : (((bitN a.addr i : Nat) : Int) != ((bitN b.addr i : Nat) : Int)) = true := by
                  have : ¬ ((bitN a.addr i : Nat) : Int) = ((bitN b.addr i : Nat) : Int) := by omega
                  simpa using this
                have e : covP a b = false := by
                  cases hc : covP a b with
                  | false => rfl
                  | true => exact absurd (cb.1 hc i (by omega)) hb
                simp [nb, e, g2]
            · have e : covP a b = true := cb.2 fun j hj => hbit j (by omega)
              simp [t2, t3, t5, c1, hlt, e, g2]
        · have b2 : (((a.rd : Nat) : Int) != ((b.rd : Nat) : Int)) = true := by
            have : ¬ ((a.rd : Nat) : Int) = ((b.rd : Nat) : Int) := by omega
            simpa using this
          have e : covP a b = false := by
            cases hc : covP a b with
            | false => rfl
            | true => exact absurd (covP_other hc).2.1 e2
          simp [b1, b2, c1, c2, e, g2]
      · have b1 : (a.fam != b.fam) = true := by simpa using e1
        have e : covP a b = false := by
          cases hc : covP a b with
          | false => rfl
          | true => exact absurd (covP_other hc).1 e1
        simp [b1, c1, c2, e, g2]

/-! ### Lists of pairs -/
/-- An element of a list of pairs, in every later heap. -/
theorem pair_atG {h : H} {v : V} {l : List (Pfx × Int)} (wf : h.WF) (s : Sls h.get 5 v (l.map pairC)) {k : Nat} (hk : k < l.length) : ∃ p q o cs, (∀ kd, indexAddrV 5 v (.int kd (k : Int)) = some (.ptr p q o)) ∧ p < h.next ∧ (∀ h', Ge h h' → cellsAt h'.get p q = some cs) ∧ o + 5 ≤ cs.length ∧ o + 4 ≤ cs.length ∧ (cs.drop o).take 5 = pairC l[k] ∧ (cs.drop o).take 4 = pfxC l[k].1 ∧ cs[o + 3]? = some (.int .i64 l[k].1.len) ∧ cs[o + 4]? = some (.int .i64 l[k].2) := by
  obtain ⟨p, q, o, cs, h1, h2, h3, h4, h5, h6⟩ := s.atG wf (k := k) (by simpa using hk)
  rw [List.getElem_map] at h5 h6
  refine ⟨p, q, o, cs, h1, h2, h3, h4, by omega, h5, ?_, h6 3 (by omega), h6 4 (by omega)⟩
  have := congrArg (List.take 4) h5
  rw [List.take_take] at this
  exact this
theorem rget_ct {h : H} {lv : V} {l : List (Pfx × Int)} {p : Pfx} {g : Option Int} (s : Sls h.get 5 lv (l.map pairC)) (hg : ∀ y, g = some y ↔ (p, y) ∈ l) : Pure Tryd.prog 21 [lv, .agg (pfxC p)] h (.tup [.int .i64 (g.getD 0), .bool g.isSome]) := by
  refine pure_to Tryd.func21 S.Href03_Get_code S.Href03_Get_enter rfl (Nat.le_of_ble_eq_true rfl) fun wf => ?_; simp only [S.Href03_Get]
  have bl := s.bound
  rw [List.length_map] at bl
  obtain ⟨h1, hh1⟩ : ∃ h1, h1 = h.push (.row (pfxC p)) := ⟨_, rfl⟩
  have g1 : Ge h h1 := by rw [hh1]; exact (Ge.refl _).push _
  have c1 : cellsAt h1.get h.next 4 = some (pfxC p) := by rw [hh1]; simp [pfxC]
  have L := s.lenG wf (List.length_map ..) h1 g1
  simp only [pfxC] at hh1 c1 ⊢
  simp
  rw [← hh1]
  refine loop_up (fun i t h' => (t 0 = lv ∧ t 3 = .ptr h.next 4 0 ∧ t 6 = .int .i64 (i : Nat)) ∧ h' = h1 ∧ ∀ j (hj : j < l.length), j < i → l[j].1 ≠ p) l.length ⟨by simp, rfl, fun j _ hj => absurd hj (by omega)⟩ ?_
  rintro i t h' hi ⟨⟨t0, t3, t6⟩, rfl, hb⟩ K hK
  by_cases hlt : i < l.length
  · have hw := wrap_succ hlt (by omega)
    obtain ⟨pp, q, o, cs, e1, e2, e3, e4, e5, e6, e7, e8, e9⟩ := pair_atG wf s hlt
    have e3' := e3 h' g1
    have ee := eq_pf l[i].1 p
    simp only [pfxC] at e7 ee
    simp [t0, t6, L, hlt]
    refine dreg_of ?_
    simp [t0, t3, t6, e1, e3', e5, e7, c1, ee]
    by_cases e : l[i].1 = p
    · have hm : g = some l[i].2 := (hg _).2 (by rw [← e]; exact List.getElem_mem hlt)
      simp [e, t0, t6, e1, e3', e9, hm, g1]
    · simp [e, t6, hw]
      refine hK _ _ hlt ⟨by simp [t0, t3], rfl, fun j hj hji => ?_⟩
      rcases (by omega : j < i ∨ j = i) with h | rfl
      · exact hb j hj h
      · exact e
  · have hm : g = none := by
      cases hgg : g with
      | none => rfl
      | some y =>
        obtain ⟨j, hj, ej⟩ := List.mem_iff_getElem.1 ((hg y).1 hgg)
        exact absurd (by rw [ej]) (hb j hj (by omega))
    simp [t0, t6, L, hlt, hm, g1]
theorem rsame_ct {h : H} {av bv : V} {a b : List (Pfx × Int)} (sa : Sls h.get 5 av (a.map pairC)) (sb : Sls h.get 5 bv (b.map pairC)) : Pure Tryd.prog 25 [av, bv] h (.bool (decide (a = b))) := by
  refine pure_to Tryd.func25 S.Href03_Same_code S.Href03_Same_enter rfl (Nat.le_of_ble_eq_true rfl) fun wf => ?_; simp only [S.Href03_Same]
  have ba := sa.bound
  rw [List.length_map] at ba
  have La := sa.len
  have Lb := sb.len
  rw [List.length_map] at La Lb
  simp [La, Lb]
  by_cases hl : a.length = b.length
  · have bl : ((a.length : Int) != (b.length : Int)) = false := by rw [hl]; simp
    simp [bl]
    refine loop_up (fun i t h' => (t 0 = av ∧ t 1 = bv ∧ t 5 = .int .i64 (i : Nat)) ∧ h' = h ∧ a.take i = b.take i) a.length ⟨by simp, rfl, by simp⟩ ?_
    rintro i t h' hi ⟨⟨t0, t1, t5⟩, rfl, htk⟩ K hK
    by_cases hlt : i < a.length
    · have hlb : i < b.length := by omega
      have hw := wrap_succ hlt (by omega)
      obtain ⟨pp, q, o, cs, e1, e2, e3, e4, e5, e6, e7, e8, e9⟩ := pair_atG wf sa hlt
      obtain ⟨pp', q', o', cs', f1, f2, f3, f4, f5, f6, f7, f8, f9⟩ := pair_atG wf sb hlb
      have e3' := e3 h' (Ge.refl _)
      have f3' := f3 h' (Ge.refl _)
      have ee := eq_pair a[i] b[i]
      simp [t0, t5, La, hlt]
      refine dreg_of ?_
      simp [t0, t1, t5, e1, e3', e4, e6, f1, f3', f4, f6, ee]
      by_cases e : a[i] = b[i]
      · simp [e, t5, hw]
        refine hK _ _ hlt ⟨by simp [t0, t1], rfl, ?_⟩
        rw [List.take_add_one, List.take_add_one, htk, List.getElem?_eq_getElem hlt, List.getElem?_eq_getElem hlb, e]
      · have ne : ¬ a = b := fun h => e (by simp [h])
        simp [e, ne]
    · have e : a = b := by
        rw [List.take_of_length_le (by omega), List.take_of_length_le (by omega)] at htk; exact htk
      subst e
      simp [t0, t5, La, hlt]
  · have bl : ((a.length : Int) != (b.length : Int)) = true := by
      have : ¬ (a.length : Int) = (b.length : Int) := by omega
      simpa using this
    have ne : ¬ a = b := fun h => hl (by rw [h])
    simp [bl, ne]
end Go.Am

/-
  The reference's contracts over lists of pairs: taken away, covered, set, matched.
-/
namespace Go.Am
open Go.Proofs

set_option maxRecDepth 100000
theorem Gl.down {h : H} {lo lo' sz : Nat} {v : V} {es : List (List V)} (hl : lo' ≤ lo) (g : Gl h lo sz v es) : Gl h lo' sz v es := by
  rcases g with g | ⟨a, j, b, c⟩
  · exact .inl g
  · exact .inr ⟨a, j, by omega, c⟩
/-- One more at the end of a growing list of pairs. -/
theorem gl_pair {g : H} {lo : Nat} {w : V} {fs : List (Pfx × Int)} (x : Pfx × Int) (hlo : lo ≤ g.next) (gl : Gl g lo 5 w (fs.map pairC)) (hf : fs.length ≤ 2000000) :
    ∃ w' d, appendV (g.push (.row (pairC x))).get (g.next + 1) 5 48 w (.sl g.next 5 0 1 (some 1)) = some (w', d) ∧ Gl ((g.push (.row (pairC x))).app d) lo 5 w' ((fs ++ [x]).map pairC) ∧ g.next ≤ ((g.push (.row (pairC x))).app d).next ∧ (∀ i, i ∉ w.ids → i < g.next → ((g.push (.row (pairC x))).app d).get i = g.get i) ∧ (g.WF → ((g.push (.row (pairC x))).app d).WF) := by
  have gl3 : Gl (g.push (.row (pairC x))) lo 5 w (fs.map pairC) := gl.keep (by simp) fun x hx => by
    have := (gl.lo x hx).2
    rw [H.get_push, if_neg (by omega)]
  obtain ⟨w', d, ea, gl4, hn4, hk4, hw4⟩ := gl3.append (bytes := 48) (x := .sl g.next 5 0 1 (some 1)) (e := pairC x) (by simp; omega) (pairC_all _) rfl (by simp [elemsV_sl, pairC]) rfl (by decide) (by simp; omega) (by simp; omega)
  refine ⟨w', d, ea, by rw [List.map_append]; exact gl4, Nat.le_trans (by simp) hn4, fun i hi hl => ?_, fun w => hw4 (w.push _)⟩
  refine (hk4 i hi (by simp; omega)).trans ?_
  rw [H.get_push, if_neg (by omega)]
/-- A growing list behind a heap that stands. -/
def Gro (h1 : H) (fs : List (Pfx × Int)) (v : V) (h' : H) : Prop := Ge h1 h' ∧ h'.WF ∧ Gl h' h1.next 5 v (fs.map pairC)
theorem Gro.more {h1 h' : H} {fs : List (Pfx × Int)} {v : V} (r : Gro h1 fs v h') (x : Pfx × Int) (hf : fs.length ≤ 2000000) :
    ∃ w' d, appendV (h'.push (.row (pairC x))).get (h'.next + 1) 5 48 v (.sl h'.next 5 0 1 (some 1)) = some (w', d) ∧ Gro h1 (fs ++ [x]) w' ((h'.push (.row (pairC x))).app d) := by
  obtain ⟨a, b, c⟩ := r
  obtain ⟨w', d, e1, e2, e3, e4, e5⟩ := gl_pair x a.1 c hf
  exact ⟨w', d, e1, ⟨Nat.le_trans a.1 e3, fun j hj => (e4 j (fun hm => by have := (c.lo j hm).1; omega) (Nat.lt_of_lt_of_le hj a.1)).trans (a.2 j hj)⟩, e5 b, e2⟩
theorem filt_step {α : Type} (p : α → Bool) (l : List α) (k : Nat) (hk : k < l.length) : (l.take (k + 1)).filter p = (l.take k).filter p ++ if p l[k] = true then [l[k]] else [] := by
  rw [List.take_add_one, List.getElem?_eq_getElem hk, List.filter_append]
  cases h : p l[k] <;> simp [h]
theorem filt_le {α : Type} (p : α → Bool) (l : List α) (k : Nat) : ((l.take k).filter p).length ≤ l.length := Nat.le_trans (List.length_filter_le _ _) (by simp; omega)
theorem rdel_ct {h : H} {lv : V} {l : List (Pfx × Int)} {p : Pfx} (s : Sls h.get 5 lv (l.map pairC)) (hb : l.length ≤ 1000000) {Q : V → H → Prop} (q : ∀ v h', Ge h h' → h'.WF → Gl h' h.next 5 v ((l.filter fun x => !decide (x.1 = p)).map pairC) → Q v h') : Acalls Tryd.prog 23 [lv, .agg (pfxC p)] h Q := by
  refine acalls_to Tryd.func23 S.Href03_Del_code S.Href03_Del_enter (Nat.le_of_ble_eq_true rfl) fun wf => ?_; simp only [S.Href03_Del]
  obtain ⟨h1, hh1⟩ : ∃ h1, h1 = h.push (.row (pfxC p)) := ⟨_, rfl⟩
  have g1 : Ge h h1 := by rw [hh1]; exact (Ge.refl _).push _
  have w1 : h1.WF := by rw [hh1]; exact wf.push _
  have n1 : h1.next = h.next + 1 := by rw [hh1]; simp
  have c1 : ∀ h', Ge h1 h' → cellsAt h'.get h.next 4 = some (pfxC p) := fun h' g => by rw [g.cells (by omega), hh1]; simp [pfxC]
  have L := fun h' (g : Ge h1 h') => s.lenG wf (List.length_map ..) h' (g1.trans g)
  simp only [pfxC] at hh1 c1 ⊢
  simp
  rw [← hh1]
  refine loop_up (fun k t h' => (t 0 = lv ∧ t 3 = .ptr h.next 4 0 ∧ t 6 = .int .i64 (k : Nat)) ∧ Gro h1 ((l.take k).filter fun x => !decide (x.1 = p)) (t 5) h') l.length ⟨by simp, by simp; exact ⟨Ge.refl _, w1, Gl.nil _ _ _⟩⟩ ?_
  rintro k t h' hi ⟨⟨t0, t3, t6⟩, gr⟩ K hK
  obtain ⟨ov, t5⟩ : ∃ ov, t 5 = ov := ⟨_, rfl⟩
  rw [t5] at gr
  have gg := gr.1
  have L' := L h' gg
  have c1' := c1 h' gg
  by_cases hlt : k < l.length
  · have hw := wrap_succ hlt (by omega)
    obtain ⟨pp, qq, o, cs, e1, e2, e3, e4, e5, e6, e7, e8, e9⟩ := pair_atG wf s hlt
    have e3' := e3 h' (g1.trans gg)
    have ee := eq_pf l[k].1 p
    have fs := filt_step (fun x : Pfx × Int => !decide (x.1 = p)) l k hlt
    have fl := filt_le (fun x : Pfx × Int => !decide (x.1 = p)) l k
    simp only [pfxC] at e7 ee
    simp [t0, t6, L', hlt]
    refine dreg_of ?_
    simp [t0, t3, t6, e1, e3', e5, e7, c1', ee]
    by_cases e : l[k].1 = p
    · rw [if_neg (by simp [e]), List.append_nil] at fs
      simp [e, t6, hw]
      refine hK _ _ hlt ⟨by simp [t0, t3], ?_⟩
      rw [fs]; simpa [t5] using gr
    · rw [if_pos (by simp [e])] at fs
      obtain ⟨w', d, a1, a2⟩ := gr.more l[k] (by omega)
      simp only [pairC, pfxC] at a1 a2 e6
      simp [e, t0, t5, t6, e1, e3', e4, e6, a1, hw]
      refine hK _ _ hlt ⟨by simp [t0, t3], ?_⟩
      rw [fs]; simpa using a2
  · have hk : k = l.length := by omega
    simp [t0, t6, L', hlt, t5]
    rw [hk, List.take_length] at gr
    exact q _ _ (g1.trans gg) gr.2.1 (gr.2.2.down (by omega))
theorem runder_ct {h : H} {lv : V} {l : List (Pfx × Int)} {p : Pfx} (s : Sls h.get 5 lv (l.map pairC)) (hb : l.length ≤ 1000000) {Q : V → H → Prop} (q : ∀ v h', Ge h h' → h'.WF → Gl h' h.next 5 v ((l.filter fun x => covP p x.1).map pairC) → Q v h') : Acalls Tryd.prog 26 [lv, .agg (pfxC p)] h Q := by
  refine acalls_to Tryd.func26 S.Href03_Under_code S.Href03_Under_enter (Nat.le_of_ble_eq_true rfl) fun wf => ?_; simp only [S.Href03_Under]
  obtain ⟨h1, hh1⟩ : ∃ h1, h1 = h.push (.row (pfxC p)) := ⟨_, rfl⟩
  have g1 : Ge h h1 := by rw [hh1]; exact (Ge.refl _).push _
  have w1 : h1.WF := by rw [hh1]; exact wf.push _
  have n1 : h1.next = h.next + 1 := by rw [hh1]; simp
  have c1 : ∀ h', Ge h1 h' → cellsAt h'.get h.next 4 = some (pfxC p) := fun h' g => by rw [g.cells (by omega), hh1]; simp [pfxC]
  have L := fun h' (g : Ge h1 h') => s.lenG wf (List.length_map ..) h' (g1.trans g)
  simp only [pfxC] at hh1 c1 ⊢
  simp
  rw [← hh1]
  refine loop_up (fun k t h' => (t 0 = lv ∧ t 3 = .ptr h.next 4 0 ∧ t 6 = .int .i64 (k : Nat)) ∧ Gro h1 ((l.take k).filter fun x => covP p x.1) (t 5) h') l.length ⟨by simp, by simp; exact ⟨Ge.refl _, w1, Gl.nil _ _ _⟩⟩ ?_
  rintro k t h' hi ⟨⟨t0, t3, t6⟩, gr⟩ K hK
  obtain ⟨ov, t5⟩ : ∃ ov, t 5 = ov := ⟨_, rfl⟩
  rw [t5] at gr
  have gg := gr.1
  have L' := L h' gg
  have c1' := c1 h' gg
  by_cases hlt : k < l.length
  · have hw := wrap_succ hlt (by omega)
    obtain ⟨pp, qq, o, cs, e1, e2, e3, e4, e5, e6, e7, e8, e9⟩ := pair_atG wf s hlt
    have e3' := e3 h' (g1.trans gg)
    have fs := filt_step (fun x : Pfx × Int => covP p x.1) l k hlt
    have fl := filt_le (fun x : Pfx × Int => covP p x.1) l k
    simp only [pfxC] at e7
    simp [t0, t6, L', hlt]
    refine dreg_of ?_
    simp [t0, t3, t6, e1, e3', e5, e7, c1']
    refine scall_of (rcovers_ct (a := p) (b := l[k].1)) ?_
    cases hc : covP p l[k].1 with
    | false =>
      rw [hc, if_neg (by simp), List.append_nil] at fs
      simp [t6, hw]
      refine hK _ _ hlt ⟨by simp [t0, t3], ?_⟩
      rw [fs]; simpa [t5] using gr
    | true =>
      rw [hc, if_pos rfl] at fs
      obtain ⟨w', d, a1, a2⟩ := gr.more l[k] (by omega)
      simp only [pairC, pfxC] at a1 a2 e6
      simp [t0, t5, t6, e1, e3', e4, e6, a1, hw]
      refine hK _ _ hlt ⟨by simp [t0, t3], ?_⟩
      rw [fs]; simpa using a2
  · have hk : k = l.length := by omega
    simp [t0, t6, L', hlt, t5]
    rw [hk, List.take_length] at gr
    exact q _ _ (g1.trans gg) gr.2.1 (gr.2.2.down (by omega))
theorem rmatch_ct {h : H} {lv : V} {l : List (Pfx × Int)} {p : Pfx} {m : Option (Pfx × Int)} (s : Sls h.get 5 lv (l.map pairC)) (m1 : ∀ x ∈ l, covP x.1 p = true → ∃ m', m = some m' ∧ x.1.len ≤ m'.1.len) (m2 : ∀ m', m = some m' → m' ∈ l ∧ covP m'.1 p = true)
    (hu : ∀ x ∈ l, ∀ y ∈ l, covP x.1 p = true → covP y.1 p = true → x.1.len = y.1.len → x = y) : Pure Tryd.prog 24 [lv, .agg (pfxC p)] h (.tup [.agg (pairC (m.getD (⟨0, 0, [], 0⟩, 0))), .bool m.isSome]) := by
  refine pure_to Tryd.func24 S.Href03_Match_code S.Href03_Match_enter rfl (Nat.le_of_ble_eq_true rfl) fun wf => ?_; simp only [S.Href03_Match]
  have bl := s.bound
  rw [List.length_map] at bl
  obtain ⟨h1, hh1⟩ : ∃ h1, h1 = (h.push (.row (pfxC p))).push (.row [.int .i64 0, .int .u64 0, .str [], .int .i64 0, .int .i64 0]) := ⟨_, rfl⟩
  have g1 : Ge h h1 := by rw [hh1]; exact ((Ge.refl _).push _).push _
  have n1 : h1.next = h.next + 2 := by rw [hh1]; simp
  have c1 : cellsAt h1.get h.next 4 = some (pfxC p) := by rw [hh1]; simp [pfxC]
  have b1 : h1.get (h.next + 1) = some (.row [.int .i64 0, .int .u64 0, .str [], .int .i64 0, .int .i64 0]) := by rw [hh1]; simp
  have L := s.lenG wf (List.length_map ..) h1 g1
  simp only [pfxC] at hh1 c1 ⊢
  simp
  rw [← hh1]
  have gs : ∀ o, Ge h (h1.set (h.next + 1) o) := fun o => g1.set (by omega) _
  refine loop_up (fun k t h' => (t 0 = lv ∧ t 3 = .ptr h.next 4 0 ∧ t 4 = .ptr (h.next + 1) 5 0 ∧ t 7 = .int .i64 (k : Nat)) ∧ h' = h1 ∧ ((t 6 = .int .i64 (-1) ∧ ∀ j (hj : j < l.length), j < k → covP l[j].1 p = false) ∨ ∃ (a : Nat) (ha : a < l.length), t 6 = .int .i64 (a : Nat) ∧ covP l[a].1 p = true ∧ ∀ j (hj : j < l.length), j < k → covP l[j].1 p = true → l[j].1.len ≤ l[a].1.len)) l.length ⟨by simp, rfl, .inl ⟨by simp, fun j _ hj => absurd hj (by omega)⟩⟩ ?_
  rintro k t h' hi ⟨⟨t0, t3, t4, t7⟩, rfl, hat⟩ K hK
  by_cases hlt : k < l.length
  · have hw := wrap_succ hlt (by omega)
    obtain ⟨pp, qq, o, cs, e1, e2, e3, e4, e5, e6, e7, e8, e9⟩ := pair_atG wf s hlt
    have e3' := e3 h' g1
    simp only [pfxC] at e7
    simp [t0, t7, L, hlt]
    refine dreg_of ?_
    simp [t0, t3, t7, e1, e3', e5, e7, c1]
    refine scall_of (rcovers_ct (a := l[k].1) (b := p)) ?_
    cases hc : covP l[k].1 p with
    | false =>
      simp [t7, hw]
      refine hK _ _ hlt ⟨by simp [t0, t3, t4], rfl, ?_⟩
      rcases hat with ⟨t6, ha⟩ | ⟨a, ha, t6, hca, hm⟩
      · refine .inl ⟨by simp [t6], fun j hj hjk => ?_⟩
        rcases (by omega : j < k ∨ j = k) with h | rfl
        · exact ha j hj h
        · exact hc
      · refine .inr ⟨a, ha, by simp [t6], hca, fun j hj hjk hcj => ?_⟩
        rcases (by omega : j < k ∨ j = k) with h | rfl
        · exact hm j hj h hcj
        · rw [hc] at hcj; cases hcj
    | true =>
      rcases hat with ⟨t6, ha⟩ | ⟨a, ha, t6, hca, hm⟩
      · simp [t6, t7, hw]
        refine hK _ _ hlt ⟨by simp [t0, t3, t4], rfl, .inr ⟨k, hlt, by simp, hc, fun j hj hjk hcj => ?_⟩⟩
        rcases (by omega : j < k ∨ j = k) with h | rfl
        · rw [ha j hj h] at hcj; cases hcj
        · exact Int.le_refl _
      · have na : ¬ ((a : Nat) : Int) < 0 := by omega
        obtain ⟨pp', qq', o', cs', f1, f2, f3, f4, f5, f6, f7, f8, f9⟩ := pair_atG wf s ha
        have f3' := f3 h' g1
        simp [t6, na, t0, t7, e1, e3', e8, f1, f3', f8]
        by_cases hgt : l[a].1.len < l[k].1.len
        · simp [hgt, t7, hw]
          refine hK _ _ hlt ⟨by simp [t0, t3, t4], rfl, .inr ⟨k, hlt, by simp, hc, fun j hj hjk hcj => ?_⟩⟩
          rcases (by omega : j < k ∨ j = k) with h | rfl
          · have := hm j hj h hcj; omega
          · exact Int.le_refl _
        · simp [hgt, t7, hw]
          refine hK _ _ hlt ⟨by simp [t0, t3, t4], rfl, .inr ⟨a, ha, by simp [t6], hca, fun j hj hjk hcj => ?_⟩⟩
          rcases (by omega : j < k ∨ j = k) with h | rfl
          · exact hm j hj h hcj
          · omega
  · rcases hat with ⟨t6, ha⟩ | ⟨a, ha, t6, hca, hm⟩
    · have em : m = none := by
        cases hmm : m with
        | none => rfl
        | some y =>
          obtain ⟨hy, hc⟩ := m2 y hmm
          obtain ⟨j, hj, ej⟩ := List.mem_iff_getElem.1 hy
          have := ha j hj (by omega)
          rw [ej, hc] at this; cases this
      simp [t0, t7, L, hlt, t6, t4, b1, em, pairC, pfxC]
      exact gs _
    · have na : ¬ ((a : Nat) : Int) < 0 := by omega
      have em : m = some l[a] := by
        obtain ⟨m', hm', hle⟩ := m1 _ (List.getElem_mem ha) hca
        obtain ⟨hy, hc⟩ := m2 m' hm'
        obtain ⟨j, hj, ej⟩ := List.mem_iff_getElem.1 hy
        have := hm j hj (by omega) (by rw [ej]; exact hc)
        rw [ej] at this
        rw [hm', hu _ (List.getElem_mem ha) m' hy hca hc (by omega)]
      obtain ⟨pp', qq', o', cs', f1, f2, f3, f4, f5, f6, f7, f8, f9⟩ := pair_atG wf s ha
      have f3' := f3 h' g1
      simp only [pairC, pfxC] at f6
      simp [t0, t7, L, hlt, t6, na, t4, b1, em, f1, f3', f4, f6, pairC, pfxC]
      exact gs _
end Go.Am

/-
  The reference's contracts over lists of pairs: set; the plain laws of a list that is kept in order.
-/
namespace Go.Am
open Go.Proofs

set_option maxRecDepth 100000
def rq (p : Pfx) (y : Pfx × Int) : Bool := !decide (cmpPf p y.1 < 0)
def rins (x : Pfx × Int) (l : List (Pfx × Int)) : List (Pfx × Int) := l.takeWhile (rq x.1) ++ x :: l.dropWhile (rq x.1)
theorem tw_facts {α : Type} (p : α → Bool) : ∀ l : List α, l.takeWhile p = l.take (l.takeWhile p).length ∧ l.dropWhile p = l.drop (l.takeWhile p).length ∧ (∀ k (hk : k < l.length), k < (l.takeWhile p).length → p l[k] = true) ∧ ∀ h : (l.takeWhile p).length < l.length, p (l[(l.takeWhile p).length]'h) = false
  | [] => by simp
  | x :: l => by
    obtain ⟨a, b, c, d⟩ := tw_facts p l
    cases h : p x with
    | false => simp [List.takeWhile_cons, List.dropWhile_cons, h]
    | true =>
      have e1 : (x :: l).takeWhile p = x :: l.takeWhile p := by rw [List.takeWhile_cons, if_pos h]
      have e2 : (x :: l).dropWhile p = l.dropWhile p := by rw [List.dropWhile_cons, if_pos h]
      simp only [e1, e2, List.length_cons]
      refine ⟨by rw [List.take_succ_cons, ← a], by rw [List.drop_succ_cons, ← b], fun k hk hkm => ?_, fun hm => ?_⟩
      · cases k with
        | zero => exact h
        | succ k => exact c k (by simpa using hk) (by omega)
      · simpa using d (by omega)
theorem rsetno_ct {h : H} {lv : V} {p : Pfx} (hp : mayP p = false) (x : Int) (hv : lv.one = true) {Q : V → H → Prop} (q : ∀ h', Ge h h' → h'.WF → Q (.tup [lv, .int .i64 2]) h') : Acalls Tryd.prog 22 [lv, .agg (pfxC p), .int .i64 x] h Q := by
  refine acalls_to Tryd.func22 S.Href03_Set_code S.Href03_Set_enter (Nat.le_of_ble_eq_true rfl) fun wf => ?_; simp only [S.Href03_Set]
  obtain ⟨h1, hh1⟩ : ∃ h1, h1 = h.push (.row (pfxC p)) := ⟨_, rfl⟩
  have g1 : Ge h h1 := by rw [hh1]; exact (Ge.refl _).push _
  have w1 : h1.WF := by rw [hh1]; exact wf.push _
  have c1 : cellsAt h1.get h.next 4 = some (pfxC p) := by rw [hh1]; simp [pfxC]
  simp only [pfxC] at hh1 c1 ⊢
  simp
  rw [← hh1]
  refine rmay_ct (p := p) _ ?_
  simp [hp]
  exact q _ g1 w1
theorem rset_ct {h : H} {lv : V} {l : List (Pfx × Int)} {p : Pfx} (hp : mayP p = true) (x : Int) (s : Sls h.get 5 lv (l.map pairC)) (hb : l.length ≤ 1000000) {Q : V → H → Prop} (q : ∀ v h', Ge h h' → h'.WF → Gl h' h.next 5 v ((rins (p, x) (l.filter fun y => !decide (y.1 = p))).map pairC) → Q (.tup [v, .int .i64 0]) h') :
    Acalls Tryd.prog 22 [lv, .agg (pfxC p), .int .i64 x] h Q := by
  refine acalls_to Tryd.func22 S.Href03_Set_code S.Href03_Set_enter (Nat.le_of_ble_eq_true rfl) fun wf => ?_; simp only [S.Href03_Set]
  obtain ⟨h1, hh1⟩ : ∃ h1, h1 = h.push (.row (pfxC p)) := ⟨_, rfl⟩
  have g1 : Ge h h1 := by rw [hh1]; exact (Ge.refl _).push _
  have w1 : h1.WF := by rw [hh1]; exact wf.push _
  have n1 : h1.next = h.next + 1 := by rw [hh1]; simp
  have c1 : ∀ h', Ge h1 h' → cellsAt h'.get h.next 4 = some (pfxC p) := fun h' g => by rw [g.cells (by omega), hh1]; simp [pfxC]
  have s1 : Sls h1.get 5 lv (l.map pairC) := s.ge wf g1
  have c1' := c1 h1 (Ge.refl _)
  have pl := (may_parts hp).2.1
  have psz := size_le p.fam
  simp only [pfxC] at hh1 c1 c1' ⊢
  simp
  rw [← hh1]
  refine rmay_ct (p := p) _ ?_
  simp [hp, c1']
  refine rdel_ct (p := p) s1 hb ?_
  intro v h2 g2 w2 gl2
  obtain ⟨F, hF⟩ : ∃ F, F = l.filter fun y => !decide (y.1 = p) := ⟨_, rfl⟩
  have hFl : F.length ≤ 1000000 := by rw [hF]; exact Nat.le_trans (List.length_filter_le _ _) hb
  rw [← hF] at gl2 q
  have s2 : Sls h2.get 5 v (F.map pairC) := gl2.sls (pairC_all _) (by simp; omega)
  have L := fun h' (g : Ge h2 h') => s2.lenG w2 (List.length_map ..) h' g
  obtain ⟨m, hm⟩ : ∃ m, m = (F.takeWhile (rq p)).length := ⟨_, rfl⟩
  obtain ⟨f1, f2, f3, f4⟩ := tw_facts (rq p) F
  rw [← hm] at f1 f2
  have f3' : ∀ k (hk : k < F.length), k < m → rq p F[k] = true := fun k hk hkm => f3 k hk (by omega)
  have f4' : ∀ h : m < F.length, rq p F[m] = false := fun h => by
    have := f4 (by omega)
    simpa [← hm] using this
  have er : rins (p, x) F = F.take m ++ (p, x) :: F.drop m := by rw [rins, f1, f2]
  rw [er] at q
  have hml : m ≤ F.length := by rw [hm]; exact (List.takeWhile_prefix _).length_le
  have c2 : ∀ h', Ge h2 h' → cellsAt h'.get h.next 4 = some [.int .i64 p.fam, .int .u64 (p.rd : Nat), .str p.addr, .int .i64 p.len] := fun h' g => c1 h' (g2.trans g)
  simp
  refine loop_cut 0 (fun t h' => (t 2 = .int .i64 x ∧ t 4 = .ptr h.next 4 0) ∧ ∃ b, t 9 = .bool b ∧ ((b = true ∧ Gro h2 (F.take m ++ (p, x) :: F.drop m) (t 8) h') ∨ (b = false ∧ m = F.length ∧ Gro h2 F (t 8) h')))
    (fun k t h' => (t 0 = v ∧ t 2 = .int .i64 x ∧ t 4 = .ptr h.next 4 0 ∧ t 10 = .int .i64 (k : Nat)) ∧ k ≤ F.length ∧ ((k ≤ m ∧ t 9 = .bool false ∧ Gro h2 (F.take k) (t 8) h') ∨ (m < k ∧ t 9 = .bool true ∧ Gro h2 (F.take m ++ (p, x) :: (F.take k).drop m) (t 8) h'))) F.length
    ⟨by simp, by omega, .inl ⟨by omega, by simp, by simp; exact ⟨Ge.refl _, w2, Gl.nil _ _ _⟩⟩⟩ ?_ ?_
  · rintro k t h' hk ⟨⟨t0, t2, t4, t10⟩, hkl, hc⟩ K R hK hJ _
    obtain ⟨ov, t8⟩ : ∃ ov, t 8 = ov := ⟨_, rfl⟩
    rw [t8] at hc
    have gg : Ge h2 h' := by rcases hc with ⟨_, _, g⟩ | ⟨_, _, g⟩ <;> exact g.1
    have L' := L h' gg
    have c2' := c2 h' gg
    by_cases hlt : k < F.length
    · have hw := wrap_succ hlt (by omega)
      obtain ⟨pp, qq, o, cs, e1, e2, e3, e4, e5, e6, e7, e8, e9⟩ := pair_atG w2 s2 hlt
      have e3' := e3 h' gg
      have tk : F.take (k + 1) = F.take k ++ [F[k]] := List.take_succ_eq_append_getElem hlt
      have tl : (F.take k).length = k := by rw [List.length_take]; omega
      simp [t0, t10, L', hlt]
      refine dreg_of ?_
      rcases hc with ⟨hkm, t9, gr⟩ | ⟨hkm, t9, gr⟩
      · simp only [pfxC] at e7
        simp [t9, t0, t4, t10, e1, e3', e5, e7, c2']
        refine scall_of (rcmp_ct (a := p) (b := F[k].1) (by omega)) ?_
        rcases (by omega : k < m ∨ k = m) with hlm | hem
        · have hq := f3' k hlt hlm
          have hn : ¬ cmpPf p F[k].1 < 0 := by simpa [rq] using hq
          obtain ⟨w', d, a1, a2⟩ := gr.more F[k] (by omega)
          simp only [pairC, pfxC] at a1 a2 e6
          simp [hn, t0, t8, t10, e1, e3', e4, e6, a1, hw]
          refine hK _ _ hlt ⟨by simp [t0, t2, t4], by omega, .inl ⟨by omega, by simp [t9], ?_⟩⟩
          rw [tk]; simpa using a2
        · subst hem
          have hq := f4' hlt
          have hn : cmpPf p F[k].1 < 0 := by simpa [rq] using hq
          obtain ⟨w', d, a1, a2⟩ := gr.more (p, x) (by omega)
          obtain ⟨w'', d', b1, b2⟩ := a2.more F[k] (by simp; omega)
          have ga := a2.1
          have c2a := c2 _ ga
          have e3a := e3 _ ga
          simp only [pairC, pfxC] at a1 a2 b1 b2 e6 c2a e3a
          simp [hn, t0, t2, t4, t8, t10, c2', e1, a1, e3a, e4, e6, b1, hw]
          refine hK _ _ hlt ⟨by simp [t0, t2, t4], by omega, .inr ⟨by omega, by simp, ?_⟩⟩
          have ee : (F.take (k + 1)).drop k = [F[k]] := by rw [tk, List.drop_append_of_le_length (by omega), List.drop_of_length_le (by omega), List.nil_append]
          rw [ee]
          simpa using b2
      · obtain ⟨w', d, a1, a2⟩ := gr.more F[k] (by simp; omega)
        simp only [pairC, pfxC] at a1 a2 e6
        simp [t9, t0, t8, t10, e1, e3', e4, e6, a1, hw]
        refine hK _ _ hlt ⟨by simp [t0, t2, t4], by omega, .inr ⟨by omega, by simp [t9], ?_⟩⟩
        rw [tk, List.drop_append_of_le_length (by omega), ← List.cons_append, ← List.append_assoc]
        simpa using a2
    · have hkk : k = F.length := by omega
      simp [t0, t10, L', hlt]
      rcases hc with ⟨hkm, t9, gr⟩ | ⟨hkm, t9, gr⟩
      · refine hJ _ _ ⟨by simp [t2, t4], false, by simp [t9], .inr ⟨rfl, by omega, ?_⟩⟩
        rw [hkk, List.take_length] at gr
        simpa [t8] using gr
      · refine hJ _ _ ⟨by simp [t2, t4], true, by simp [t9], .inl ⟨rfl, ?_⟩⟩
        rw [hkk, List.take_length] at gr
        simpa [t8] using gr
  · rintro t h' ⟨⟨t2, t4⟩, b, t9, hc⟩
    obtain ⟨ov, t8⟩ : ∃ ov, t 8 = ov := ⟨_, rfl⟩
    rw [t8] at hc
    rcases hc with ⟨rfl, gr⟩ | ⟨rfl, hmF, gr⟩
    · simp [t9, t8]
      exact q _ _ ((g1.trans g2).trans gr.1) gr.2.1 (gr.2.2.down (by have := g2.1; omega))
    · obtain ⟨w', d, a1, a2⟩ := gr.more (p, x) (by omega)
      have c2' := c2 h' gr.1
      rw [hmF, List.take_length, List.drop_length] at q
      have qq := q _ _ ((g1.trans g2).trans a2.1) a2.2.1 (a2.2.2.down (by have := g2.1; omega))
      simp only [pairC, pfxC] at a1 a2 qq
      simp [t9, t2, t4, t8, c2', a1]
      exact qq
theorem rins_mem {x : Pfx × Int} {l : List (Pfx × Int)} {y : Pfx × Int} : y ∈ rins x l ↔ y = x ∨ y ∈ l := by
  have e : y ∈ l ↔ y ∈ l.takeWhile (rq x.1) ∨ y ∈ l.dropWhile (rq x.1) := by rw [← List.mem_append, List.takeWhile_append_dropWhile]
  rw [e]
  simp only [rins, List.mem_append, List.mem_cons]
  constructor
  · rintro (h | h | h)
    · exact .inr (.inl h)
    · exact .inl h
    · exact .inr (.inr h)
  · rintro (h | h | h)
    · exact .inr (.inl h)
    · exact .inl h
    · exact .inr (.inr h)
theorem cmp_tri (a b : Pfx) (h : ¬ cmpPf a b < 0) (hn : b ≠ a) : cmpPf b a < 0 := by
  have h1 := ordr_pf.anti a b
  have h2 : cmpPf b a ≠ 0 := fun e => hn (cmpPf_eq e)
  omega
theorem rins_sorted {x : Pfx × Int} {l : List (Pfx × Int)} (s : PSorted l) (hn : ∀ y ∈ l, y.1 ≠ x.1) : PSorted (rins x l) := by
  have s' := s
  unfold PSorted at s
  rw [← List.takeWhile_append_dropWhile (p := rq x.1) (l := l)] at s
  obtain ⟨p1, p2, p3⟩ := List.pairwise_append.1 s
  have hin : ∀ y ∈ l.takeWhile (rq x.1), cmpPf y.1 x.1 < 0 := fun y hy => by
    have hq : rq x.1 y = true := List.all_eq_true.1 (List.all_takeWhile (l := l) (p := rq x.1)) y hy
    exact cmp_tri _ _ (by simpa [rq] using hq) (hn y ((List.takeWhile_prefix _).subset hy))
  have hd : ∀ y ∈ l.dropWhile (rq x.1), cmpPf x.1 y.1 < 0 := fun y hy => by
    cases e : l.dropWhile (rq x.1) with
    | nil => rw [e] at hy; simp at hy
    | cons z b =>
      rw [e] at hy p2
      have hz : cmpPf x.1 z.1 < 0 := by
        obtain ⟨_, f2, _, f4⟩ := tw_facts (rq x.1) l
        have hlen : (l.takeWhile (rq x.1)).length < l.length := by
          have := congrArg List.length (List.takeWhile_append_dropWhile (p := rq x.1) (l := l))
          rw [e] at this; simp at this; omega
        have := f4 hlen
        rw [f2, List.drop_eq_getElem_cons hlen] at e
        rw [(List.cons.inj e).1] at this
        simpa [rq] using this
      rcases List.mem_cons.1 hy with rfl | hy
      · exact hz
      · exact ordr_pf.down _ _ _ hz ((List.pairwise_cons.1 p2).1 y hy)
  refine List.pairwise_append.2 ⟨p1, List.pairwise_cons.2 ⟨hd, p2⟩, fun a ha b hb => ?_⟩
  rcases List.mem_cons.1 hb with rfl | hb
  · exact hin a ha
  · exact p3 a ha b hb
theorem tset_list {rs : List Rt} (o : RsOk rs) {p : Pfx} (hp : mayP p = true) (x : Int) : rins (p, x) ((rsPairs rs).filter fun y => !decide (y.1 = p)) = rsPairs (tset rs p x) := by
  refine psorted_eq (rins_sorted ((rs_sorted o).filter _) fun y hy => ?_) (rs_sorted (tset_ok o hp x)) fun z => ?_
  · have := (List.mem_filter.1 hy).2; simpa using this
  · obtain ⟨k, y⟩ := z
    rw [rins_mem, tset_mem o hp, List.mem_filter]
    by_cases e : k = p
    · subst e; simp
    · simp [e]
theorem tdel_list {rs : List Rt} (o : RsOk rs) {p : Pfx} (hp : mayP p = true) : ((rsPairs rs).filter fun y => !decide (y.1 = p)) = rsPairs (tdel rs p) := by
  refine psorted_eq ((rs_sorted o).filter _) (rs_sorted (tdel_ok o hp)) fun z => ?_
  obtain ⟨k, y⟩ := z
  rw [tdel_mem o hp, List.mem_filter]
  simp [and_comm]
theorem rs_may {rs : List Rt} (o : RsOk rs) {x : Pfx × Int} (h : x ∈ rsPairs rs) : mayP x.1 = true := ((mem_rs o (q := x.1) (y := x.2)).1 h).1
theorem nodel_list {rs : List Rt} (o : RsOk rs) {p : Pfx} (hp : mayP p = false) : ((rsPairs rs).filter fun y => !decide (y.1 = p)) = rsPairs rs := by
  refine List.filter_eq_self.2 fun x hx => ?_
  have := rs_may o hx
  have : x.1 ≠ p := fun e => by rw [e, hp] at this; cases this
  simp [this]
theorem tget_no {rs : List Rt} (o : RsOk rs) {p : Pfx} (hp : mayP p = false) : tget rs p = none := by
  cases h : tget rs p with
  | none => rfl
  | some y => have := rs_may o ((tget_iff o).1 h); rw [hp] at this; cases this
/-- Two of the same length that cover the same are the same. -/
theorem cover_one {rs : List Rt} (o : RsOk rs) {p : Pfx} : ∀ x ∈ rsPairs rs, ∀ y ∈ rsPairs rs, covP x.1 p = true → covP y.1 p = true → x.1.len = y.1.len → x = y := fun x hx y hy cx cy e => by
  have h : x.1 = y.1 := by
    simp only [covP, Bool.and_eq_true, decide_eq_true_eq] at cx cy
    rw [← cx.2, ← cy.2, e]
  have := pairs_one (rs_sorted o) (q := x.1) (y := x.2) (z := y.2) hx (by rw [h]; exact hy)
  exact Prod.ext h this
end Go.Am

/-
  TriePlays.
-/
namespace Go.Am
open Go.Proofs

set_option maxRecDepth 100000
structure Ac where
  w : Int
  v : Int
  p : Pfx
def acC (a : Ac) : List V := [.int .i64 a.w, .int .i64 a.v, .int .i64 a.p.fam, .int .u64 (a.p.rd : Nat), .str a.p.addr, .int .i64 a.p.len]
theorem eqV_boolP (a b : Bool) : eqV .bool (.bool a) (.bool b) = some (a == b) := by simp [eqV]
theorem TTurned.geP {ns : List Nat} {hb h0 h : H} {i : Nat} {rs : List Rt} {n : Nat} (t : TTurned ns hb i rs n h) (g : Ge h0 hb) (hn : ∀ j ∈ ns, h0.next ≤ j) : Ge h0 h := ⟨Nat.le_trans g.1 t.out.next, fun j hj => (t.out.keep j (Nat.lt_of_lt_of_le hj g.1) (fun hm => by have := hn j hm; omega)).trans (g.2 j hj)⟩
theorem gl_exists {h : H} (w : h.WF) (l : List (Pfx × Int)) : ∃ v h', Ge h h' ∧ h'.WF ∧ Gl h' h.next 5 v (l.map pairC) := by
  cases l with
  | nil => exact ⟨.nilsl, h, Ge.refl _, w, Gl.nil _ _ _⟩
  | cons x l =>
    exact ⟨.sl h.next ((x :: l).map pairC).flatten.length 0 ((x :: l).map pairC).length none, h.push (.grow 5 ((x :: l).map pairC).flatten), (Ge.refl _).push _, w.push _, .inr ⟨by simp, h.next, Nat.le_refl _, by simp, rfl, by simp⟩⟩
/-- The trie alone. -/
def TJ (h : H) (i : Nat) (rs : List Rt) (h' : H) : Prop := Ge h h' ∧ h'.WF ∧ ∃ ns, TrieAt h' i rs (rsPairs rs).length ns ∧ ∀ j ∈ ns, h.next ≤ j
/-- The trie and the list that says the same. -/
def PJ (h : H) (i : Nat) (rs : List Rt) (ov : V) (k : Nat) (h' : H) : Prop := RsOk rs ∧ rs.length ≤ k ∧ (rsPairs rs).length ≤ k ∧ Ge h h' ∧ h'.WF ∧ ∃ ns, TrieAt h' i rs (rsPairs rs).length ns ∧ (∀ j ∈ ns, h.next ≤ j) ∧ Gl h' h.next 5 ov ((rsPairs rs).map pairC) ∧ ∀ j ∈ ov.ids, j ∉ ns
theorem TJ.of {ns : List Nat} {hb h h3 : H} {i : Nat} {rs : List Rt} (t : TTurned ns hb i rs (rsPairs rs).length h3) (g : Ge h hb) (lo : ∀ j ∈ ns, h.next ≤ j) : TJ h i rs h3 := by
  obtain ⟨ns3, a, b⟩ := t.ex
  refine ⟨t.geP g lo, t.wf, ns3, a, fun j hj => ?_⟩
  rcases b j hj with h | h
  · exact lo j h
  · have := g.1; omega
theorem TJ.list {h h3 h4 : H} {i : Nat} {rs : List Rt} {v : V} {k : Nat} (t : TJ h i rs h3) (o : RsOk rs) (b1 : rs.length ≤ k) (b2 : (rsPairs rs).length ≤ k) (g : Ge h3 h4) (w : h4.WF) (gl : Gl h4 h3.next 5 v ((rsPairs rs).map pairC)) : PJ h i rs v k h4 := by
  obtain ⟨a, b, ns, ta, lo⟩ := t
  have lt := ta.lt b
  exact ⟨o, b1, b2, a.trans g, w, ns, ta.keep fun j hj => g.2 j (lt j hj), lo, gl.down a.1, fun j hj hm => by have := (gl.lo j hj).1; have := lt j hm; omega⟩
theorem PJ.ge {h h' h'' : H} {i : Nat} {rs : List Rt} {ov : V} {k k' : Nat} (c : PJ h i rs ov k h') (hk : k ≤ k') (g : Ge h' h'') (w : h''.WF) : PJ h i rs ov k' h'' := by
  obtain ⟨ro, b1, b2, g', w', ns, ta, lo, gl, dj⟩ := c
  exact ⟨ro, by omega, by omega, g'.trans g, w, ns, ta.keep fun j hj => g.2 j (ta.lt w' j hj), lo, gl.keep g.1 fun j hj => g.2 j (gl.lo j hj).2, dj⟩
theorem PJ.sls {h h' : H} {i : Nat} {rs : List Rt} {ov : V} {k : Nat} (c : PJ h i rs ov k h') (hk : k ≤ 1000000) : Sls h'.get 5 ov ((rsPairs rs).map pairC) := by
  obtain ⟨_, _, b2, _, _, _, _, _, gl, _⟩ := c
  exact gl.sls (pairC_all _) (by simp; omega)
theorem PJ.obj {h h' : H} {i : Nat} {rs : List Rt} {ov : V} {k : Nat} (c : PJ h i rs ov k h') : ∃ rv, h'.get i = some (trieO rv (rsPairs rs).length) := by
  obtain ⟨_, _, _, _, _, _, ta, _⟩ := c
  obtain ⟨rv, _, _, _, i4, _⟩ := ta
  exact ⟨rv, i4⟩
theorem PJ.len {h h' : H} {i : Nat} {rs : List Rt} {ov : V} {k : Nat} (c : PJ h i rs ov k h') (hk : k ≤ 1000000) : lenV 1 h'.get ov = some (.int .i64 ((rsPairs rs).length : Nat)) := by
  have := (c.sls hk).len
  rw [List.length_map] at this; exact this
theorem mC_eq (m : Option (Pfx × Int)) : mC m = m.getD (⟨0, 0, [], 0⟩, 0) := rfl
set_option maxHeartbeats 4000000 in
theorem tplayslaw_ct {h : H} {lv : V} {l : List Ac} (sl : Sls h.get 6 lv (l.map acC)) : Pure Tryd.prog 6 [lv] h (.bool true) := by
  refine pure_to Tryd.func6 S.Hlaw03_TriePlays_code S.Hlaw03_TriePlays_enter rfl (Nat.le_of_ble_eq_true rfl) fun wf => ?_; simp only [S.Hlaw03_TriePlays]
  have bl := sl.bound
  rw [List.length_map] at bl
  simp
  refine new_ct fun _ ta0 => ?_
  simp [eqV]
  obtain ⟨h2, hh2⟩ : ∃ h2, h2 = h.push (trieO .nilsl 0) := ⟨_, rfl⟩
  rw [← hh2] at ta0 ⊢
  have g2 : Ge h h2 := by rw [hh2]; exact (Ge.refl _).push _
  have w2 : h2.WF := by rw [hh2]; exact wf.push _
  obtain ⟨i, hi⟩ : ∃ i, i = h.next := ⟨_, rfl⟩
  rw [← hi] at ta0 ⊢
  have L := fun h' (g : Ge h h') => sl.lenG wf (List.length_map ..) h' g
  refine loop_cut 0 (fun t h' => t 3 = .ptr i 3 0 ∧ ∃ rs, PJ h i rs (t 4) 80 h')
    (fun k t h' => (t 0 = lv ∧ t 3 = .ptr i 3 0 ∧ t 5 = .int .i64 (k : Nat)) ∧ ∃ rs, PJ h i rs (t 4) k h') 80
    ⟨by simp, [], ⟨by simp, by simp⟩, by simp, by simp [rsPairs], g2, w2, [i], ta0, by simp; omega, by simp; exact Gl.nil _ _ _, by simp [V.ids]⟩ ?_ ?_
  · rintro k t h' hk ⟨⟨t0, t3, t5⟩, rs, pj⟩ K R hK hJ _
    obtain ⟨ov, t4⟩ : ∃ ov, t 4 = ov := ⟨_, rfl⟩
    rw [t4] at pj
    have pj0 := pj
    obtain ⟨ro, b1, b2, gh', w', ns, ta, lo, gl, dj⟩ := pj
    have L' := L h' gh'
    by_cases hgo : k < l.length ∧ k < 80
    · obtain ⟨hlt, h80⟩ := hgo
      have hw := wrap_succ h80 (by omega)
      have h80' : (k : Int) < 80 := by omega
      obtain ⟨pp, qq, off, ccs, e1, e2, e3, e4, e5, e6⟩ := sl.atG wf (k := k) (by simpa using hlt)
      have e3' := e3 h' gh'
      rw [List.getElem_map] at e5
      obtain ⟨a, ha⟩ : ∃ a, a = l[k] := ⟨_, rfl⟩
      rw [← ha] at e5
      simp only [acC] at e5
      simp [t0, t5, L', hlt, h80', e1, e3', e4, e5, t4]
      obtain ⟨hA, hhA⟩ : ∃ hA, hA = (h'.push (.row [.int .i64 0, .int .i64 0, .int .i64 0, .int .u64 0, .str [], .int .i64 0])).set h'.next (.row (acC a)) := ⟨_, rfl⟩
      have gA : Ge h' hA := by rw [hhA]; exact ((Ge.refl _).push _).set (Nat.le_refl _) _
      have wA : hA.WF := by rw [hhA]; exact (w'.push _).set (by simp) _
      have nA : hA.next = h'.next + 1 := by rw [hhA]; simp
      have xA : hA.get h'.next = some (.row (acC a)) := by rw [hhA]; simp
      have cA : ∀ h'' : H, h''.get h'.next = some (.row (acC a)) → cellsAt h''.get h'.next 6 = some [.int .i64 a.w, .int .i64 a.v, .int .i64 a.p.fam, .int .u64 (a.p.rd : Nat), .str a.p.addr, .int .i64 a.p.len] := fun h'' e => by rw [cellsAt_of e (by rfl)]; rfl
      have cA' := cA hA xA
      have pjA := pj0.ge (Nat.le_refl _) gA wA
      have lt := ta.lt w'
      have taA : TrieAt hA i rs (rsPairs rs).length ns := ta.keep fun j hj => gA.2 j (lt j hj)
      have ttA : TTurned ns hA i rs (rsPairs rs).length hA := TTurned.self taA wA
      have glA : Gl hA h.next 5 ov ((rsPairs rs).map pairC) := gl.keep gA.1 fun j hj => gA.2 j (gl.lo j hj).2
      have ghA : Ge h hA := gh'.trans gA
      obtain ⟨rv, iA⟩ := pjA.obj
      have sA := pjA.sls (by omega)
      have lA := pjA.len (by omega)
      simp only [acC] at hhA
      rw [← hhA]
      obtain ⟨p, hp⟩ : ∃ p, p = a.p := ⟨_, rfl⟩
      rw [← hp] at cA cA' ⊢
      obtain ⟨g, hg⟩ : ∃ g, g = tget rs p := ⟨_, rfl⟩
      refine rget_ct (p := p) (g := g) sA (fun y => by rw [hg]; exact tget_iff ro) _ ?_
      simp [t3, cA']
      refine get_ct (p := p) ro taA (by omega) _ ?_
      rw [← hg]
      simp [eqV_boolP]
      have keepX : ∀ {rs' : List Rt} {n' : Nat} {h3 : H}, TTurned ns hA i rs' n' h3 → h3.get h'.next = some (.row (acC a)) := fun t' => (t'.out.keep _ (by omega) (fun hm => by have := lt _ hm; omega)).trans xA
      have keepL : ∀ {rs' : List Rt} {n' : Nat} {h3 : H}, TTurned ns hA i rs' n' h3 → Sls h3.get 5 ov ((rsPairs rs).map pairC) := fun t' => (glA.keep t'.out.next fun j hj => t'.out.keep j (glA.lo j hj).2 (dj j hj)).sls (pairC_all _) (by simp; omega)
      obtain ⟨w, hw'⟩ : ∃ w, w = a.w := ⟨_, rfl⟩
      rw [← hw'] at cA cA' ⊢
      have hcase : (w = 0 ∨ w = 1) ∨ w = 2 ∨ w = 3 ∨ (w ≠ 0 ∧ w ≠ 1 ∧ w ≠ 2 ∧ w ≠ 3) := by omega
      rcases hcase with h01 | rfl | rfl | ⟨d0, d1, d2, d3⟩
      · cases mp : mayP p with
        | true =>
          have tl := tset_list ro mp a.v
          rcases h01 with rfl | rfl <;>
          · simp [cA', t3]
            refine Acalls.mono (ttA.set_ct ro (by omega) (by omega) mp a.v) ?_
            rintro _ h3 ⟨rfl, tt3⟩
            have tj := TJ.of tt3 ghA lo
            have c3 := cA h3 (keepX tt3)
            simp [t4, c3]
            refine rset_ct (p := p) mp a.v (keepL tt3) (by omega) ?_
            intro v h4 g4 w4 gl4
            rw [tl] at gl4
            have pj4 := tj.list (k := k + 1) (tset_ok ro mp a.v) (by have := tset_rts rs p a.v; omega) (by have := tset_len rs p a.v; split at this <;> omega) g4 w4 gl4
            obtain ⟨rv4, i4⟩ := pj4.obj
            have l4 := pj4.len (by omega)
            simp [t3]
            refine len_ct i4 _ ?_
            simp [l4, t5, hw]
            exact hK _ _ h80 ⟨by simp [t0, t3], _, by simpa using pj4⟩
        | false =>
          have pj4 := pjA.ge (k' := k + 1) (by omega) (Ge.refl _) wA
          rcases h01 with rfl | rfl <;>
          · simp [cA', t3]
            refine setno_ct iA mp a.v _ ?_
            simp [t4, cA']
            refine rsetno_ct (p := p) mp a.v glA.one ?_
            intro h4 g4 w4
            have pj4 := pjA.ge (k' := k + 1) (by omega) g4 w4
            obtain ⟨rv4, i4⟩ := pj4.obj
            have l4 := pj4.len (by omega)
            simp [t3]
            refine len_ct i4 _ ?_
            simp [l4, t5, hw]
            exact hK _ _ h80 ⟨by simp [t0, t3], _, by simpa using pj4⟩
      · cases mp : mayP p with
        | true =>
          have tl := tdel_list ro mp
          simp [cA', t3]
          refine Acalls.mono (ttA.del_ct ro (by omega) (by omega) mp) ?_
          rintro _ h3 ⟨rfl, tt3⟩
          rw [← hg]
          have tj := TJ.of tt3 ghA lo
          have c3 := cA h3 (keepX tt3)
          simp [t4, c3, eqV_boolP]
          refine rdel_ct (p := p) (keepL tt3) (by omega) ?_
          intro v h4 g4 w4 gl4
          rw [tl] at gl4
          have pj4 := tj.list (k := k + 1) (tdel_ok ro mp) (by have := tdel_rts rs p; omega) (by have := tdel_len rs p; omega) g4 w4 gl4
          obtain ⟨rv4, i4⟩ := pj4.obj
          have l4 := pj4.len (by omega)
          simp [t3]
          refine len_ct i4 _ ?_
          simp [l4, t5, hw]
          exact hK _ _ h80 ⟨by simp [t0, t3], _, by simpa using pj4⟩
        | false =>
          have gn : g = none := by rw [hg]; exact tget_no ro mp
          have tl := nodel_list ro mp
          simp [cA', t3]
          refine delno_ct iA mp _ ?_
          simp [t4, cA', eqV_boolP, gn]
          refine rdel_ct (p := p) sA (by omega) ?_
          intro v h4 g4 w4 gl4
          rw [tl] at gl4
          have pj4 := TJ.list (k := k + 1) ⟨ghA, wA, ns, taA, lo⟩ ro (by omega) (by omega) g4 w4 gl4
          obtain ⟨rv4, i4⟩ := pj4.obj
          have l4 := pj4.len (by omega)
          simp [t3]
          refine len_ct i4 _ ?_
          simp [l4, t5, hw]
          exact hK _ _ h80 ⟨by simp [t0, t3], _, by simpa using pj4⟩
      · obtain ⟨sp1, sp2⟩ := tmatch_spec ro p
        simp [cA', t3]
        refine match_ct (p := p) ro taA (by omega) _ ?_
        obtain ⟨M, hM⟩ : ∃ M, M = mC (tmatch rs p) := ⟨_, rfl⟩
        obtain ⟨ib, hib⟩ : ∃ ib, ib = (tmatch rs p).isSome := ⟨_, rfl⟩
        rw [← hM, ← hib]
        simp only [pfxC]
        simp
        obtain ⟨h3, hh3⟩ : ∃ h3, h3 = (hA.push (.row [.int .i64 0, .int .u64 0, .str [], .int .i64 0])).set hA.next (.row (pfxC M.1)) := ⟨_, rfl⟩
        have g3 : Ge hA h3 := by rw [hh3]; exact ((Ge.refl _).push _).set (Nat.le_refl _) _
        have w3 : h3.WF := by rw [hh3]; exact (wA.push _).set (by simp) _
        have n3 : h3.next = hA.next + 1 := by rw [hh3]; simp
        have x3 : h3.get hA.next = some (.row (pfxC M.1)) := by rw [hh3]; simp
        have c3 := cA h3 ((g3.2 _ (by omega)).trans xA)
        have pj3 := pjA.ge (Nat.le_refl _) g3 w3
        simp only [pfxC] at hh3
        rw [← hh3]
        simp [t4, cA', show ¬ h'.next = hA.next by omega]
        refine rmatch_ct (p := p) (m := tmatch rs p) (pj3.sls (by omega)) (fun x hx hc => sp1 x.1 x.2 hx hc) sp2 (cover_one ro) _ ?_
        rw [← mC_eq, ← hM, ← hib]
        simp only [pairC]
        simp
        obtain ⟨h5, hh5⟩ : ∃ h5, h5 = (h3.push (.row [.int .i64 0, .int .u64 0, .str [], .int .i64 0, .int .i64 0])).set h3.next (.row (pairC M)) := ⟨_, rfl⟩
        have g5 : Ge h3 h5 := by rw [hh5]; exact ((Ge.refl _).push _).set (Nat.le_refl _) _
        have w5 : h5.WF := by rw [hh5]; exact (w3.push _).set (by simp) _
        have y5 : h5.get h3.next = some (.row (pairC M)) := by rw [hh5]; simp
        have x5 : h5.get hA.next = some (.row (pfxC M.1)) := (g5.2 _ (by omega)).trans x3
        have cx5 : cellsAt h5.get hA.next 4 = some (pfxC M.1) := by rw [cellsAt_of x5 (by rfl)]; rfl
        have cy5 : cellsAt h5.get h3.next 5 = some (pairC M) := by rw [cellsAt_of y5 (by rfl)]; rfl
        have pj5 := pj3.ge (k' := k + 1) (by omega) g5 w5
        have ee := eq_pf M.1 M.1
        simp only [pfxC, pairC, decide_true] at hh5 cx5 cy5 ee
        rw [← hh5]
        obtain ⟨rv5, i5⟩ := pj5.obj
        have l5 := pj5.len (by omega)
        simp [cx5, cy5, ee, eqV_boolP, t3]
        refine len_ct i5 _ ?_
        simp [l5, t4, t5, hw]
        exact hK _ _ h80 ⟨by simp [t0, t3], _, by simpa [t4] using pj5⟩
      · have z0 : (w == 0) = false := beq_no d0
        have z1 : (w == 1) = false := beq_no d1
        have z2 : (w == 2) = false := beq_no d2
        have z3 : (w == 3) = false := beq_no d3
        simp [cA', z0, z1, z2, z3]
        refine dreg_awp [h'.next] [0, 0, 0, 0, 0, 1, 0, 0, 2, 0, 0, 0] (by rfl) (by rfl) ?_
        simp [t3, t4, cA', lA]
        obtain ⟨U, hU⟩ : ∃ U, U = (rsPairs rs).filter fun x => covP p x.1 := ⟨_, rfl⟩
        have ul : U.length ≤ k := by rw [hU]; exact Nat.le_trans (List.length_filter_le _ _) b2
        refine acall_rel (Q' := fun v h3 => Ge hA h3 ∧ h3.WF ∧ Gl h3 hA.next 5 v (U.map pairC)) (by decide) (gl_exists wA U) (under_gl (p := p) (n := (rsPairs rs).length) ro taA (by omega) (by omega) (Nat.le_refl _) (fun v h3 x y z => ⟨x, y, by rw [hU]; exact z⟩)) ?_
        rintro v h3 ⟨g3, w3, gl3⟩
        refine ⟨fun _ j hj => g3.2 j (by simp at hj; omega), ?_⟩
        have c3 := cA h3 ((g3.2 _ (by omega)).trans xA)
        have pj3 := pjA.ge (Nat.le_refl _) g3 w3
        simp [t4, c3, I.foot, refOf]
        refine acall_rel (Q' := fun v' h4 => Ge h3 h4 ∧ h4.WF ∧ Gl h4 h3.next 5 v' (U.map pairC)) (by decide) (gl_exists w3 U) (runder_ct (p := p) (pj3.sls (by omega)) (by omega) (fun v h3 x y z => ⟨x, y, by rw [hU]; exact z⟩)) ?_
        rintro v' h4 ⟨g4, w4, gl4⟩
        refine ⟨by simp, ?_⟩
        have pj4 := pj3.ge (k' := k + 1) (by omega) g4 w4
        have gl3' : Gl h4 hA.next 5 v (U.map pairC) := gl3.keep g4.1 fun j hj => g4.2 j (gl3.lo j hj).2
        simp
        refine acall_of (rsame_ct (gl3'.sls (pairC_all _) (by simp; omega)) (gl4.sls (pairC_all _) (by simp; omega))) (by decide) (fun _ => Keep.refl _ _) ?_
        obtain ⟨rv4, i4⟩ := pj4.obj
        have l4 := pj4.len (by omega)
        simp [t3]
        refine len_ct i4 _ ?_
        simp [l4, t4, t5, hw]
        exact hK _ _ h80 ⟨by simp [t0, t3], _, by simpa [t4] using pj4⟩
    · have fin : ∀ t' : Tm, t' 3 = .ptr i 3 0 → t' 4 = ov → R (.exit 0) t' h' := fun t' x y => hJ _ _ ⟨x, rs, by rw [y]; exact pj0.ge (by omega) (Ge.refl _) w'⟩
      by_cases hlt : k < l.length
      · have h80 : ¬ (k : Int) < 80 := by omega
        simp [t0, t5, L', hlt, h80]
        exact fin _ (by simp [t3]) (by simp [t4])
      · simp [t0, t5, L', hlt]
        exact fin _ (by simp [t3]) (by simp [t4])
  · rintro t h3 ⟨t3, rs, pj⟩
    obtain ⟨ov, t4⟩ : ∃ ov, t 4 = ov := ⟨_, rfl⟩
    rw [t4] at pj
    have l3 := pj.len (by omega)
    have pj0 := pj
    obtain ⟨ro, b1, b2, gh3, w3, ns, ta, lo, gl, dj⟩ := pj
    simp [t3, t4, l3]
    refine all_gl (n := (rsPairs rs).length) ro ta (by omega) (by omega) (Nat.le_refl _) ?_
    intro v h4 g4 w4 gl4
    have pj4 := pj0.ge (Nat.le_refl _) g4 w4
    simp [t4]
    refine rsame_ct (gl4.sls (pairC_all _) (by simp; omega)) (pj4.sls (by omega)) _ ?_
    simp
    refine works_ct _ _ ?_
    simp
    exact gh3.trans g4
end Go.Am

/-
  Acts among the arguments.
-/
namespace Go.Am
open Go.Proofs

def actLs : List Lf := [.int .i64, .int .i64, .int .i64, .int .u64, .str, .int .i64]
theorem ac_of {vs : List V} (h : Lfs actLs vs) : ∃ a : Ac, vs = acC a := by
  cases h with
  | cons k1 t1 => cases t1 with
    | cons k2 t2 => cases t2 with
      | cons k3 t3 => cases t3 with
        | cons k4 t4 => cases t4 with
          | cons k5 t5 => cases t5 with
            | cons k6 t6 =>
              cases t6
              obtain ⟨w, rfl, _⟩ := k1
              obtain ⟨v, rfl, _⟩ := k2
              obtain ⟨f, rfl, _⟩ := k3
              obtain ⟨rd, rfl, _⟩ := Lf.nat k4 rfl
              obtain ⟨s, rfl, _⟩ := k5
              obtain ⟨n, rfl, _⟩ := k6
              exact ⟨⟨w, v, ⟨f, rd, s, n⟩⟩, rfl⟩
theorem acts_of : ∀ {ess : List (List V)}, (∀ e ∈ ess, Lfs actLs e) → ∃ l : List Ac, ess = l.map acC ∧ ∀ s ∈ l, True
  | [], _ => ⟨[], rfl, by simp⟩
  | e :: ess, h => by
    obtain ⟨s, rfl⟩ := ac_of (h e (by simp))
    obtain ⟨l, rfl, _⟩ := acts_of (ess := ess) fun x hx => h x (by simp [hx])
    exact ⟨s :: l, rfl, fun _ _ => trivial⟩
end Go.Am
