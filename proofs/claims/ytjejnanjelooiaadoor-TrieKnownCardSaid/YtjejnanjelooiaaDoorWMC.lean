/-
  TR14, WK, LO, LA, LH, TK1, TK2, LK, in one text.
-/
import Derived.Test.YtjejnanjelooiaaDoorWMB
import Derived.Test.YtjejnanjelooiaaDoorWSkRg
import Derived.Test.YtjejnanjelooiaaDoorWAm24
import Derived.Test.YtjejnanjelooiaaDoorWAm21
import Derived.Test.YtjejnanjelooiaaDoorWQwTab
import Derived.KernelRfl
import Derived.Test.YtjejnanjelooiaaDoorWAm33
import Derived.Test.YtjejnanjelooiaaDoorWAm36
/-
  Lists of what is told: the rounds of 'all' and 'under'.
-/
namespace Go.Am
open Go.Proofs

set_option maxRecDepth 100000
theorem ne_a (n : Nat) : ¬ n = n + 1 + 1 := by omega
theorem ne_b (n : Nat) : ¬ n = n + 1 + 1 + 1 := by omega
theorem ne_c (n : Nat) : ¬ n = n + 1 + 1 + 1 + 1 := by omega
theorem ne_d (n : Nat) : ¬ n = n + 1 + 1 + 1 + 1 + 1 := by omega
theorem eqV_fn (f : Fn) (a b : List V) : eqV .func (.func f a b) .nilfunc = some false := rfl
/-- What was told so far stands in a list that grows, in the box 'ob'. -/
def outJ (h3 : H) (ob : Nat) (r0 : LoopV) (pre : List (Pfx × Int)) (h : H) : Prop :=
  h.WF ∧ h3.next + 2 ≤ h.next ∧ (∀ j, j < h3.next → j ≠ ob → h.get j = h3.get j) ∧ h.get h3.next = some (.defo true) ∧ h.get (h3.next + 1) = some (.loopo r0) ∧ ∃ ov, h.get ob = some (.row [ov]) ∧ Gl h (h3.next + 2) 5 ov (pre.map pairC)
theorem pairC_len (x : Pfx × Int) : (pairC x).length = 5 := rfl
theorem pairC_all (l : List (Pfx × Int)) : ∀ e ∈ l.map pairC, e.length = 5 := fun e he => by
  obtain ⟨x, _, rfl⟩ := List.mem_map.1 he; rfl
theorem pair_ids : ∀ l : List (Pfx × Int), V.idss (l.map pairC).flatten = []
  | [] => rfl
  | x :: l => by
    simp [pairC, V.idss, V.ids, pair_ids l]
theorem outJ_sat {h3 : H} {ob : Nat} {r0 : LoopV} (hob : ob < h3.next) (w : h3.WF) (pre : List (Pfx × Int)) : ∃ h, outJ h3 ob r0 pre h := by
  obtain ⟨H0, hH0⟩ : ∃ H0, H0 = (h3.push (.defo true)).push (.loopo r0) := ⟨_, rfl⟩
  have n0 : H0.next = h3.next + 2 := by rw [hH0]; simp
  have w0 : H0.WF := by rw [hH0]; exact (w.push _).push _
  have k0 : ∀ j, j < h3.next → H0.get j = h3.get j := fun j hj => by rw [hH0]; simp [show ¬ j = h3.next by omega, show ¬ j = h3.next + 1 by omega]
  have d0 : H0.get h3.next = some (.defo true) := by rw [hH0]; simp
  have l0 : H0.get (h3.next + 1) = some (.loopo r0) := by rw [hH0]; simp
  cases pre with
  | nil =>
    refine ⟨H0.set ob (.row [.nilsl]), w0.set (by omega) _, by simp; omega, fun j hj hn => by rw [H.get_set, if_neg hn, k0 j hj], by rw [H.get_set, if_neg (by omega), d0], by rw [H.get_set, if_neg (by omega), l0], .nilsl, by simp, .inl ⟨rfl, rfl⟩⟩
  | cons x l =>
    refine ⟨(H0.push (.grow 5 (((x :: l).map pairC).flatten))).set ob (.row [.sl H0.next (((x :: l).map pairC).flatten).length 0 ((x :: l).map pairC).length none]), (w0.push _).set (by simp; omega) _, by simp; omega, fun j hj hn => by rw [H.get_set, if_neg hn, H.get_push, if_neg (by omega), k0 j hj],
      by rw [H.get_set, if_neg (by omega), H.get_push, if_neg (by omega), d0], by rw [H.get_set, if_neg (by omega), H.get_push, if_neg (by omega), l0], _, by rw [H.get_set, if_pos rfl], .inr ⟨by simp, H0.next, by omega, by simp, rfl, by rw [H.get_set, if_neg (by omega), H.get_push, if_pos rfl]⟩⟩
theorem outJ_mono {h3 : H} {ob : Nat} {r0 : LoopV} (hob : ob < h3.next) {pre : List (Pfx × Int)} {h h' : H} (j : outJ h3 ob r0 pre h) (g : Ge h h') (w : h'.WF) : outJ h3 ob r0 pre h' := by
  obtain ⟨a, b, c, d, e, ov, f, gl⟩ := j
  refine ⟨w, Nat.le_trans b g.1, fun j hj hn => (g.2 j (by omega)).trans (c j hj hn), (g.2 _ (by omega)).trans d, (g.2 _ (by omega)).trans e, ov, (g.2 _ (by omega)).trans f, gl.keep g.1 fun i hi => g.2 i (gl.lo i hi).2⟩
/-- The list's end: a fresh one. -/
theorem outJ_end {h3 : H} {ob : Nat} {r0 : LoopV} {l : List (Pfx × Int)} {h : H} (j : outJ h3 ob r0 l h) : ∃ ov, h.get ob = some (.row [ov]) ∧ ((ov = .nilsl ∧ (l.map pairC).flatten = []) ∨ ((l.map pairC).flatten ≠ [] ∧ ∃ j, ov = .sl j (l.map pairC).flatten.length 0 l.length none ∧ h3.next + 2 ≤ j ∧ j < h.next ∧ h.get j = some (.grow 5 (l.map pairC).flatten))) := by
  obtain ⟨a, b, c, d, e, ov, f, gl⟩ := j
  refine ⟨ov, f, ?_⟩
  rcases gl with ⟨e1, e2⟩ | ⟨e1, j, j1, j2, j3, j4⟩
  · exact .inl ⟨e2, by rw [e1]; rfl⟩
  · refine .inr ⟨fun e0 => e1 ?_, j, by simpa using j3, j1, j2, j4⟩
    cases l with
    | nil => rfl
    | cons x l => simp [pairC] at e0

theorem all_round {h3 : H} {ob nb : Nat} {r0 : LoopV} {n : Nat} (hwf3 : h3.WF) (hob : ob < h3.next) (hnb : h3.get nb = some (.row [.int .i64 (n : Nat)])) (hne : nb ≠ ob) (hn : n < 1000000000) (hst : r0.st = .ready) (hpd : r0.pending = none) (has : r0.assign = S.Hlaw03_all_as) (hbd : r0.body = S.Hlaw03_all_bd)
    (hps : r0.params = #[16, 17]) (htl : r0.tmps.length = 30) (t5 : r0.tmps[5]? = some (.ptr ob 1 0)) (t3 : r0.tmps[3]? = some (.ptr nb 1 0)) {pre : List (Pfx × Int)} {x : Pfx × Int} {h : H} (hJ : outJ h3 ob r0 pre h) (hl : pre.length + 1 ≤ n) :
    Ayields Tryd.prog (h3.next + 1) [.agg (pfxC x.1), .int .i64 x.2] h fun r h' => r = .bool true ∧ outJ h3 ob r0 (pre ++ [x]) h' := by
  obtain ⟨w, b1, k1, d1, l1, ov, f1, gl⟩ := hJ
  refine ayields_of l1 (ca := S.Hlaw03_all_ca) (cb := S.Hlaw03_all_cb) (by rw [htl, has]; exact S.Hlaw03_all_cas) (by rw [htl, hbd]; exact S.Hlaw03_all_cbd) (by rw [hps]; rfl) (by rw [hps, htl]; simp) ?_
  rw [hps]
  simp only [S.Hlaw03_all_ca, pfxC]
  simp
  obtain ⟨h1, hh1⟩ : ∃ h1, h1 = (h.push (.row [.int .i64 0, .int .u64 0, .str [], .int .i64 0])).set h.next (.row (pfxC x.1)) := ⟨_, rfl⟩
  have n1 : h1.next = h.next + 1 := by rw [hh1]; simp
  have w1 : h1.WF := by rw [hh1]; exact (w.push _).set (by simp) _
  have g1 : Ge h h1 := by rw [hh1]; exact ((Ge.refl _).push _).set (Nat.le_refl _) _
  have p1 : h1.get h.next = some (.row (pfxC x.1)) := by rw [hh1]; simp
  simp only [pfxC] at hh1
  rw [← hh1]
  refine ⟨r0, by rw [if_neg (by omega), if_neg (by omega)]; exact l1, hst, ?_⟩
  obtain ⟨r1, hr1⟩ : ∃ r1 : LoopV, r1 = { r0 with st := .busy, pending := r0.pending } := ⟨_, rfl⟩
  have hr2 : ({ r1 with st := .ready, pending := none } : LoopV) = r0 := by rw [hr1]; cases r0; simp_all
  rw [← hr1]
  obtain ⟨h2, hh2⟩ : ∃ h2, h2 = h1.set (h3.next + 1) (.loopo r1) := ⟨_, rfl⟩
  rw [← hh2]
  have k2 : ∀ j, j ≠ h3.next + 1 → h2.get j = h1.get j := fun j hj => by rw [hh2, H.get_set, if_neg hj]
  have n2 : h2.next = h.next + 1 := by rw [hh2]; simpa using n1
  have w2 : h2.WF := by rw [hh2]; exact w1.set (by omega) _
  have l2 : h2.get (h3.next + 1) = some (.loopo r1) := by rw [hh2]; simp
  have o2 : h2.get ob = some (.row [ov]) := (k2 ob (by omega)).trans ((g1.2 ob (by omega)).trans f1)
  have nblt : nb < h3.next := by
    have := k1 nb
    rcases Nat.lt_or_ge nb h3.next with h | h
    · exact h
    · exfalso
      by_cases e : nb = h3.next
      · have := hwf3 _ (Nat.le_of_eq e.symm); rw [this] at hnb; cases hnb
      · have := hwf3 nb h; rw [this] at hnb; cases hnb
  have nb2 : h2.get nb = some (.row [.int .i64 (n : Nat)]) := (k2 nb (by omega)).trans ((g1.2 nb (by omega)).trans ((k1 nb nblt hne).trans hnb))
  have q2 : h2.get h.next = some (.row (pfxC x.1)) := (k2 h.next (by omega)).trans p1
  have co : cellsAt h2.get ob 1 = some [ov] := by rw [cellsAt_of o2 (by rfl)]; rfl
  have cq : cellsAt h2.get h.next 4 = some (pfxC x.1) := by rw [cellsAt_of q2 (by rfl)]; rfl
  have gl2 : Gl h2 (h3.next + 2) 5 ov (pre.map pairC) := gl.keep (by omega) fun i hi => by
    have := gl.lo i hi
    rw [k2 i (by omega), g1.2 i this.2]
  -- one append
  obtain ⟨h4, hh4⟩ : ∃ h4, h4 = h2.push (.row (pairC x)) := ⟨_, rfl⟩
  have g4 : Ge h2 h4 := by rw [hh4]; exact (Ge.refl _).push _
  have w4 : h4.WF := by rw [hh4]; exact w2.push _
  have n4 : h4.next = h2.next + 1 := by rw [hh4]; simp
  have gl4 : Gl h4 (h3.next + 2) 5 ov (pre.map pairC) := gl2.keep g4.1 fun i hi => g4.2 i (gl2.lo i hi).2
  have el : elemsV h4.get 5 (.sl h2.next 5 0 1 (some 1)) = some (1, pairC x) := by rw [hh4]; simp [elemsV_sl, pairC]
  obtain ⟨ov', dd, A1, A2, A3, A4, A5⟩ := gl4.append (by omega) (pairC_all pre) (pairC_len x) el (by simp [pairC]) (by omega) (bytes := 48) (by simp; omega) (by simp; omega)
  obtain ⟨h5, hh5⟩ : ∃ h5, h5 = h4.app dd := ⟨_, rfl⟩
  rw [← hh5] at A2 A3 A4 A5
  have nov : ∀ j, j < h3.next + 2 → j ∉ ov.ids := fun j hj hm => by have := (gl.lo j hm).1; omega
  have o5 : h5.get ob = some (.row [ov]) := (A4 ob (nov ob (by omega)) (by omega)).trans ((g4.2 ob (by omega)).trans o2)
  have A1' := A1
  have o5' := o5
  rw [hh5] at o5'
  rw [hh4] at A1' o5'
  simp only [H.next_push, pairC] at A1' o5'
  have hov1 := A2.one
  have cov := cells_of_one hov1
  have sov := solid_of_one hov1
  have len2 : lenV 1 h5.get ov' = some (.int .i64 ((pre.length + 1 : Nat) : Int)) := by
    have := (A2.sls (by intro e he; rcases List.mem_append.1 he with he | he; exact pairC_all pre e he; rw [List.mem_singleton] at he; subst he; rfl) (by simp; omega)).len
    simpa using this
  obtain ⟨h6, hh6⟩ : ∃ h6, h6 = h5.set ob (.row [ov']) := ⟨_, rfl⟩
  have o6 : h6.get ob = some (.row [ov']) := by rw [hh6]; simp
  have k6 : ∀ j, j ≠ ob → h6.get j = h5.get j := fun j hj => by rw [hh6, H.get_set, if_neg hj]
  have k5 : ∀ j, j < h3.next + 2 → h5.get j = h2.get j := fun j hj => (A4 j (nov j hj) (by omega)).trans (g4.2 j (by omega))
  have nb6 : h6.get nb = some (.row [.int .i64 (n : Nat)]) := (k6 nb hne).trans ((k5 nb (by omega)).trans nb2)
  have co6 : cellsAt h6.get ob 1 = some [ov'] := by rw [cellsAt_of o6 (by rfl)]; rfl
  have cn6 : cellsAt h6.get nb 1 = some [.int .i64 (n : Nat)] := by rw [cellsAt_of nb6 (by rfl)]; rfl
  have len6 : lenV 1 h6.get ov' = some (.int .i64 ((pre.length + 1 : Nat) : Int)) := by
    rcases A2 with ⟨e, _⟩ | ⟨_, j, _, _, e, _⟩
    · simp at e
    · rw [e] at len2 ⊢; simp
  have nlt : ¬ (n : Int) < ((pre.length + 1 : Nat) : Int) := by omega
  simp only [pfxC] at cq
  simp only [S.Hlaw03_all_cb]
  simp [t5, co, cq, A1', o5', sov, cov]
  simp only [pairC] at hh4
  rw [← hh4, ← hh5, ← hh6]
  have l6 : h6.get (h3.next + 1) = some (.loopo r1) := (k6 _ (by omega)).trans ((k5 _ (by omega)).trans l2)
  have lenI : ((pre.length + 1 : Nat) : Int) = (pre.length : Int) + 1 := by omega
  rw [lenI] at len6 nlt
  simp [t3, cn6, len6, nlt]
  refine ⟨r1, l6, ?_⟩
  rw [hr2]
  have n5 : h4.next ≤ h5.next := A3
  have n6 : h6.next = h5.next := by rw [hh6]; simp
  have w6 : h6.WF := by rw [hh6]; exact (A5 w4).set (by omega) _
  have kk : ∀ j, j < h3.next + 2 → j ≠ ob → j ≠ h3.next + 1 → h6.get j = h.get j := fun j a b c => (k6 j b).trans ((k5 j a).trans ((k2 j c).trans (g1.2 j (by omega))))
  refine ⟨w6.set (by omega) _, by simp; omega, fun j hj hn => ?_, ?_, by simp, ov', ?_, ?_⟩
  · rw [H.get_set, if_neg (by omega), kk j (by omega) hn (by omega), k1 j hj hn]
  · rw [H.get_set, if_neg (by omega), kk _ (by omega) (by omega) (by omega), d1]
  · rw [H.get_set, if_neg (by omega), o6]
  · have A2' : Gl h5 (h3.next + 2) 5 ov' ((pre ++ [x]).map pairC) := by simpa using A2
    exact A2'.keep (by simp; omega) fun i hi => by
      have := (A2'.lo i hi).1
      rw [H.get_set, if_neg (by omega), k6 i (by omega)]

theorem under_round {h3 : H} {ob nb : Nat} {r0 : LoopV} {n : Nat} (hwf3 : h3.WF) (hob : ob < h3.next) (hnb : h3.get nb = some (.row [.int .i64 (n : Nat)])) (hne : nb ≠ ob) (hn : n < 1000000000) (hst : r0.st = .ready) (hpd : r0.pending = none) (has : r0.assign = S.Hlaw03_under_as) (hbd : r0.body = S.Hlaw03_under_bd)
    (hps : r0.params = #[19, 20]) (htl : r0.tmps.length = 33) (t5 : r0.tmps[7]? = some (.ptr ob 1 0)) (t3 : r0.tmps[5]? = some (.ptr nb 1 0)) {pre : List (Pfx × Int)} {x : Pfx × Int} {h : H} (hJ : outJ h3 ob r0 pre h) (hl : pre.length + 1 ≤ n) :
    Ayields Tryd.prog (h3.next + 1) [.agg (pfxC x.1), .int .i64 x.2] h fun r h' => r = .bool true ∧ outJ h3 ob r0 (pre ++ [x]) h' := by
  obtain ⟨w, b1, k1, d1, l1, ov, f1, gl⟩ := hJ
  refine ayields_of l1 (ca := S.Hlaw03_under_ca) (cb := S.Hlaw03_under_cb) (by rw [htl, has]; exact S.Hlaw03_under_cas) (by rw [htl, hbd]; exact S.Hlaw03_under_cbd) (by rw [hps]; rfl) (by rw [hps, htl]; simp) ?_
  rw [hps]
  simp only [S.Hlaw03_under_ca, pfxC]
  simp
  obtain ⟨h1, hh1⟩ : ∃ h1, h1 = (h.push (.row [.int .i64 0, .int .u64 0, .str [], .int .i64 0])).set h.next (.row (pfxC x.1)) := ⟨_, rfl⟩
  have n1 : h1.next = h.next + 1 := by rw [hh1]; simp
  have w1 : h1.WF := by rw [hh1]; exact (w.push _).set (by simp) _
  have g1 : Ge h h1 := by rw [hh1]; exact ((Ge.refl _).push _).set (Nat.le_refl _) _
  have p1 : h1.get h.next = some (.row (pfxC x.1)) := by rw [hh1]; simp
  simp only [pfxC] at hh1
  rw [← hh1]
  refine ⟨r0, by rw [if_neg (by omega), if_neg (by omega)]; exact l1, hst, ?_⟩
  obtain ⟨r1, hr1⟩ : ∃ r1 : LoopV, r1 = { r0 with st := .busy, pending := r0.pending } := ⟨_, rfl⟩
  have hr2 : ({ r1 with st := .ready, pending := none } : LoopV) = r0 := by rw [hr1]; cases r0; simp_all
  rw [← hr1]
  obtain ⟨h2, hh2⟩ : ∃ h2, h2 = h1.set (h3.next + 1) (.loopo r1) := ⟨_, rfl⟩
  rw [← hh2]
  have k2 : ∀ j, j ≠ h3.next + 1 → h2.get j = h1.get j := fun j hj => by rw [hh2, H.get_set, if_neg hj]
  have n2 : h2.next = h.next + 1 := by rw [hh2]; simpa using n1
  have w2 : h2.WF := by rw [hh2]; exact w1.set (by omega) _
  have l2 : h2.get (h3.next + 1) = some (.loopo r1) := by rw [hh2]; simp
  have o2 : h2.get ob = some (.row [ov]) := (k2 ob (by omega)).trans ((g1.2 ob (by omega)).trans f1)
  have nblt : nb < h3.next := by
    have := k1 nb
    rcases Nat.lt_or_ge nb h3.next with h | h
    · exact h
    · exfalso
      by_cases e : nb = h3.next
      · have := hwf3 _ (Nat.le_of_eq e.symm); rw [this] at hnb; cases hnb
      · have := hwf3 nb h; rw [this] at hnb; cases hnb
  have nb2 : h2.get nb = some (.row [.int .i64 (n : Nat)]) := (k2 nb (by omega)).trans ((g1.2 nb (by omega)).trans ((k1 nb nblt hne).trans hnb))
  have q2 : h2.get h.next = some (.row (pfxC x.1)) := (k2 h.next (by omega)).trans p1
  have co : cellsAt h2.get ob 1 = some [ov] := by rw [cellsAt_of o2 (by rfl)]; rfl
  have cq : cellsAt h2.get h.next 4 = some (pfxC x.1) := by rw [cellsAt_of q2 (by rfl)]; rfl
  have gl2 : Gl h2 (h3.next + 2) 5 ov (pre.map pairC) := gl.keep (by omega) fun i hi => by
    have := gl.lo i hi
    rw [k2 i (by omega), g1.2 i this.2]
  -- one append
  obtain ⟨h4, hh4⟩ : ∃ h4, h4 = h2.push (.row (pairC x)) := ⟨_, rfl⟩
  have g4 : Ge h2 h4 := by rw [hh4]; exact (Ge.refl _).push _
  have w4 : h4.WF := by rw [hh4]; exact w2.push _
  have n4 : h4.next = h2.next + 1 := by rw [hh4]; simp
  have gl4 : Gl h4 (h3.next + 2) 5 ov (pre.map pairC) := gl2.keep g4.1 fun i hi => g4.2 i (gl2.lo i hi).2
  have el : elemsV h4.get 5 (.sl h2.next 5 0 1 (some 1)) = some (1, pairC x) := by rw [hh4]; simp [elemsV_sl, pairC]
  obtain ⟨ov', dd, A1, A2, A3, A4, A5⟩ := gl4.append (by omega) (pairC_all pre) (pairC_len x) el (by simp [pairC]) (by omega) (bytes := 48) (by simp; omega) (by simp; omega)
  obtain ⟨h5, hh5⟩ : ∃ h5, h5 = h4.app dd := ⟨_, rfl⟩
  rw [← hh5] at A2 A3 A4 A5
  have nov : ∀ j, j < h3.next + 2 → j ∉ ov.ids := fun j hj hm => by have := (gl.lo j hm).1; omega
  have o5 : h5.get ob = some (.row [ov]) := (A4 ob (nov ob (by omega)) (by omega)).trans ((g4.2 ob (by omega)).trans o2)
  have A1' := A1
  have o5' := o5
  rw [hh5] at o5'
  rw [hh4] at A1' o5'
  simp only [H.next_push, pairC] at A1' o5'
  have hov1 := A2.one
  have cov := cells_of_one hov1
  have sov := solid_of_one hov1
  have len2 : lenV 1 h5.get ov' = some (.int .i64 ((pre.length + 1 : Nat) : Int)) := by
    have := (A2.sls (by intro e he; rcases List.mem_append.1 he with he | he; exact pairC_all pre e he; rw [List.mem_singleton] at he; subst he; rfl) (by simp; omega)).len
    simpa using this
  obtain ⟨h6, hh6⟩ : ∃ h6, h6 = h5.set ob (.row [ov']) := ⟨_, rfl⟩
  have o6 : h6.get ob = some (.row [ov']) := by rw [hh6]; simp
  have k6 : ∀ j, j ≠ ob → h6.get j = h5.get j := fun j hj => by rw [hh6, H.get_set, if_neg hj]
  have k5 : ∀ j, j < h3.next + 2 → h5.get j = h2.get j := fun j hj => (A4 j (nov j hj) (by omega)).trans (g4.2 j (by omega))
  have nb6 : h6.get nb = some (.row [.int .i64 (n : Nat)]) := (k6 nb hne).trans ((k5 nb (by omega)).trans nb2)
  have co6 : cellsAt h6.get ob 1 = some [ov'] := by rw [cellsAt_of o6 (by rfl)]; rfl
  have cn6 : cellsAt h6.get nb 1 = some [.int .i64 (n : Nat)] := by rw [cellsAt_of nb6 (by rfl)]; rfl
  have len6 : lenV 1 h6.get ov' = some (.int .i64 ((pre.length + 1 : Nat) : Int)) := by
    rcases A2 with ⟨e, _⟩ | ⟨_, j, _, _, e, _⟩
    · simp at e
    · rw [e] at len2 ⊢; simp
  have nlt : ¬ (n : Int) < ((pre.length + 1 : Nat) : Int) := by omega
  simp only [pfxC] at cq
  simp only [S.Hlaw03_under_cb]
  simp [t5, co, cq, A1', o5', sov, cov]
  simp only [pairC] at hh4
  rw [← hh4, ← hh5, ← hh6]
  have l6 : h6.get (h3.next + 1) = some (.loopo r1) := (k6 _ (by omega)).trans ((k5 _ (by omega)).trans l2)
  have lenI : ((pre.length + 1 : Nat) : Int) = (pre.length : Int) + 1 := by omega
  rw [lenI] at len6 nlt
  simp [t3, cn6, len6, nlt]
  refine ⟨r1, l6, ?_⟩
  rw [hr2]
  have n5 : h4.next ≤ h5.next := A3
  have n6 : h6.next = h5.next := by rw [hh6]; simp
  have w6 : h6.WF := by rw [hh6]; exact (A5 w4).set (by omega) _
  have kk : ∀ j, j < h3.next + 2 → j ≠ ob → j ≠ h3.next + 1 → h6.get j = h.get j := fun j a b c => (k6 j b).trans ((k5 j a).trans ((k2 j c).trans (g1.2 j (by omega))))
  refine ⟨w6.set (by omega) _, by simp; omega, fun j hj hn => ?_, ?_, by simp, ov', ?_, ?_⟩
  · rw [H.get_set, if_neg (by omega), kk j (by omega) hn (by omega), k1 j hj hn]
  · rw [H.get_set, if_neg (by omega), kk _ (by omega) (by omega) (by omega), d1]
  · rw [H.get_set, if_neg (by omega), o6]
  · have A2' : Gl h5 (h3.next + 2) 5 ov' ((pre ++ [x]).map pairC) := by simpa using A2
    exact A2'.keep (by simp; omega) fun i hi => by
      have := (A2'.lo i hi).1
      rw [H.get_set, if_neg (by omega), k6 i (by omega)]

theorem all_iter {h : H} {i : Nat} {Q : V → H → Prop} (q : h.WF → Q (.func (.func 57) [] [.ptr h.next 1 0]) (h.push (.row [.ptr i 3 0]))) : Acalls Tryd.prog 38 [.ptr i 3 0] h Q := by
  refine acalls_to Tryd.func38 S.trie_Trie_int_All_code S.trie_Trie_int_All_enter (Nat.le_of_ble_eq_true rfl) fun wf => ?_; simp only [S.trie_Trie_int_All]
  simp
  exact q wf
theorem all_loop {h3 : H} {i : Nat} {rs : List Rt} {m : Nat} {ns : List Nat} {n : Nat} (t : Tm) (w3 : h3.WF) (o : RsOk rs) (ta : TrieAt h3 i rs m ns) {ob nb tb : Nat} (nsn : ∀ j ∈ ns, j < h3.next ∧ j ≠ ob) (hb : rs.length ≤ 1000000) (hn : n < 1000000000) (hl : (rsPairs rs).length ≤ n)
    (hob : ob < h3.next) (ob3 : h3.get ob = some (.row [.nilsl])) (nb3 : h3.get nb = some (.row [.int .i64 (n : Nat)])) (hne : nb ≠ ob) (tb3 : h3.get tb = some (.row [.ptr i 3 0])) (htb : tb < h3.next ∧ tb ≠ ob) (t5 : t 5 = .ptr ob 1 0) (t3 : t 3 = .ptr nb 1 0) :
    Acalls Tryd.prog 57 [.yl (h3.next + 1), .ptr tb 1 0] (loopH 30 t #[16, 17] S.Hlaw03_all_as S.Hlaw03_all_bd h3) fun r h2 => r = .tup [] ∧
      outJ h3 ob ⟨.ready, none, (List.range 30).map t, #[16, 17], S.Hlaw03_all_as, S.Hlaw03_all_bd, h3.next⟩ (rsPairs rs) h2 := by
  obtain ⟨r0, hr0⟩ : ∃ r0 : LoopV, r0 = ⟨.ready, none, (List.range 30).map t, #[16, 17], S.Hlaw03_all_as, S.Hlaw03_all_bd, h3.next⟩ := ⟨_, rfl⟩
  have J0 : outJ h3 ob r0 [] (loopH 30 t #[16, 17] S.Hlaw03_all_as S.Hlaw03_all_bd h3) := by
    have e1 : ¬ ob = h3.next := by omega
    have e2 : ¬ ob = h3.next + 1 := by omega
    refine ⟨(w3.push _).push _, by simp [loopH], fun j hj hn => ?_, by simp [loopH], by simp [loopH, hr0], .nilsl, by simp [loopH, e1, e2, ob3], .inl ⟨rfl, rfl⟩⟩
    simp [loopH, show ¬ j = h3.next by omega, show ¬ j = h3.next + 1 by omega]
  rw [← hr0]
  have tl : Telling (h3.next + 1) 59 [] h3 ns (rsPairs rs) (outJ h3 ob r0) := by
    refine ⟨fun pre _ => outJ_sat hob w3 pre, fun pre h hj => hj.1, fun pre h hj j hjn => hj.2.2.1 j (nsn j hjn).1 (nsn j hjn).2, fun pre h h' hj g w => outJ_mono hob hj g w, fun pre x h hj hpre => ?_⟩
    refine all_round w3 hob nb3 hne hn (by rw [hr0]) (by rw [hr0]) (by rw [hr0]) (by rw [hr0]) (by rw [hr0]) (by rw [hr0]; simp) (by rw [hr0]; simp [t5]) (by rw [hr0]; simp [t3]) hj ?_
    have := hpre.length_le
    simp at this
    omega
  exact all1_ct tl o ta hb rfl (fun pre h hj => (hj.2.2.1 tb htb.1 htb.2).trans tb3) J0
theorem all_ct {h : H} {i : Nat} {rs : List Rt} {m : Nat} {ns : List Nat} (o : RsOk rs) (ta : TrieAt h i rs m ns) (hb : rs.length ≤ 1000000) {n : Nat} (hn : n < 1000000000) (hl : (rsPairs rs).length ≤ n) {Q : V → H → Prop}
    (q1 : ((rsPairs rs).map pairC).flatten = [] → Q .nilsl h) (q2 : ((rsPairs rs).map pairC).flatten ≠ [] → Q (.sl h.next ((rsPairs rs).map pairC).flatten.length 0 (rsPairs rs).length none) (h.push (.grow 5 ((rsPairs rs).map pairC).flatten))) :
    Acalls Tryd.prog 16 [.ptr i 3 0, .int .i64 (n : Nat)] h Q := by
  obtain ⟨cells, hcells⟩ : ∃ cells, cells = ((rsPairs rs).map pairC).flatten := ⟨_, rfl⟩
  obtain ⟨len, hlen⟩ : ∃ len, len = (rsPairs rs).length := ⟨_, rfl⟩
  have hids : V.idss cells = [] := by rw [hcells]; exact pair_ids _
  simp only [← hcells, ← hlen] at q1 q2
  refine Acalls.fresh (sz := 5) (len := len) (cells := cells) ?_ hids q1 q2
  refine acalls_range_to Tryd.func16 S.Hlaw03_all_rcode S.Hlaw03_all_enter (Nat.le_of_ble_eq_true rfl) fun wf => ?_
  have tlt := ta.lt wf
  simp only [S.Hlaw03_all_r]
  simp [ne_b, ne_c, ne_d]
  refine all_iter fun wf3 => ?_
  simp [eqV_fn, ne_d]
  obtain ⟨h3, hh3⟩ : ∃ h3, h3 = (((h.push (.row [.int .i64 (n : Nat)])).push (.row [.nilsl])).push (.row [.nilsl])).push (.row [.ptr i 3 0]) := ⟨_, rfl⟩
  rw [← hh3]
  have w3 : h3.WF := by rw [hh3]; exact (((wf.push _).push _).push _).push _
  have n3 : h3.next = h.next + 4 := by rw [hh3]; simp
  have g3 : Ge h h3 := by rw [hh3]; exact ((((Ge.refl _).push _).push _).push _).push _
  have ob3 : h3.get (h.next + 1 + 1) = some (.row [.nilsl]) := by rw [hh3]; simp
  have nb3 : h3.get (h.next + 0) = some (.row [.int .i64 (n : Nat)]) := by rw [hh3]; simp [ne_a, ne_b]
  have rs3 : h3.get (h.next + 1) = some (.row [.nilsl]) := by rw [hh3]; simp
  have tb3 : h3.get (h.next + 1 + 1 + 1) = some (.row [.ptr i 3 0]) := by rw [hh3]; simp
  skip
  refine rfor_of _ ?_
  have nsn : ∀ j ∈ ns, j < h3.next ∧ j ≠ h.next + 1 + 1 := fun j hj => by have := tlt j hj; omega
  refine Acalls.mono (all_loop (i := i) (rs := rs) (m := m) (ns := ns) (n := n) _ w3 o (ta.keep fun j hj => g3.2 j (tlt j hj)) nsn hb hn hl (ob := h.next + 1 + 1) (nb := h.next + 0) (tb := h.next + 1 + 1 + 1) (by omega) ob3 nb3 (by omega) tb3 (by omega) (by simp) (by simp)) ?_
  rintro _ h2 ⟨rfl, hJ2⟩
  have hJ2' := hJ2
  obtain ⟨w2, b2, k2, d2, l2, _⟩ := hJ2
  refine ⟨by simpa using d2, _, l2, by simp, ?_⟩
  obtain ⟨ov, f2, hov⟩ := outJ_end hJ2'
  rw [← hcells, ← hlen] at hov
  have co : cellsAt h2.get (h.next + 1 + 1) 1 = some [ov] := by rw [cellsAt_of f2 (by rfl)]; rfl
  have ov1 : ov.one = true := by rcases hov with ⟨rfl, _⟩ | ⟨_, j, rfl, _⟩ <;> rfl
  have cov := cells_of_one ov1
  have sov := solid_of_one ov1
  have rs2 : h2.get (h.next + 1) = some (.row [.nilsl]) := (k2 _ (by omega) (by omega)).trans rs3
  have m1 : ¬ h.next + 1 + 1 = h3.next + 1 := by omega
  have m2 : ¬ h.next + 1 = h3.next + 1 := by omega
  have m3 : ¬ h.next + 1 = h3.next := by omega
  have m4 : ¬ h3.next = h.next + 1 := by omega
  have m5 : ¬ h.next = h3.next := by omega
  have m6 : ¬ h.next + 1 = h3.next := by omega
  have m7 : ¬ h.next + 1 + 1 = h3.next := by omega
  have m8 : ¬ h3.next = h.next := by omega
  have m9 : ¬ h3.next = h.next + 1 := by omega
  have d2' : h2.get h3.next = some (.defo true) := d2
  simp [co, rs2, m3, m4, m5, sov, cov, d2', ne_a, ne_c, ne_d]
  refine ⟨⟨by simp only [H.next_set]; omega, fun j hj => ?_⟩, ?_⟩
  · rw [H.get_set, if_neg (by omega), H.get_set, if_neg (by omega), H.get_set, if_neg (by omega), k2 j (by omega) (by omega), g3.2 j hj]
  · rcases hov with ⟨e1, e2⟩ | ⟨e1, j, e2, e3, e4, e5⟩
    · exact .inl ⟨e1, e2⟩
    · exact .inr ⟨e1, j, e2, by omega, by rw [if_neg (by omega), if_neg (by omega), if_neg (by omega)]; exact e5⟩

theorem under_iter {h : H} {i : Nat} {p : Pfx} {Q : V → H → Prop} (q : h.WF → Q (.func (.func 63) [] [.ptr h.next 1 0, .ptr (h.next + 1) 4 0]) ((h.push (.row [.ptr i 3 0])).push (.row (pfxC p)))) : Acalls Tryd.prog 47 [.ptr i 3 0, .agg (pfxC p)] h Q := by
  refine acalls_to Tryd.func47 S.trie_Trie_int_Under_code S.trie_Trie_int_Under_enter (Nat.le_of_ble_eq_true rfl) fun wf => ?_; simp only [S.trie_Trie_int_Under]
  simp only [pfxC] at q ⊢
  simp
  exact q wf
theorem under_loop {h3 : H} {i : Nat} {rs : List Rt} {m : Nat} {ns : List Nat} {n : Nat} (t : Tm) (w3 : h3.WF) (o : RsOk rs) (ta : TrieAt h3 i rs m ns) {ob nb tb pb : Nat} (nsn : ∀ j ∈ ns, j < h3.next ∧ j ≠ ob) (hb : rs.length ≤ 1000000) (hn : n < 1000000000) {p : Pfx} (hl : (tunder rs p).length ≤ n)
    (pb3 : h3.get pb = some (.row (pfxC p))) (hpb : pb < h3.next ∧ pb ≠ ob) (hob : ob < h3.next) (ob3 : h3.get ob = some (.row [.nilsl])) (nb3 : h3.get nb = some (.row [.int .i64 (n : Nat)])) (hne : nb ≠ ob) (tb3 : h3.get tb = some (.row [.ptr i 3 0])) (htb : tb < h3.next ∧ tb ≠ ob) (t5 : t 7 = .ptr ob 1 0) (t3 : t 5 = .ptr nb 1 0) :
    Acalls Tryd.prog 63 [.yl (h3.next + 1), .ptr tb 1 0, .ptr pb 4 0] (loopH 33 t #[19, 20] S.Hlaw03_under_as S.Hlaw03_under_bd h3) fun r h2 => r = .tup [] ∧
      outJ h3 ob ⟨.ready, none, (List.range 33).map t, #[19, 20], S.Hlaw03_under_as, S.Hlaw03_under_bd, h3.next⟩ (tunder rs p) h2 := by
  obtain ⟨r0, hr0⟩ : ∃ r0 : LoopV, r0 = ⟨.ready, none, (List.range 33).map t, #[19, 20], S.Hlaw03_under_as, S.Hlaw03_under_bd, h3.next⟩ := ⟨_, rfl⟩
  have J0 : outJ h3 ob r0 [] (loopH 33 t #[19, 20] S.Hlaw03_under_as S.Hlaw03_under_bd h3) := by
    have e1 : ¬ ob = h3.next := by omega
    have e2 : ¬ ob = h3.next + 1 := by omega
    refine ⟨(w3.push _).push _, by simp [loopH], fun j hj hn => ?_, by simp [loopH], by simp [loopH, hr0], .nilsl, by simp [loopH, e1, e2, ob3], .inl ⟨rfl, rfl⟩⟩
    simp [loopH, show ¬ j = h3.next by omega, show ¬ j = h3.next + 1 by omega]
  rw [← hr0]
  have tl : Telling (h3.next + 1) 64 [.ptr pb 4 0] h3 ns (tunder rs p) (outJ h3 ob r0) := by
    refine ⟨fun pre _ => outJ_sat hob w3 pre, fun pre h hj => hj.1, fun pre h hj j hjn => hj.2.2.1 j (nsn j hjn).1 (nsn j hjn).2, fun pre h h' hj g w => outJ_mono hob hj g w, fun pre x h hj hpre => ?_⟩
    refine under_round w3 hob nb3 hne hn (by rw [hr0]) (by rw [hr0]) (by rw [hr0]) (by rw [hr0]) (by rw [hr0]) (by rw [hr0]; simp) (by rw [hr0]; simp [t5]) (by rw [hr0]; simp [t3]) hj ?_
    have := hpre.length_le
    simp at this
    omega
  exact under1_ct tl o ta hb rfl (fun pre h hj => (hj.2.2.1 tb htb.1 htb.2).trans tb3) (fun pre h hj => (hj.2.2.1 pb hpb.1 hpb.2).trans pb3) J0
theorem under_ct {h : H} {i : Nat} {rs : List Rt} {m : Nat} {ns : List Nat} (o : RsOk rs) (ta : TrieAt h i rs m ns) (hb : rs.length ≤ 1000000) {p : Pfx} {n : Nat} (hn : n < 1000000000) (hl : (tunder rs p).length ≤ n) {Q : V → H → Prop}
    (q1 : ((tunder rs p).map pairC).flatten = [] → Q .nilsl h) (q2 : ((tunder rs p).map pairC).flatten ≠ [] → Q (.sl h.next ((tunder rs p).map pairC).flatten.length 0 (tunder rs p).length none) (h.push (.grow 5 ((tunder rs p).map pairC).flatten))) :
    Acalls Tryd.prog 19 [.ptr i 3 0, .agg (pfxC p), .int .i64 (n : Nat)] h Q := by
  obtain ⟨cells, hcells⟩ : ∃ cells, cells = ((tunder rs p).map pairC).flatten := ⟨_, rfl⟩
  obtain ⟨len, hlen⟩ : ∃ len, len = (tunder rs p).length := ⟨_, rfl⟩
  have hids : V.idss cells = [] := by rw [hcells]; exact pair_ids _
  simp only [← hcells, ← hlen] at q1 q2
  refine Acalls.fresh (sz := 5) (len := len) (cells := cells) ?_ hids q1 q2
  refine acalls_range_to Tryd.func19 S.Hlaw03_under_rcode S.Hlaw03_under_enter (Nat.le_of_ble_eq_true rfl) fun wf => ?_
  have tlt := ta.lt wf
  simp only [S.Hlaw03_under_r, pfxC]
  simp [ne_a, ne_b, ne_c, ne_d]
  refine under_iter (p := p) fun wf3 => ?_
  simp [eqV_fn]
  obtain ⟨h3, hh3⟩ : ∃ h3, h3 = (((((h.push (.row [.int .i64 p.fam, .int .u64 (p.rd : Nat), .str p.addr, .int .i64 p.len])).push (.row [.int .i64 (n : Nat)])).push (.row [.nilsl])).push (.row [.nilsl])).push (.row [.ptr i 3 0])).push (.row (pfxC p)) := ⟨_, rfl⟩
  rw [← hh3]
  have w3 : h3.WF := by rw [hh3]; exact (((((wf.push _).push _).push _).push _).push _).push _
  have n3 : h3.next = h.next + 6 := by rw [hh3]; simp
  have g3 : Ge h h3 := by rw [hh3]; exact ((((((Ge.refl _).push _).push _).push _).push _).push _).push _
  have ob3 : h3.get (h.next + 1 + 1 + 1) = some (.row [.nilsl]) := by rw [hh3]; simp [ne_a]
  have nb3 : h3.get (h.next + 1) = some (.row [.int .i64 (n : Nat)]) := by rw [hh3]; simp
  have rs3 : h3.get (h.next + 1 + 1) = some (.row [.nilsl]) := by rw [hh3]; simp [ne_a, ne_b]
  have tb3 : h3.get (h.next + 1 + 1 + 1 + 1) = some (.row [.ptr i 3 0]) := by rw [hh3]; simp
  have pb3 : h3.get (h.next + 1 + 1 + 1 + 1 + 1) = some (.row (pfxC p)) := by rw [hh3]; simp [pfxC]
  refine rfor_of _ ?_
  have nsn : ∀ j ∈ ns, j < h3.next ∧ j ≠ h.next + 1 + 1 + 1 := fun j hj => by have := tlt j hj; omega
  refine Acalls.mono (under_loop (i := i) (rs := rs) (m := m) (ns := ns) (n := n) _ w3 o (ta.keep fun j hj => g3.2 j (tlt j hj)) nsn hb hn hl (ob := h.next + 1 + 1 + 1) (nb := h.next + 1) (tb := h.next + 1 + 1 + 1 + 1) (pb := h.next + 1 + 1 + 1 + 1 + 1) pb3 (by omega) (by omega) ob3 nb3 (by omega) tb3 (by omega) (by simp) (by simp)) ?_
  rintro _ h2 ⟨rfl, hJ2⟩
  have hJ2' := hJ2
  obtain ⟨w2, b2, k2, d2, l2, _⟩ := hJ2
  refine ⟨by simpa using d2, _, l2, by simp, ?_⟩
  obtain ⟨ov, f2, hov⟩ := outJ_end hJ2'
  rw [← hcells, ← hlen] at hov
  have co : cellsAt h2.get (h.next + 1 + 1 + 1) 1 = some [ov] := by rw [cellsAt_of f2 (by rfl)]; rfl
  have ov1 : ov.one = true := by rcases hov with ⟨rfl, _⟩ | ⟨_, j, rfl, _⟩ <;> rfl
  have cov := cells_of_one ov1
  have sov := solid_of_one ov1
  have rs2 : h2.get (h.next + 1 + 1) = some (.row [.nilsl]) := (k2 _ (by omega) (by omega)).trans rs3
  have m1 : ¬ h.next + 1 + 1 + 1 = h3.next + 1 := by omega
  have m2 : ¬ h.next + 1 + 1 = h3.next + 1 := by omega
  have m3 : ¬ h.next + 1 + 1 = h3.next := by omega
  have m4 : ¬ h3.next = h.next + 1 + 1 := by omega
  have m5 : ¬ h.next = h3.next := by omega
  have m6 : ¬ h.next + 1 = h3.next := by omega
  have m7 : ¬ h.next + 1 + 1 = h3.next := by omega
  have m8 : ¬ h3.next = h.next := by omega
  have m9 : ¬ h3.next = h.next + 1 := by omega
  have d2' : h2.get h3.next = some (.defo true) := d2
  simp [co, rs2, m3, m4, m6, sov, cov, d2', ne_a, ne_c, ne_d]
  refine ⟨⟨by simp only [H.next_set]; omega, fun j hj => ?_⟩, ?_⟩
  · rw [H.get_set, if_neg (by omega), H.get_set, if_neg (by omega), H.get_set, if_neg (by omega), k2 j (by omega) (by omega), g3.2 j hj]
  · rcases hov with ⟨e1, e2⟩ | ⟨e1, j, e2, e3, e4, e5⟩
    · exact .inl ⟨e1, e2⟩
    · exact .inr ⟨e1, j, e2, by omega, by rw [if_neg (by omega), if_neg (by omega), if_neg (by omega)]; exact e5⟩
end Go.Am

/-
  'works' answers true, by a run of its code.
-/
namespace Go.Am
open Go.Proofs
theorem works_run : saysTrue (Fr.runF8 Fr.q.tab 100000 60 15 [] ⟨0, .nil⟩) = true := by kernel_rfl
theorem works_ct (h : H) : Pure Tryd.prog 15 [] h (.bool true) := pure_true8 Fr.q.tab_ok works_run h
end Go.Am

/-
  Prefixes of small numbers: 'of'.
-/
namespace Go.Am
open Go.Proofs

set_option maxRecDepth 100000
structure Sp where
  fam : Nat
  a : Nat
  len : Nat
  v : Int
  deriving DecidableEq
structure SpOk (s : Sp) : Prop where
  fam : s.fam < 256
  a : s.a < 256
  len : s.len < 256
  v : -32768 ≤ s.v ∧ s.v ≤ 32767
end Go.Am

/-
  Small numbers and acts among the arguments.
-/
namespace Go.Am
open Go.Proofs

end Go.Am

/-
  The trie's contracts, as the laws use them.
-/
namespace Go.Am
open Go.Proofs

set_option maxRecDepth 100000
theorem TTurned.self {h : H} {i : Nat} {rs : List Rt} {n : Nat} {ns : List Nat} (a : TrieAt h i rs n ns) (w : h.WF) : TTurned ns h i rs n h := ⟨⟨ns, a, fun _ h => .inl h⟩, Out.refl _ _, w⟩
theorem TTurned.later {ns : List Nat} {hb h h' : H} {i : Nat} {rs : List Rt} {n : Nat} (t : TTurned ns hb i rs n h) (g : Ge h h') (w : h'.WF) : TTurned ns hb i rs n h' := by
  obtain ⟨⟨ms, a, b⟩, c, d⟩ := t
  exact ⟨⟨ms, a.keep fun j hj => g.2 j (a.lt d j hj), b⟩, ⟨Nat.le_trans c.next g.1, fun j hj hn => (g.2 j (Nat.lt_of_lt_of_le hj c.next)).trans (c.keep j hj hn)⟩, w⟩
theorem TTurned.set_ct {ns : List Nat} {hb h : H} {i : Nat} {rs : List Rt} (t : TTurned ns hb i rs (rsPairs rs).length h) (o : RsOk rs) (b : rs.length < 1000000) (bn : (rsPairs rs).length < 1000000000) {p : Pfx} (hp : mayP p = true) (x : Int) :
    Acalls Tryd.prog 9 [.ptr i 3 0, .agg (pfxC p), .int .i64 x] h fun u h' => u = .int .i64 0 ∧ TTurned ns hb i (tset rs p x) (rsPairs (tset rs p x)).length h' := by
  obtain ⟨⟨ms, a, hs⟩, c, d⟩ := t
  refine Acalls.mono (tset_ct o a b bn hp x) ?_
  rintro u h' ⟨rfl, q⟩
  refine ⟨rfl, ?_⟩
  rw [tset_len]
  exact TTurned.up (Ge.refl _) c hs q
theorem TTurned.del_ct {ns : List Nat} {hb h : H} {i : Nat} {rs : List Rt} (t : TTurned ns hb i rs (rsPairs rs).length h) (o : RsOk rs) (b : rs.length ≤ 1000000) (bn : (rsPairs rs).length < 1000000000) {p : Pfx} (hp : mayP p = true) :
    Acalls Tryd.prog 20 [.ptr i 3 0, .agg (pfxC p)] h fun u h' => u = .bool (tget rs p).isSome ∧ TTurned ns hb i (tdel rs p) (rsPairs (tdel rs p)).length h' := by
  obtain ⟨⟨ms, a, hs⟩, c, d⟩ := t
  have hl := tdel_len rs p
  have hg := tgone_iff o hp
  refine Acalls.mono (tdel_ct o a b bn hp (fun hx => ?_)) ?_
  · have : tgone rs p = true := hx
    rw [this] at hl; simp at hl; omega
  · rintro u h' ⟨rfl, q⟩
    refine ⟨by rw [← hg]; rfl, ?_⟩
    have e : (rsPairs rs).length - (if (T.del (kOf p) (treeOf p.fam p.rd rs)).2 = true then 1 else 0) = (rsPairs (tdel rs p)).length := by
      show (rsPairs rs).length - (if tgone rs p = true then 1 else 0) = _
      split <;> simp_all
    rw [e] at q
    exact TTurned.up (Ge.refl _) c hs q
theorem gl_fresh {h : H} {l : List (Pfx × Int)} {Q : V → H → Prop} (wf : h.WF) (q : ∀ v h', Ge h h' → h'.WF → Gl h' h.next 5 v (l.map pairC) → Q v h') : ((l.map pairC).flatten = [] → Q .nilsl h) ∧ ((l.map pairC).flatten ≠ [] → Q (.sl h.next (l.map pairC).flatten.length 0 l.length none) (h.push (.grow 5 (l.map pairC).flatten))) := by
  refine ⟨fun e => q _ _ (Ge.refl _) wf (.inl ⟨?_, rfl⟩), fun e => q _ _ ((Ge.refl _).push _) (wf.push _) (.inr ⟨fun e2 => e (by rw [e2]; rfl), h.next, Nat.le_refl _, by simp, by simp, by simp⟩)⟩
  cases l with
  | nil => rfl
  | cons x l => simp [pairC] at e
theorem all_gl {h : H} {i : Nat} {rs : List Rt} {m : Nat} {ns : List Nat} (o : RsOk rs) (ta : TrieAt h i rs m ns) (hb : rs.length ≤ 1000000) {n : Nat} (hn : n < 1000000000) (hl : (rsPairs rs).length ≤ n) {Q : V → H → Prop} (q : ∀ v h', Ge h h' → h'.WF → Gl h' h.next 5 v ((rsPairs rs).map pairC) → Q v h') :
    Acalls Tryd.prog 16 [.ptr i 3 0, .int .i64 (n : Nat)] h Q :=
  Acalls.wf S.Hlaw03_all_enter fun wf => all_ct o ta hb hn hl (gl_fresh wf q).1 (gl_fresh wf q).2
theorem under_gl {h : H} {i : Nat} {rs : List Rt} {m : Nat} {ns : List Nat} (o : RsOk rs) (ta : TrieAt h i rs m ns) (hb : rs.length ≤ 1000000) {p : Pfx} {n : Nat} (hn : n < 1000000000) (hl : (rsPairs rs).length ≤ n) {Q : V → H → Prop} (q : ∀ v h', Ge h h' → h'.WF → Gl h' h.next 5 v (((rsPairs rs).filter fun x => covP p x.1).map pairC) → Q v h') :
    Acalls Tryd.prog 19 [.ptr i 3 0, .agg (pfxC p), .int .i64 (n : Nat)] h Q := by
  refine Acalls.wf S.Hlaw03_under_enter fun wf => ?_
  have e := tunder_eq o p
  rw [← e] at q
  refine under_ct o ta hb hn ?_ (gl_fresh wf q).1 (gl_fresh wf q).2
  rw [e]
  exact Nat.le_trans (List.length_filter_le _ _) hl
end Go.Am

/-
  TrieKnown's parts: texts of prefixes, by runs; the example; nobody's trie.
-/
namespace Go.Am
open Go.Proofs

set_option maxRecDepth 100000
theorem p_no : Fr.KnownOk Tryd.prog [] := fun _ h => by cases h
def xkA : Pfx := ⟨1, 0, [10, 0, 0, 0], 8⟩
theorem pA_run : Fr.plainRun (Fr.runO8 [] Fr.q.tab 100000 60) 28 [.str [118, 52, 32, 49, 48, 46, 48, 46, 48, 46, 48, 47, 56]] = some (.agg (pfxC xkA)) := by kernel_rfl
theorem pA_ct (h : H) : Pure Tryd.prog 28 [.str [118, 52, 32, 49, 48, 46, 48, 46, 48, 46, 48, 47, 56]] h (.agg (pfxC xkA)) := pure_run8 p_no Fr.q.tab_ok pA_run h
def xkB : Pfx := ⟨1, 0, [10, 1, 0, 0], 16⟩
theorem pB_run : Fr.plainRun (Fr.runO8 [] Fr.q.tab 100000 60) 28 [.str [118, 52, 32, 49, 48, 46, 49, 46, 48, 46, 48, 47, 49, 54]] = some (.agg (pfxC xkB)) := by kernel_rfl
theorem pB_ct (h : H) : Pure Tryd.prog 28 [.str [118, 52, 32, 49, 48, 46, 49, 46, 48, 46, 48, 47, 49, 54]] h (.agg (pfxC xkB)) := pure_run8 p_no Fr.q.tab_ok pB_run h
def xkC : Pfx := ⟨4, 7, [0, 0, 0, 0], 0⟩
theorem pC_run : Fr.plainRun (Fr.runO8 [] Fr.q.tab 100000 60) 28 [.str [118, 112, 110, 52, 32, 55, 32, 48, 46, 48, 46, 48, 46, 48, 47, 48]] = some (.agg (pfxC xkC)) := by kernel_rfl
theorem pC_ct (h : H) : Pure Tryd.prog 28 [.str [118, 112, 110, 52, 32, 55, 32, 48, 46, 48, 46, 48, 46, 48, 47, 48]] h (.agg (pfxC xkC)) := pure_run8 p_no Fr.q.tab_ok pC_run h
def xkD : Pfx := ⟨1, 0, [10, 2, 0, 0], 16⟩
theorem pD_run : Fr.plainRun (Fr.runO8 [] Fr.q.tab 100000 60) 28 [.str [118, 52, 32, 49, 48, 46, 50, 46, 48, 46, 48, 47, 49, 54]] = some (.agg (pfxC xkD)) := by kernel_rfl
theorem pD_ct (h : H) : Pure Tryd.prog 28 [.str [118, 52, 32, 49, 48, 46, 50, 46, 48, 46, 48, 47, 49, 54]] h (.agg (pfxC xkD)) := pure_run8 p_no Fr.q.tab_ok pD_run h
def xkE : Pfx := ⟨1, 0, [11, 0, 0, 0], 8⟩
theorem pE_run : Fr.plainRun (Fr.runO8 [] Fr.q.tab 100000 60) 28 [.str [118, 52, 32, 49, 49, 46, 48, 46, 48, 46, 48, 47, 56]] = some (.agg (pfxC xkE)) := by kernel_rfl
theorem pE_ct (h : H) : Pure Tryd.prog 28 [.str [118, 52, 32, 49, 49, 46, 48, 46, 48, 46, 48, 47, 56]] h (.agg (pfxC xkE)) := pure_run8 p_no Fr.q.tab_ok pE_run h
def xkF : Pfx := ⟨4, 7, [9, 0, 0, 0], 8⟩
theorem pF_run : Fr.plainRun (Fr.runO8 [] Fr.q.tab 100000 60) 28 [.str [118, 112, 110, 52, 32, 55, 32, 57, 46, 48, 46, 48, 46, 48, 47, 56]] = some (.agg (pfxC xkF)) := by kernel_rfl
theorem pF_ct (h : H) : Pure Tryd.prog 28 [.str [118, 112, 110, 52, 32, 55, 32, 57, 46, 48, 46, 48, 46, 48, 47, 56]] h (.agg (pfxC xkF)) := pure_run8 p_no Fr.q.tab_ok pF_run h
def xkG : Pfx := ⟨4, 8, [9, 0, 0, 0], 8⟩
theorem pG_run : Fr.plainRun (Fr.runO8 [] Fr.q.tab 100000 60) 28 [.str [118, 112, 110, 52, 32, 56, 32, 57, 46, 48, 46, 48, 46, 48, 47, 56]] = some (.agg (pfxC xkG)) := by kernel_rfl
theorem pG_ct (h : H) : Pure Tryd.prog 28 [.str [118, 112, 110, 52, 32, 56, 32, 57, 46, 48, 46, 48, 46, 48, 47, 56]] h (.agg (pfxC xkG)) := pure_run8 p_no Fr.q.tab_ok pG_run h
def xkI : Pfx := ⟨1, 0, [0, 0, 0, 0], 0⟩
theorem pI_run : Fr.plainRun (Fr.runO8 [] Fr.q.tab 100000 60) 28 [.str [118, 52, 32, 48, 46, 48, 46, 48, 46, 48, 47, 48]] = some (.agg (pfxC xkI)) := by kernel_rfl
theorem pI_ct (h : H) : Pure Tryd.prog 28 [.str [118, 52, 32, 48, 46, 48, 46, 48, 46, 48, 47, 48]] h (.agg (pfxC xkI)) := pure_run8 p_no Fr.q.tab_ok pI_run h
def xkK : Pfx := ⟨1, 0, [10, 1, 2, 0], 24⟩
theorem pK_run : Fr.plainRun (Fr.runO8 [] Fr.q.tab 100000 60) 28 [.str [118, 52, 32, 49, 48, 46, 49, 46, 50, 46, 48, 47, 50, 52]] = some (.agg (pfxC xkK)) := by kernel_rfl
theorem pK_ct (h : H) : Pure Tryd.prog 28 [.str [118, 52, 32, 49, 48, 46, 49, 46, 50, 46, 48, 47, 50, 52]] h (.agg (pfxC xkK)) := pure_run8 p_no Fr.q.tab_ok pK_run h
/-- Short, and not what it says. -/
def xkZ : Pfx := ⟨1, 0, [10, 0, 0, 0], 3⟩
def rsE : List Rt := tset (tset (tset [] xkA 1) xkB 2) xkC 3
def rsE1 : List Rt := tdel rsE xkB
def rsE2 : List Rt := tdel rsE1 xkB
theorem mayA : mayP xkA = true := by decide +kernel
theorem mayB : mayP xkB = true := by decide +kernel
theorem mayC : mayP xkC = true := by decide +kernel
theorem mayZ : mayP xkZ = false := by decide +kernel
theorem rsE0_ok : RsOk [] := ⟨by simp, by simp⟩
theorem rsE_ok : RsOk rsE := tset_ok (tset_ok (tset_ok rsE0_ok mayA _) mayB _) mayC _
theorem rsE1_ok : RsOk rsE1 := tdel_ok rsE_ok mayB
theorem rsE_len : (rsPairs rsE).length = 3 ∧ rsE.length ≤ 9 := by decide +kernel
theorem rsE1_len : (rsPairs rsE1).length = 2 ∧ rsE1.length ≤ 9 := by decide +kernel
theorem rsE2_len : (rsPairs rsE2).length = 2 ∧ rsE2.length ≤ 9 := by decide +kernel
theorem askD : mC (tmatch rsE xkD) = (xkA, 1) ∧ (tmatch rsE xkD).isSome = true := by decide +kernel
theorem askE : mC (tmatch rsE xkE) = (zeroP, 0) ∧ (tmatch rsE xkE).isSome = false := by decide +kernel
theorem askF : mC (tmatch rsE xkF) = (xkC, 3) ∧ (tmatch rsE xkF).isSome = true := by decide +kernel
theorem askG : mC (tmatch rsE xkG) = (zeroP, 0) ∧ (tmatch rsE xkG).isSome = false := by decide +kernel
theorem askZ : mC (tmatch rsE xkZ) = (zeroP, 0) ∧ (tmatch rsE xkZ).isSome = false := by decide +kernel
theorem undI : ((rsPairs rsE).filter fun x => covP xkI x.1).length = 2 := by decide +kernel
theorem undK : ((rsPairs rsE).filter fun x => covP xkK x.1).length = 0 := by decide +kernel
theorem undZ : ((rsPairs rsE).filter fun x => covP xkZ x.1).length = 0 := by decide +kernel
theorem goneB : (tget rsE xkB).isSome = true := by decide +kernel
theorem goneB1 : (tget rsE1 xkB).isSome = false := by decide +kernel
theorem example_ct {h : H} : Acalls Tryd.prog 27 [] h fun u h' => u = .ptr h.next 3 0 ∧ TTurned [h.next] (h.push (trieO .nilsl 0)) h.next rsE (rsPairs rsE).length h' := by
  refine acalls_to Tryd.func27 S.Hlaw03_example_code S.Hlaw03_example_enter (Nat.le_of_ble_eq_true rfl) fun wf => ?_; simp only [S.Hlaw03_example]
  simp
  refine new_ct fun _ ta0 => ?_
  have w2 : (h.push (trieO .nilsl 0)).WF := wf.push _
  obtain ⟨h2, hh2⟩ : ∃ h2, h2 = h.push (trieO .nilsl 0) := ⟨_, rfl⟩
  rw [← hh2] at ta0 w2 ⊢
  obtain ⟨i, hi⟩ : ∃ i, i = h.next := ⟨_, rfl⟩
  rw [← hi] at ta0 ⊢
  have tt0 : TTurned [i] h2 i [] (rsPairs []).length h2 := TTurned.self ta0 w2
  simp
  refine pA_ct _ _ ?_
  simp
  refine Acalls.mono (tt0.set_ct rsE0_ok (by simp) (by simp [rsPairs]) mayA 1) ?_
  rintro _ h3 ⟨rfl, tt3⟩
  simp
  refine pB_ct _ _ ?_
  simp
  refine Acalls.mono (tt3.set_ct (tset_ok rsE0_ok mayA _) (by decide +kernel) (by decide +kernel) mayB 2) ?_
  rintro _ h4 ⟨rfl, tt4⟩
  simp
  refine pC_ct _ _ ?_
  simp
  refine Acalls.mono (tt4.set_ct (tset_ok (tset_ok rsE0_ok mayA _) mayB _) (by decide +kernel) (by decide +kernel) mayC 3) ?_
  rintro _ h5 ⟨rfl, tt5⟩
  simp
  exact tt5
/-! ### Nobody's trie -/
theorem nonenil_ct {h : H} : Pure Tryd.prog 29 [.nilptr] h (.bool true) := by
  refine pure_to Tryd.func29 S.trie_Trie_int_none_code S.trie_Trie_int_none_enter rfl (Nat.le_of_ble_eq_true rfl) fun wf => ?_; simp only [S.trie_Trie_int_none]
  simp [eqV]
theorem noneoff_ct {h : H} {i : Nat} (hi : h.get i = some (.row [.bool false, .nilsl, .int .i64 0])) : Pure Tryd.prog 29 [.ptr i 3 0] h (.bool true) := by
  refine pure_to Tryd.func29 S.trie_Trie_int_none_code S.trie_Trie_int_none_enter rfl (Nat.le_of_ble_eq_true rfl) fun wf => ?_; simp only [S.trie_Trie_int_none]
  have c0 : cellsAt h.get i 3 = some [.bool false, .nilsl, .int .i64 0] := by rw [cellsAt_of hi (by rfl)]; rfl
  simp [eqV, c0]
theorem setnil_ct {h : H} {p : Pfx} (x : Int) : Pure Tryd.prog 9 [.nilptr, .agg (pfxC p), .int .i64 x] h (.int .i64 1) := by
  refine pure_to Tryd.func9 S.trie_Trie_int_Set_code S.trie_Trie_int_Set_enter rfl (Nat.le_of_ble_eq_true rfl) fun wf => ?_; simp only [S.trie_Trie_int_Set]
  simp only [pfxC]
  simp
  refine nonenil_ct _ ?_
  simp
theorem setoff_ct {h : H} {i : Nat} (hi : h.get i = some (.row [.bool false, .nilsl, .int .i64 0])) {p : Pfx} (x : Int) : Pure Tryd.prog 9 [.ptr i 3 0, .agg (pfxC p), .int .i64 x] h (.int .i64 1) := by
  refine pure_to Tryd.func9 S.trie_Trie_int_Set_code S.trie_Trie_int_Set_enter rfl (Nat.le_of_ble_eq_true rfl) fun wf => ?_; simp only [S.trie_Trie_int_Set]
  have hlt := wf.lt hi
  simp only [pfxC]
  simp
  refine noneoff_ct (i := i) (by rw [H.get_push, if_neg (by omega)]; exact hi) _ ?_
  simp
theorem lennil_ct {h : H} : Pure Tryd.prog 17 [.nilptr] h (.int .i64 0) := by
  refine pure_to Tryd.func17 S.trie_Trie_int_Len_code S.trie_Trie_int_Len_enter rfl (Nat.le_of_ble_eq_true rfl) fun wf => ?_; simp only [S.trie_Trie_int_Len]
  simp
  refine nonenil_ct _ ?_
  simp
theorem waynil_ct {h : H} {p : Pfx} (fn : V) : Pure Tryd.prog 35 [.nilptr, .agg (pfxC p), fn] h (.tup []) := by
  refine pure_to Tryd.func35 S.trie_Trie_int_way_code S.trie_Trie_int_way_enter rfl (Nat.le_of_ble_eq_true rfl) fun wf => ?_; simp only [S.trie_Trie_int_way]
  simp only [pfxC]
  simp
  refine nonenil_ct _ ?_
  simp
theorem getnil_ct {h : H} {p : Pfx} : Pure Tryd.prog 13 [.nilptr, .agg (pfxC p)] h (.tup [.int .i64 0, .bool false]) := by
  refine pure_to Tryd.func13 S.trie_Trie_int_Get_code S.trie_Trie_int_Get_enter rfl (Nat.le_of_ble_eq_true rfl) fun wf => ?_; simp only [S.trie_Trie_int_Get]
  simp only [pfxC]
  simp
  refine waynil_ct (p := p) _ _ ?_
  simp [eqV]
end Go.Am

/-
  TrieKnown's parts: nobody's copy and what nobody tells.
-/
namespace Go.Am
open Go.Proofs

set_option maxRecDepth 100000
theorem copynil_ct {h : H} {Q : V → H → Prop} (q : Q .nilptr h) : Acalls Tryd.prog 14 [.nilptr] h Q := by
  refine acalls_range_to Tryd.func14 S.trie_Trie_int_Copy_rcode S.trie_Trie_int_Copy_enter (Nat.le_of_ble_eq_true rfl) fun wf => ?_
  simp only [S.trie_Trie_int_Copy_r]
  simp
  refine nonenil_ct _ ?_
  simp
  exact q
theorem allnil_iter {h : H} {Q : V → H → Prop} (q : h.WF → Q (.func (.func 57) [] [.ptr h.next 1 0]) (h.push (.row [.nilptr]))) : Acalls Tryd.prog 38 [.nilptr] h Q := by
  refine acalls_to Tryd.func38 S.trie_Trie_int_All_code S.trie_Trie_int_All_enter (Nat.le_of_ble_eq_true rfl) fun wf => ?_; simp only [S.trie_Trie_int_All]
  simp
  exact q wf
theorem all1nil_ct {h : H} {yi tb : Nat} (htb : h.get tb = some (.row [.nilptr])) {Q : V → H → Prop} (q : Q (.tup []) h) : Acalls Tryd.prog 57 [.yl yi, .ptr tb 1 0] h Q := by
  refine acalls_to Tryd.func57 S.trie_Trie_int_All_1_code S.trie_Trie_int_All_1_enter (Nat.le_of_ble_eq_true rfl) fun wf => ?_; simp only [S.trie_Trie_int_All_1]
  have cb : cellsAt h.get tb 1 = some [.nilptr] := by rw [cellsAt_of htb (by rfl)]; rfl
  simp [cb]
  refine nonenil_ct _ ?_
  simp
  exact q
theorem allnil_ct {h : H} {n : Nat} {Q : V → H → Prop} (q : h.WF → ∀ h', Ge h h' → Q .nilsl h') : Acalls Tryd.prog 16 [.nilptr, .int .i64 (n : Nat)] h Q := by
  refine acalls_range_to Tryd.func16 S.Hlaw03_all_rcode S.Hlaw03_all_enter (Nat.le_of_ble_eq_true rfl) fun wf => ?_
  simp only [S.Hlaw03_all_r]
  simp [ne_a, ne_b, ne_c, ne_d]
  refine allnil_iter fun wf3 => ?_
  simp [eqV_fn, ne_a, ne_b, ne_c, ne_d]
  obtain ⟨h3, hh3⟩ : ∃ h3, h3 = (((h.push (.row [.int .i64 (n : Nat)])).push (.row [.nilsl])).push (.row [.nilsl])).push (.row [.nilptr]) := ⟨_, rfl⟩
  rw [← hh3]
  have w3 : h3.WF := by rw [hh3]; exact (((wf.push _).push _).push _).push _
  have n3 : h3.next = h.next + 4 := by rw [hh3]; simp
  have g3 : Ge h h3 := by rw [hh3]; exact ((((Ge.refl _).push _).push _).push _).push _
  have ob3 : h3.get (h.next + 1 + 1) = some (.row [.nilsl]) := by rw [hh3]; simp [ne_a, ne_b, ne_c, ne_d]
  have rs3 : h3.get (h.next + 1) = some (.row [.nilsl]) := by rw [hh3]; simp [ne_a, ne_b, ne_c, ne_d]
  have tb3 : h3.get (h.next + 1 + 1 + 1) = some (.row [.nilptr]) := by rw [hh3]; simp [ne_a, ne_b, ne_c, ne_d]
  have co : cellsAt h3.get (h.next + 1 + 1) 1 = some [.nilsl] := by rw [cellsAt_of ob3 (by rfl)]; rfl
  refine rfor_of _ ?_
  refine all1nil_ct (tb := h.next + 1 + 1 + 1) (by simp [loopH, show ¬ h.next + 1 + 1 + 1 = h3.next by omega, show ¬ h.next + 1 + 1 = h3.next by omega, tb3]) ?_
  have m1 : ¬ h.next + 1 + 1 = h3.next + 1 := by omega
  have m2 : ¬ h.next + 1 = h3.next + 1 := by omega
  have m3 : ¬ h.next + 1 = h3.next := by omega
  have m4 : ¬ h3.next = h.next + 1 := by omega
  have m5 : ¬ h.next = h3.next := by omega
  have m7 : ¬ h.next + 1 + 1 = h3.next := by omega
  have m8 : ¬ h3.next = h.next := by omega
  refine ⟨by simp [loopH], _, by simp [loopH]; rfl, by simp, ?_⟩
  simp [loopH, co, ob3, rs3, ne_a, ne_b, ne_c, ne_d, m1, m2, m3, m4, m5, m7, m8]
  exact q wf _ ⟨by simp; omega, fun j hj => by simp [show ¬ j = h3.next by omega, show ¬ j = h3.next + 1 by omega, show ¬ j = h.next + 1 by omega]; exact g3.2 j hj⟩
end Go.Am

/-
  TrieKnown.
-/
namespace Go.Am
open Go.Proofs

set_option maxRecDepth 100000
theorem TTurned.geK {ns : List Nat} {hb h0 h : H} {i : Nat} {rs : List Rt} {n : Nat} (t : TTurned ns hb i rs n h) (g : Ge h0 hb) (hn : ∀ j ∈ ns, h0.next ≤ j) : Ge h0 h := ⟨Nat.le_trans g.1 t.out.next, fun j hj => (t.out.keep j (Nat.lt_of_lt_of_le hj g.1) (fun hm => by have := hn j hm; omega)).trans (g.2 j hj)⟩
theorem gl_lenK {h : H} {lo : Nat} {v : V} {l : List (Pfx × Int)} {n : Nat} (g : Gl h lo 5 v (l.map pairC)) (e : l.length = n) (hn : n ≤ 1000) : lenV 1 h.get v = some (.int .i64 (n : Nat)) := by
  have := (g.sls (pairC_all _) (by simp; omega)).len
  rw [List.length_map, e] at this; exact this
set_option maxHeartbeats 4000000 in
theorem tknown_ct (h : H) : Pure Tryd.prog 7 [] h (.bool true) := by
  refine pure_to Tryd.func7 S.Hlaw03_TrieKnown_code S.Hlaw03_TrieKnown_enter rfl (Nat.le_of_ble_eq_true rfl) fun wf => ?_; simp only [S.Hlaw03_TrieKnown]
  simp
  refine Acalls.mono example_ct ?_
  rintro _ h1 ⟨rfl, tt1⟩
  obtain ⟨i, hi⟩ : ∃ i, i = h.next := ⟨_, rfl⟩
  rw [← hi] at tt1 ⊢
  have gh1 : Ge h h1 := tt1.geK ((Ge.refl _).push _) (by simp; omega)
  have w1 := tt1.wf
  have er := rsE_len
  obtain ⟨ns, ta1, sub⟩ := tt1.ex
  have lo : ∀ j ∈ ns, h.next ≤ j := fun j hj => by
    rcases sub j hj with h | h
    · simp at h; omega
    · simp at h; omega
  have lt1 := ta1.lt w1
  simp
  refine pD_ct _ _ ?_
  simp
  refine match_ct (p := xkD) rsE_ok ta1 (by omega) _ ?_
  rw [askD.2]
  obtain ⟨M1, hM1⟩ : ∃ M, M = mC (tmatch rsE xkD) := ⟨_, rfl⟩
  have v1 : M1.2 = 1 := by rw [hM1, askD.1]
  rw [← hM1, v1]
  simp only [pfxC]
  simp
  obtain ⟨h2, hh2⟩ : ∃ h', h' = (h1.push (.row [.int .i64 0, .int .u64 0, .str [], .int .i64 0])).set h1.next (.row (pfxC M1.1)) := ⟨_, rfl⟩
  have g2 : Ge h1 h2 := by rw [hh2]; exact ((Ge.refl _).push _).set (Nat.le_refl _) _
  have w2 : h2.WF := by rw [hh2]; exact (w1.push _).set (by simp) _
  have lt2 : ∀ j ∈ ns, j < h2.next := fun j hj => Nat.lt_of_lt_of_le (lt1 j hj) g2.1
  have ta2 : TrieAt h2 i rsE (rsPairs rsE).length ns := ta1.keep fun j hj => g2.2 j (lt1 j hj)
  have gh2 : Ge h h2 := gh1.trans g2
  simp only [pfxC] at hh2
  rw [← hh2]
  skip
  refine pE_ct _ _ ?_
  simp
  refine match_ct (p := xkE) rsE_ok ta2 (by omega) _ ?_
  rw [askE.2]
  obtain ⟨M2, hM2⟩ : ∃ M, M = mC (tmatch rsE xkE) := ⟨_, rfl⟩
  have v2 : M2.2 = 0 := by rw [hM2, askE.1]
  rw [← hM2, v2]
  simp only [pfxC]
  simp
  obtain ⟨h3, hh3⟩ : ∃ h', h' = (h2.push (.row [.int .i64 0, .int .u64 0, .str [], .int .i64 0])).set h2.next (.row (pfxC M2.1)) := ⟨_, rfl⟩
  have g3 : Ge h2 h3 := by rw [hh3]; exact ((Ge.refl _).push _).set (Nat.le_refl _) _
  have w3 : h3.WF := by rw [hh3]; exact (w2.push _).set (by simp) _
  have lt3 : ∀ j ∈ ns, j < h3.next := fun j hj => Nat.lt_of_lt_of_le (lt2 j hj) g3.1
  have ta3 : TrieAt h3 i rsE (rsPairs rsE).length ns := ta2.keep fun j hj => g3.2 j (lt2 j hj)
  have gh3 : Ge h h3 := gh2.trans g3
  simp only [pfxC] at hh3
  rw [← hh3]
  skip
  refine pF_ct _ _ ?_
  simp
  refine match_ct (p := xkF) rsE_ok ta3 (by omega) _ ?_
  rw [askF.2]
  obtain ⟨M3, hM3⟩ : ∃ M, M = mC (tmatch rsE xkF) := ⟨_, rfl⟩
  have v3 : M3.2 = 3 := by rw [hM3, askF.1]
  rw [← hM3, v3]
  simp only [pfxC]
  simp
  obtain ⟨h4, hh4⟩ : ∃ h', h' = (h3.push (.row [.int .i64 0, .int .u64 0, .str [], .int .i64 0])).set h3.next (.row (pfxC M3.1)) := ⟨_, rfl⟩
  have g4 : Ge h3 h4 := by rw [hh4]; exact ((Ge.refl _).push _).set (Nat.le_refl _) _
  have w4 : h4.WF := by rw [hh4]; exact (w3.push _).set (by simp) _
  have lt4 : ∀ j ∈ ns, j < h4.next := fun j hj => Nat.lt_of_lt_of_le (lt3 j hj) g4.1
  have ta4 : TrieAt h4 i rsE (rsPairs rsE).length ns := ta3.keep fun j hj => g4.2 j (lt3 j hj)
  have gh4 : Ge h h4 := gh3.trans g4
  simp only [pfxC] at hh4
  rw [← hh4]
  skip
  refine pG_ct _ _ ?_
  simp
  refine match_ct (p := xkG) rsE_ok ta4 (by omega) _ ?_
  rw [askG.2]
  obtain ⟨M4, hM4⟩ : ∃ M, M = mC (tmatch rsE xkG) := ⟨_, rfl⟩
  have v4 : M4.2 = 0 := by rw [hM4, askG.1]
  rw [← hM4, v4]
  simp only [pfxC]
  simp
  obtain ⟨h5, hh5⟩ : ∃ h', h' = (h4.push (.row [.int .i64 0, .int .u64 0, .str [], .int .i64 0])).set h4.next (.row (pfxC M4.1)) := ⟨_, rfl⟩
  have g5 : Ge h4 h5 := by rw [hh5]; exact ((Ge.refl _).push _).set (Nat.le_refl _) _
  have w5 : h5.WF := by rw [hh5]; exact (w4.push _).set (by simp) _
  have lt5 : ∀ j ∈ ns, j < h5.next := fun j hj => Nat.lt_of_lt_of_le (lt4 j hj) g5.1
  have ta5 : TrieAt h5 i rsE (rsPairs rsE).length ns := ta4.keep fun j hj => g5.2 j (lt4 j hj)
  have gh5 : Ge h h5 := gh4.trans g5
  simp only [pfxC] at hh5
  rw [← hh5]
  skip
  refine pI_ct _ _ ?_
  simp
  refine under_gl (p := xkI) (n := 9) rsE_ok ta5 (by omega) (by omega) (by omega) ?_
  intro u5 h6 g6 w6 gl6
  have l6 := gl_lenK gl6 undI (by omega)
  have lt6 : ∀ j ∈ ns, j < h6.next := fun j hj => Nat.lt_of_lt_of_le (lt5 j hj) g6.1
  have ta6 : TrieAt h6 i rsE (rsPairs rsE).length ns := ta5.keep fun j hj => g6.2 j (lt5 j hj)
  have gh6 : Ge h h6 := gh5.trans g6
  simp [l6]
  skip
  refine pK_ct _ _ ?_
  simp
  refine under_gl (p := xkK) (n := 9) rsE_ok ta6 (by omega) (by omega) (by omega) ?_
  intro u6 h7 g7 w7 gl7
  have l7 := gl_lenK gl7 undK (by omega)
  have lt7 : ∀ j ∈ ns, j < h7.next := fun j hj => Nat.lt_of_lt_of_le (lt6 j hj) g7.1
  have ta7 : TrieAt h7 i rsE (rsPairs rsE).length ns := ta6.keep fun j hj => g7.2 j (lt6 j hj)
  have gh7 : Ge h h7 := gh6.trans g7
  simp [l7]
  refine all_gl (n := 9) rsE_ok ta7 (by omega) (by omega) (by omega) ?_
  intro u7 h8 g8 w8 gl8
  have l8 := gl_lenK gl8 er.1 (by omega)
  have lt8 : ∀ j ∈ ns, j < h8.next := fun j hj => Nat.lt_of_lt_of_le (lt7 j hj) g8.1
  have ta8 : TrieAt h8 i rsE (rsPairs rsE).length ns := ta7.keep fun j hj => g8.2 j (lt7 j hj)
  have gh8 : Ge h h8 := gh7.trans g8
  simp [l8]
  refine pA_ct _ _ ?_
  simp only [pfxC]
  simp
  obtain ⟨h9, hh9⟩ : ∃ h', h' = (h8.push (.row [.int .i64 0, .int .u64 0, .str [], .int .i64 0])).set h8.next (.row (pfxC xkZ)) := ⟨_, rfl⟩
  have g9 : Ge h8 h9 := by rw [hh9]; exact ((Ge.refl _).push _).set (Nat.le_refl _) _
  have w9 : h9.WF := by rw [hh9]; exact (w8.push _).set (by simp) _
  have n9 : h9.next = h8.next + 1 := by rw [hh9]; simp
  have z9 : h9.get h8.next = some (.row (pfxC xkZ)) := by rw [hh9]; simp
  have eZ : ([.int .i64 xkA.fam, .int .u64 (xkA.rd : Nat), .str xkA.addr, .int .i64 3] : List V) = pfxC xkZ := rfl
  rw [eZ, ← hh9]
  have lt9 : ∀ j ∈ ns, j < h9.next := fun j hj => Nat.lt_of_lt_of_le (lt8 j hj) g9.1
  have ta9 : TrieAt h9 i rsE (rsPairs rsE).length ns := ta8.keep fun j hj => g9.2 j (lt8 j hj)
  have gh9 : Ge h h9 := gh8.trans g9
  refine match_ct (p := xkZ) rsE_ok ta9 (by omega) _ ?_
  rw [askZ.2]
  obtain ⟨M9, hM9⟩ : ∃ M, M = mC (tmatch rsE xkZ) := ⟨_, rfl⟩
  have v9 : M9.2 = 0 := by rw [hM9, askZ.1]
  rw [← hM9, v9]
  have c9 : ∀ h' : H, h'.get h8.next = some (.row (pfxC xkZ)) → cellsAt h'.get h8.next 4 = some [.int .i64 xkZ.fam, .int .u64 (xkZ.rd : Nat), .str xkZ.addr, .int .i64 xkZ.len] := fun h' e => by rw [cellsAt_of e (by rfl)]; rfl
  have c9' := c9 h9 z9
  simp only [pfxC]
  simp
  obtain ⟨h10, hh10⟩ : ∃ h', h' = (h9.push (.row [.int .i64 0, .int .u64 0, .str [], .int .i64 0])).set h9.next (.row (pfxC M9.1)) := ⟨_, rfl⟩
  have g10 : Ge h9 h10 := by rw [hh10]; exact ((Ge.refl _).push _).set (Nat.le_refl _) _
  have w10 : h10.WF := by rw [hh10]; exact (w9.push _).set (by simp) _
  have n10 : h10.next = h9.next + 1 := by rw [hh10]; simp
  have lt10 : ∀ j ∈ ns, j < h10.next := fun j hj => Nat.lt_of_lt_of_le (lt9 j hj) g10.1
  have ta10 : TrieAt h10 i rsE (rsPairs rsE).length ns := ta9.keep fun j hj => g10.2 j (lt9 j hj)
  have gh10 : Ge h h10 := gh9.trans g10
  have z10 : h10.get h8.next = some (.row (pfxC xkZ)) := (g10.2 _ (by omega)).trans z9
  have c10 := c9 h10 z10
  simp only [pfxC] at hh10
  rw [← hh10]
  obtain ⟨rv, i10⟩ : ∃ rv, h10.get i = some (trieO rv (rsPairs rsE).length) := by
    obtain ⟨rv, _, _, _, e, _⟩ := id ta10
    exact ⟨rv, e⟩
  simp [c9', show ¬ h8.next = h9.next by omega, c10]
  refine setno_ct (p := xkZ) i10 mayZ 9 _ ?_
  simp [c10]
  refine under_gl (p := xkZ) (n := 9) rsE_ok ta10 (by omega) (by omega) (by omega) ?_
  intro u10 h11 g11 w11 gl11
  have l11 := gl_lenK gl11 undZ (by omega)
  have lt11 : ∀ j ∈ ns, j < h11.next := fun j hj => Nat.lt_of_lt_of_le (lt10 j hj) g11.1
  have ta11 : TrieAt h11 i rsE (rsPairs rsE).length ns := ta10.keep fun j hj => g11.2 j (lt10 j hj)
  have gh11 : Ge h h11 := gh10.trans g11
  have z11 : h11.get h8.next = some (.row (pfxC xkZ)) := (g11.2 _ (by omega)).trans z10
  have tt11 : TTurned ns h11 i rsE (rsPairs rsE).length h11 := TTurned.self ta11 w11
  simp [l11]
  refine pB_ct _ _ ?_
  simp
  refine Acalls.mono (tt11.del_ct rsE_ok (by omega) (by omega) mayB) ?_
  rintro _ h12 ⟨rfl, tt12⟩
  rw [goneB]
  simp
  refine pB_ct _ _ ?_
  simp
  have er1 := rsE1_len
  refine Acalls.mono (tt12.del_ct rsE1_ok (by show rsE1.length ≤ _; omega) (by show (rsPairs rsE1).length < _; omega) mayB) ?_
  rintro _ h13 ⟨rfl, tt13⟩
  have gB : (tget (tdel rsE xkB) xkB).isSome = false := goneB1
  rw [gB]
  have er2 := rsE2_len
  have gh13 : Ge h h13 := tt13.geK gh11 lo
  have w13 := tt13.wf
  have n8 : h8.next < h11.next := by have := g10.1; have := g11.1; omega
  have z13 : h13.get h8.next = some (.row (pfxC xkZ)) := (tt13.out.keep _ n8 (fun hm => by have := lt8 _ hm; omega)).trans z11
  obtain ⟨rv2, i13⟩ : ∃ rv, h13.get i = some (trieO rv (rsPairs rsE2).length) := by
    obtain ⟨ns13, ta13, _⟩ := tt13.ex
    obtain ⟨rv, _, _, _, e, _⟩ := ta13
    exact ⟨rv, e⟩
  simp
  refine len_ct i13 _ ?_
  rw [er2.1]
  simp
  refine pA_ct _ _ ?_
  simp
  refine getnil_ct (p := xkA) _ ?_
  simp
  refine pA_ct _ _ ?_
  simp
  refine setnil_ct (p := xkA) 1 _ ?_
  obtain ⟨h14, hh14⟩ : ∃ h', h' = h13.push (.row [.bool false, .nilsl, .int .i64 0]) := ⟨_, rfl⟩
  have g14 : Ge h13 h14 := by rw [hh14]; exact (Ge.refl _).push _
  have w14 : h14.WF := by rw [hh14]; exact w13.push _
  have i14 : h14.get h13.next = some (.row [.bool false, .nilsl, .int .i64 0]) := by rw [hh14]; simp
  have z14 : h14.get h8.next = some (.row (pfxC xkZ)) := (g14.2 _ (by have := tt13.out.next; omega)).trans z13
  have c14 := c9 h14 z14
  have ne14 : ¬ h8.next = h13.next := by have := tt13.out.next; omega
  have c13 := c9 h13 z13
  simp [ne14, c13]
  rw [← hh14]
  refine setoff_ct (p := xkZ) i14 1 _ ?_
  simp
  refine lennil_ct _ ?_
  simp
  refine copynil_ct ?_
  simp [eqV]
  refine allnil_ct (n := 9) fun _ h15 g15 => ?_
  simp
  refine works_ct _ _ ?_
  simp
  exact (gh13.trans g14).trans g15
end Go.Am
