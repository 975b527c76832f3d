/-
  TR14, WK, LO, LA, LH, TR15, LL, in one text.
-/
import Derived.Test.YtjejnanjelooiaaDoorSMB
import Derived.Test.YtjejnanjelooiaaDoorSSkRg
import Derived.Test.YtjejnanjelooiaaDoorSAm24
import Derived.Test.YtjejnanjelooiaaDoorSAm21
import Derived.Test.YtjejnanjelooiaaDoorSQwTab
import Derived.KernelRfl
import Derived.Test.YtjejnanjelooiaaDoorSAm33
/-
  Lists of what is told: the rounds of 'all' and 'under'.
-/
namespace Go.Am
open Go.Proofs

set_option maxRecDepth 100000
theorem ne_a (n : Nat) : ¬ n = n + 1 + 1 := by omega
theorem ne_b (n : Nat) : ¬ n = n + 1 + 1 + 1 := by omega
theorem ne_c (n : Nat) : ¬ n = n + 1 + 1 + 1 + 1 := by omega
theorem ne_d (n : Nat) : ¬ n = n + 1 + 1 + 1 + 1 + 1 := by omega
theorem eqV_fn (f : Fn) (a b : List V) : eqV .func (.func f a b) .nilfunc = some false := rfl
/-- What was told so far stands in a list that grows, in the box 'ob'. -/
def outJ (h3 : H) (ob : Nat) (r0 : LoopV) (pre : List (Pfx × Int)) (h : H) : Prop :=
  h.WF ∧ h3.next + 2 ≤ h.next ∧ (∀ j, j < h3.next → j ≠ ob → h.get j = h3.get j) ∧ h.get h3.next = some (.defo true) ∧ h.get (h3.next + 1) = some (.loopo r0) ∧ ∃ ov, h.get ob = some (.row [ov]) ∧ Gl h (h3.next + 2) 5 ov (pre.map pairC)
theorem pairC_len (x : Pfx × Int) : (pairC x).length = 5 := rfl
theorem pairC_all (l : List (Pfx × Int)) : ∀ e ∈ l.map pairC, e.length = 5 := fun e he => by
  obtain ⟨x, _, rfl⟩ := List.mem_map.1 he; rfl
theorem pair_ids : ∀ l : List (Pfx × Int), V.idss (l.map pairC).flatten = []
  | [] => rfl
  | x :: l => by
    simp [pairC, V.idss, V.ids, pair_ids l]
theorem outJ_sat {h3 : H} {ob : Nat} {r0 : LoopV} (hob : ob < h3.next) (w : h3.WF) (pre : List (Pfx × Int)) : ∃ h, outJ h3 ob r0 pre h := by
  obtain ⟨H0, hH0⟩ : ∃ H0, H0 = (h3.push (.defo true)).push (.loopo r0) := ⟨_, rfl⟩
  have n0 : H0.next = h3.next + 2 := by rw [hH0]; simp
  have w0 : H0.WF := by rw [hH0]; exact (w.push _).push _
  have k0 : ∀ j, j < h3.next → H0.get j = h3.get j := fun j hj => by rw [hH0]; simp [show ¬ j = h3.next by omega, show ¬ j = h3.next + 1 by omega]
  have d0 : H0.get h3.next = some (.defo true) := by rw [hH0]; simp
  have l0 : H0.get (h3.next + 1) = some (.loopo r0) := by rw [hH0]; simp
  cases pre with
  | nil =>
    refine ⟨H0.set ob (.row [.nilsl]), w0.set (by omega) _, by simp; omega, fun j hj hn => by rw [H.get_set, if_neg hn, k0 j hj], by rw [H.get_set, if_neg (by omega), d0], by rw [H.get_set, if_neg (by omega), l0], .nilsl, by simp, .inl ⟨rfl, rfl⟩⟩
  | cons x l =>
    refine ⟨(H0.push (.grow 5 (((x :: l).map pairC).flatten))).set ob (.row [.sl H0.next (((x :: l).map pairC).flatten).length 0 ((x :: l).map pairC).length none]), (w0.push _).set (by simp; omega) _, by simp; omega, fun j hj hn => by rw [H.get_set, if_neg hn, H.get_push, if_neg (by omega), k0 j hj],
      by rw [H.get_set, if_neg (by omega), H.get_push, if_neg (by omega), d0], by rw [H.get_set, if_neg (by omega), H.get_push, if_neg (by omega), l0], _, by rw [H.get_set, if_pos rfl], .inr ⟨by simp, H0.next, by omega, by simp, rfl, by rw [H.get_set, if_neg (by omega), H.get_push, if_pos rfl]⟩⟩
theorem outJ_mono {h3 : H} {ob : Nat} {r0 : LoopV} (hob : ob < h3.next) {pre : List (Pfx × Int)} {h h' : H} (j : outJ h3 ob r0 pre h) (g : Ge h h') (w : h'.WF) : outJ h3 ob r0 pre h' := by
  obtain ⟨a, b, c, d, e, ov, f, gl⟩ := j
  refine ⟨w, Nat.le_trans b g.1, fun j hj hn => (g.2 j (by omega)).trans (c j hj hn), (g.2 _ (by omega)).trans d, (g.2 _ (by omega)).trans e, ov, (g.2 _ (by omega)).trans f, gl.keep g.1 fun i hi => g.2 i (gl.lo i hi).2⟩
/-- The list's end: a fresh one. -/
theorem outJ_end {h3 : H} {ob : Nat} {r0 : LoopV} {l : List (Pfx × Int)} {h : H} (j : outJ h3 ob r0 l h) : ∃ ov, h.get ob = some (.row [ov]) ∧ ((ov = .nilsl ∧ (l.map pairC).flatten = []) ∨ ((l.map pairC).flatten ≠ [] ∧ ∃ j, ov = .sl j (l.map pairC).flatten.length 0 l.length none ∧ h3.next + 2 ≤ j ∧ j < h.next ∧ h.get j = some (.grow 5 (l.map pairC).flatten))) := by
  obtain ⟨a, b, c, d, e, ov, f, gl⟩ := j
  refine ⟨ov, f, ?_⟩
  rcases gl with ⟨e1, e2⟩ | ⟨e1, j, j1, j2, j3, j4⟩
  · exact .inl ⟨e2, by rw [e1]; rfl⟩
  · refine .inr ⟨fun e0 => e1 ?_, j, by simpa using j3, j1, j2, j4⟩
    cases l with
    | nil => rfl
    | cons x l => simp [pairC] at e0

theorem all_round {h3 : H} {ob nb : Nat} {r0 : LoopV} {n : Nat} (hwf3 : h3.WF) (hob : ob < h3.next) (hnb : h3.get nb = some (.row [.int .i64 (n : Nat)])) (hne : nb ≠ ob) (hn : n < 1000000000) (hst : r0.st = .ready) (hpd : r0.pending = none) (has : r0.assign = S.Hlaw03_all_as) (hbd : r0.body = S.Hlaw03_all_bd)
    (hps : r0.params = #[16, 17]) (htl : r0.tmps.length = 30) (t5 : r0.tmps[5]? = some (.ptr ob 1 0)) (t3 : r0.tmps[3]? = some (.ptr nb 1 0)) {pre : List (Pfx × Int)} {x : Pfx × Int} {h : H} (hJ : outJ h3 ob r0 pre h) (hl : pre.length + 1 ≤ n) :
    Ayields Tryd.prog (h3.next + 1) [.agg (pfxC x.1), .int .i64 x.2] h fun r h' => r = .bool true ∧ outJ h3 ob r0 (pre ++ [x]) h' := by
  obtain ⟨w, b1, k1, d1, l1, ov, f1, gl⟩ := hJ
  refine ayields_of l1 (ca := S.Hlaw03_all_ca) (cb := S.Hlaw03_all_cb) (by rw [htl, has]; exact S.Hlaw03_all_cas) (by rw [htl, hbd]; exact S.Hlaw03_all_cbd) (by rw [hps]; rfl) (by rw [hps, htl]; simp) ?_
  rw [hps]
  simp only [S.Hlaw03_all_ca, pfxC]
  simp
  obtain ⟨h1, hh1⟩ : ∃ h1, h1 = (h.push (.row [.int .i64 0, .int .u64 0, .str [], .int .i64 0])).set h.next (.row (pfxC x.1)) := ⟨_, rfl⟩
  have n1 : h1.next = h.next + 1 := by rw [hh1]; simp
  have w1 : h1.WF := by rw [hh1]; exact (w.push _).set (by simp) _
  have g1 : Ge h h1 := by rw [hh1]; exact ((Ge.refl _).push _).set (Nat.le_refl _) _
  have p1 : h1.get h.next = some (.row (pfxC x.1)) := by rw [hh1]; simp
  simp only [pfxC] at hh1
  rw [← hh1]
  refine ⟨r0, by rw [if_neg (by omega), if_neg (by omega)]; exact l1, hst, ?_⟩
  obtain ⟨r1, hr1⟩ : ∃ r1 : LoopV, r1 = { r0 with st := .busy, pending := r0.pending } := ⟨_, rfl⟩
  have hr2 : ({ r1 with st := .ready, pending := none } : LoopV) = r0 := by rw [hr1]; cases r0; simp_all
  rw [← hr1]
  obtain ⟨h2, hh2⟩ : ∃ h2, h2 = h1.set (h3.next + 1) (.loopo r1) := ⟨_, rfl⟩
  rw [← hh2]
  have k2 : ∀ j, j ≠ h3.next + 1 → h2.get j = h1.get j := fun j hj => by rw [hh2, H.get_set, if_neg hj]
  have n2 : h2.next = h.next + 1 := by rw [hh2]; simpa using n1
  have w2 : h2.WF := by rw [hh2]; exact w1.set (by omega) _
  have l2 : h2.get (h3.next + 1) = some (.loopo r1) := by rw [hh2]; simp
  have o2 : h2.get ob = some (.row [ov]) := (k2 ob (by omega)).trans ((g1.2 ob (by omega)).trans f1)
  have nblt : nb < h3.next := by
    have := k1 nb
    rcases Nat.lt_or_ge nb h3.next with h | h
    · exact h
    · exfalso
      by_cases e : nb = h3.next
      · have := hwf3 _ (Nat.le_of_eq e.symm); rw [this] at hnb; cases hnb
      · have := hwf3 nb h; rw [this] at hnb; cases hnb
  have nb2 : h2.get nb = some (.row [.int .i64 (n : Nat)]) := (k2 nb (by omega)).trans ((g1.2 nb (by omega)).trans ((k1 nb nblt hne).trans hnb))
  have q2 : h2.get h.next = some (.row (pfxC x.1)) := (k2 h.next (by omega)).trans p1
  have co : cellsAt h2.get ob 1 = some [ov] := by rw [cellsAt_of o2 (by rfl)]; rfl
  have cq : cellsAt h2.get h.next 4 = some (pfxC x.1) := by rw [cellsAt_of q2 (by rfl)]; rfl
  have gl2 : Gl h2 (h3.next + 2) 5 ov (pre.map pairC) := gl.keep (by omega) fun i hi => by
    have := gl.lo i hi
    rw [k2 i (by omega), g1.2 i this.2]
  -- one append
  obtain ⟨h4, hh4⟩ : ∃ h4, h4 = h2.push (.row (pairC x)) := ⟨_, rfl⟩
  have g4 : Ge h2 h4 := by rw [hh4]; exact (Ge.refl _).push _
  have w4 : h4.WF := by rw [hh4]; exact w2.push _
  have n4 : h4.next = h2.next + 1 := by rw [hh4]; simp
  have gl4 : Gl h4 (h3.next + 2) 5 ov (pre.map pairC) := gl2.keep g4.1 fun i hi => g4.2 i (gl2.lo i hi).2
  have el : elemsV h4.get 5 (.sl h2.next 5 0 1 (some 1)) = some (1, pairC x) := by rw [hh4]; simp [elemsV_sl, pairC]
  obtain ⟨ov', dd, A1, A2, A3, A4, A5⟩ := gl4.append (by omega) (pairC_all pre) (pairC_len x) el (by simp [pairC]) (by omega) (bytes := 48) (by simp; omega) (by simp; omega)
  obtain ⟨h5, hh5⟩ : ∃ h5, h5 = h4.app dd := ⟨_, rfl⟩
  rw [← hh5] at A2 A3 A4 A5
  have nov : ∀ j, j < h3.next + 2 → j ∉ ov.ids := fun j hj hm => by have := (gl.lo j hm).1; omega
  have o5 : h5.get ob = some (.row [ov]) := (A4 ob (nov ob (by omega)) (by omega)).trans ((g4.2 ob (by omega)).trans o2)
  have A1' := A1
  have o5' := o5
  rw [hh5] at o5'
  rw [hh4] at A1' o5'
  simp only [H.next_push, pairC] at A1' o5'
  have hov1 := A2.one
  have cov := cells_of_one hov1
  have sov := solid_of_one hov1
  have len2 : lenV 1 h5.get ov' = some (.int .i64 ((pre.length + 1 : Nat) : Int)) := by
    have := (A2.sls (by intro e he; rcases List.mem_append.1 he with he | he; exact pairC_all pre e he; rw [List.mem_singleton] at he; subst he; rfl) (by simp; omega)).len
    simpa using this
  obtain ⟨h6, hh6⟩ : ∃ h6, h6 = h5.set ob (.row [ov']) := ⟨_, rfl⟩
  have o6 : h6.get ob = some (.row [ov']) := by rw [hh6]; simp
  have k6 : ∀ j, j ≠ ob → h6.get j = h5.get j := fun j hj => by rw [hh6, H.get_set, if_neg hj]
  have k5 : ∀ j, j < h3.next + 2 → h5.get j = h2.get j := fun j hj => (A4 j (nov j hj) (by omega)).trans (g4.2 j (by omega))
  have nb6 : h6.get nb = some (.row [.int .i64 (n : Nat)]) := (k6 nb hne).trans ((k5 nb (by omega)).trans nb2)
  have co6 : cellsAt h6.get ob 1 = some [ov'] := by rw [cellsAt_of o6 (by rfl)]; rfl
  have cn6 : cellsAt h6.get nb 1 = some [.int .i64 (n : Nat)] := by rw [cellsAt_of nb6 (by rfl)]; rfl
  have len6 : lenV 1 h6.get ov' = some (.int .i64 ((pre.length + 1 : Nat) : Int)) := by
    rcases A2 with ⟨e, _⟩ | ⟨_, j, _, _, e, _⟩
    · simp at e
    · rw [e] at len2 ⊢; simp
  have nlt : ¬ (n : Int) < ((pre.length + 1 : Nat) : Int) := by omega
  simp only [pfxC] at cq
  simp only [S.Hlaw03_all_cb]
  simp [t5, co, cq, A1', o5', sov, cov]
  simp only [pairC] at hh4
  rw [← hh4, ← hh5, ← hh6]
  have l6 : h6.get (h3.next + 1) = some (.loopo r1) := (k6 _ (by omega)).trans ((k5 _ (by omega)).trans l2)
  have lenI : ((pre.length + 1 : Nat) : Int) = (pre.length : Int) + 1 := by omega
  rw [lenI] at len6 nlt
  simp [t3, cn6, len6, nlt]
  refine ⟨r1, l6, ?_⟩
  rw [hr2]
  have n5 : h4.next ≤ h5.next := A3
  have n6 : h6.next = h5.next := by rw [hh6]; simp
  have w6 : h6.WF := by rw [hh6]; exact (A5 w4).set (by omega) _
  have kk : ∀ j, j < h3.next + 2 → j ≠ ob → j ≠ h3.next + 1 → h6.get j = h.get j := fun j a b c => (k6 j b).trans ((k5 j a).trans ((k2 j c).trans (g1.2 j (by omega))))
  refine ⟨w6.set (by omega) _, by simp; omega, fun j hj hn => ?_, ?_, by simp, ov', ?_, ?_⟩
  · rw [H.get_set, if_neg (by omega), kk j (by omega) hn (by omega), k1 j hj hn]
  · rw [H.get_set, if_neg (by omega), kk _ (by omega) (by omega) (by omega), d1]
  · rw [H.get_set, if_neg (by omega), o6]
  · have A2' : Gl h5 (h3.next + 2) 5 ov' ((pre ++ [x]).map pairC) := by simpa using A2
    exact A2'.keep (by simp; omega) fun i hi => by
      have := (A2'.lo i hi).1
      rw [H.get_set, if_neg (by omega), k6 i (by omega)]

theorem all_iter {h : H} {i : Nat} {Q : V → H → Prop} (q : h.WF → Q (.func (.func 57) [] [.ptr h.next 1 0]) (h.push (.row [.ptr i 3 0]))) : Acalls Tryd.prog 38 [.ptr i 3 0] h Q := by
  refine acalls_to Tryd.func38 S.trie_Trie_int_All_code S.trie_Trie_int_All_enter (Nat.le_of_ble_eq_true rfl) fun wf => ?_; simp only [S.trie_Trie_int_All]
  simp
  exact q wf
theorem all_loop {h3 : H} {i : Nat} {rs : List Rt} {m : Nat} {ns : List Nat} {n : Nat} (t : Tm) (w3 : h3.WF) (o : RsOk rs) (ta : TrieAt h3 i rs m ns) {ob nb tb : Nat} (nsn : ∀ j ∈ ns, j < h3.next ∧ j ≠ ob) (hb : rs.length ≤ 1000000) (hn : n < 1000000000) (hl : (rsPairs rs).length ≤ n)
    (hob : ob < h3.next) (ob3 : h3.get ob = some (.row [.nilsl])) (nb3 : h3.get nb = some (.row [.int .i64 (n : Nat)])) (hne : nb ≠ ob) (tb3 : h3.get tb = some (.row [.ptr i 3 0])) (htb : tb < h3.next ∧ tb ≠ ob) (t5 : t 5 = .ptr ob 1 0) (t3 : t 3 = .ptr nb 1 0) :
    Acalls Tryd.prog 57 [.yl (h3.next + 1), .ptr tb 1 0] (loopH 30 t #[16, 17] S.Hlaw03_all_as S.Hlaw03_all_bd h3) fun r h2 => r = .tup [] ∧
      outJ h3 ob ⟨.ready, none, (List.range 30).map t, #[16, 17], S.Hlaw03_all_as, S.Hlaw03_all_bd, h3.next⟩ (rsPairs rs) h2 := by
  obtain ⟨r0, hr0⟩ : ∃ r0 : LoopV, r0 = ⟨.ready, none, (List.range 30).map t, #[16, 17], S.Hlaw03_all_as, S.Hlaw03_all_bd, h3.next⟩ := ⟨_, rfl⟩
  have J0 : outJ h3 ob r0 [] (loopH 30 t #[16, 17] S.Hlaw03_all_as S.Hlaw03_all_bd h3) := by
    have e1 : ¬ ob = h3.next := by omega
    have e2 : ¬ ob = h3.next + 1 := by omega
    refine ⟨(w3.push _).push _, by simp [loopH], fun j hj hn => ?_, by simp [loopH], by simp [loopH, hr0], .nilsl, by simp [loopH, e1, e2, ob3], .inl ⟨rfl, rfl⟩⟩
    simp [loopH, show ¬ j = h3.next by omega, show ¬ j = h3.next + 1 by omega]
  rw [← hr0]
  have tl : Telling (h3.next + 1) 59 [] h3 ns (rsPairs rs) (outJ h3 ob r0) := by
    refine ⟨fun pre _ => outJ_sat hob w3 pre, fun pre h hj => hj.1, fun pre h hj j hjn => hj.2.2.1 j (nsn j hjn).1 (nsn j hjn).2, fun pre h h' hj g w => outJ_mono hob hj g w, fun pre x h hj hpre => ?_⟩
    refine all_round w3 hob nb3 hne hn (by rw [hr0]) (by rw [hr0]) (by rw [hr0]) (by rw [hr0]) (by rw [hr0]) (by rw [hr0]; simp) (by rw [hr0]; simp [t5]) (by rw [hr0]; simp [t3]) hj ?_
    have := hpre.length_le
    simp at this
    omega
  exact all1_ct tl o ta hb rfl (fun pre h hj => (hj.2.2.1 tb htb.1 htb.2).trans tb3) J0
theorem all_ct {h : H} {i : Nat} {rs : List Rt} {m : Nat} {ns : List Nat} (o : RsOk rs) (ta : TrieAt h i rs m ns) (hb : rs.length ≤ 1000000) {n : Nat} (hn : n < 1000000000) (hl : (rsPairs rs).length ≤ n) {Q : V → H → Prop}
    (q1 : ((rsPairs rs).map pairC).flatten = [] → Q .nilsl h) (q2 : ((rsPairs rs).map pairC).flatten ≠ [] → Q (.sl h.next ((rsPairs rs).map pairC).flatten.length 0 (rsPairs rs).length none) (h.push (.grow 5 ((rsPairs rs).map pairC).flatten))) :
    Acalls Tryd.prog 16 [.ptr i 3 0, .int .i64 (n : Nat)] h Q := by
  obtain ⟨cells, hcells⟩ : ∃ cells, cells = ((rsPairs rs).map pairC).flatten := ⟨_, rfl⟩
  obtain ⟨len, hlen⟩ : ∃ len, len = (rsPairs rs).length := ⟨_, rfl⟩
  have hids : V.idss cells = [] := by rw [hcells]; exact pair_ids _
  simp only [← hcells, ← hlen] at q1 q2
  refine Acalls.fresh (sz := 5) (len := len) (cells := cells) ?_ hids q1 q2
  refine acalls_range_to Tryd.func16 S.Hlaw03_all_rcode S.Hlaw03_all_enter (Nat.le_of_ble_eq_true rfl) fun wf => ?_
  have tlt := ta.lt wf
  simp only [S.Hlaw03_all_r]
  simp [ne_b, ne_c, ne_d]
  refine all_iter fun wf3 => ?_
  simp [eqV_fn, ne_d]
  obtain ⟨h3, hh3⟩ : ∃ h3, h3 = (((h.push (.row [.int .i64 (n : Nat)])).push (.row [.nilsl])).push (.row [.nilsl])).push (.row [.ptr i 3 0]) := ⟨_, rfl⟩
  rw [← hh3]
  have w3 : h3.WF := by rw [hh3]; exact (((wf.push _).push _).push _).push _
  have n3 : h3.next = h.next + 4 := by rw [hh3]; simp
  have g3 : Ge h h3 := by rw [hh3]; exact ((((Ge.refl _).push _).push _).push _).push _
  have ob3 : h3.get (h.next + 1 + 1) = some (.row [.nilsl]) := by rw [hh3]; simp
  have nb3 : h3.get (h.next + 0) = some (.row [.int .i64 (n : Nat)]) := by rw [hh3]; simp [ne_a, ne_b]
  have rs3 : h3.get (h.next + 1) = some (.row [.nilsl]) := by rw [hh3]; simp
  have tb3 : h3.get (h.next + 1 + 1 + 1) = some (.row [.ptr i 3 0]) := by rw [hh3]; simp
  skip
  refine rfor_of _ ?_
  have nsn : ∀ j ∈ ns, j < h3.next ∧ j ≠ h.next + 1 + 1 := fun j hj => by have := tlt j hj; omega
  refine Acalls.mono (all_loop (i := i) (rs := rs) (m := m) (ns := ns) (n := n) _ w3 o (ta.keep fun j hj => g3.2 j (tlt j hj)) nsn hb hn hl (ob := h.next + 1 + 1) (nb := h.next + 0) (tb := h.next + 1 + 1 + 1) (by omega) ob3 nb3 (by omega) tb3 (by omega) (by simp) (by simp)) ?_
  rintro _ h2 ⟨rfl, hJ2⟩
  have hJ2' := hJ2
  obtain ⟨w2, b2, k2, d2, l2, _⟩ := hJ2
  refine ⟨by simpa using d2, _, l2, by simp, ?_⟩
  obtain ⟨ov, f2, hov⟩ := outJ_end hJ2'
  rw [← hcells, ← hlen] at hov
  have co : cellsAt h2.get (h.next + 1 + 1) 1 = some [ov] := by rw [cellsAt_of f2 (by rfl)]; rfl
  have ov1 : ov.one = true := by rcases hov with ⟨rfl, _⟩ | ⟨_, j, rfl, _⟩ <;> rfl
  have cov := cells_of_one ov1
  have sov := solid_of_one ov1
  have rs2 : h2.get (h.next + 1) = some (.row [.nilsl]) := (k2 _ (by omega) (by omega)).trans rs3
  have m1 : ¬ h.next + 1 + 1 = h3.next + 1 := by omega
  have m2 : ¬ h.next + 1 = h3.next + 1 := by omega
  have m3 : ¬ h.next + 1 = h3.next := by omega
  have m4 : ¬ h3.next = h.next + 1 := by omega
  have m5 : ¬ h.next = h3.next := by omega
  have m6 : ¬ h.next + 1 = h3.next := by omega
  have m7 : ¬ h.next + 1 + 1 = h3.next := by omega
  have m8 : ¬ h3.next = h.next := by omega
  have m9 : ¬ h3.next = h.next + 1 := by omega
  have d2' : h2.get h3.next = some (.defo true) := d2
  simp [co, rs2, m3, m4, m5, sov, cov, d2', ne_a, ne_c, ne_d]
  refine ⟨⟨by simp only [H.next_set]; omega, fun j hj => ?_⟩, ?_⟩
  · rw [H.get_set, if_neg (by omega), H.get_set, if_neg (by omega), H.get_set, if_neg (by omega), k2 j (by omega) (by omega), g3.2 j hj]
  · rcases hov with ⟨e1, e2⟩ | ⟨e1, j, e2, e3, e4, e5⟩
    · exact .inl ⟨e1, e2⟩
    · exact .inr ⟨e1, j, e2, by omega, by rw [if_neg (by omega), if_neg (by omega), if_neg (by omega)]; exact e5⟩

end Go.Am

/-
  'works' answers true, by a run of its code.
-/
namespace Go.Am
open Go.Proofs
theorem works_run : saysTrue (Fr.runF8 Fr.q.tab 100000 60 15 [] ⟨0, .nil⟩) = true := by kernel_rfl
theorem works_ct (h : H) : Pure Tryd.prog 15 [] h (.bool true) := pure_true8 Fr.q.tab_ok works_run h
end Go.Am

/-
  Prefixes of small numbers: 'of'.
-/
namespace Go.Am
open Go.Proofs

set_option maxRecDepth 100000
structure Sp where
  fam : Nat
  a : Nat
  len : Nat
  v : Int
  deriving DecidableEq
structure SpOk (s : Sp) : Prop where
  fam : s.fam < 256
  a : s.a < 256
  len : s.len < 256
  v : -32768 ≤ s.v ∧ s.v ≤ 32767
def spC (s : Sp) : List V := [.int .u8 (s.fam : Nat), .int .u8 (s.a : Nat), .int .u8 (s.len : Nat), .int .i16 s.v]
def spFam (s : Sp) : Int := 1 + (s.fam % 2 : Nat)
def spAddr (s : Sp) : List UInt8 := UInt8.ofNat s.a :: UInt8.ofNat (s.a * 16 % 256) :: List.replicate (sizeN (spFam s) - 2) 0
def ofP (s : Sp) : Pfx := ⟨spFam s, 0, maskL (spAddr s) (s.len % 13 : Nat), (s.len % 13 : Nat)⟩
theorem may_mk {p : Pfx} (a1 : sizeN p.fam ≠ 0) (a2 : p.addr.length = sizeN p.fam) (a3 : 0 ≤ p.len) (a4 : p.len ≤ 8 * (sizeN p.fam : Int)) (a5 : p.rd = 0 ∨ apartF p.fam = true) (a6 : maskL p.addr p.len = p.addr) : mayP p = true := by
  simp only [mayP, Bool.and_eq_true, Bool.or_eq_true, decide_eq_true_eq]
  exact ⟨⟨⟨⟨⟨a1, a2⟩, a3⟩, a4⟩, a5⟩, a6⟩
theorem maskL_all : ∀ (l : List UInt8) (n : Int), 8 * (l.length : Int) ≤ n → maskL l n = l
  | [], _, _ => rfl
  | b :: l, n, h => by
    simp only [List.length_cons] at h
    rw [maskL, maskL_all l (n - 8) (by omega), maskN_big (by omega)]
    simp
theorem spFam_cases (s : Sp) : spFam s = 1 ∨ spFam s = 2 := by unfold spFam; omega
theorem sp_size (s : Sp) : sizeN (spFam s) = 4 ∨ sizeN (spFam s) = 16 := by
  rcases spFam_cases s with h | h <;> rw [h] <;> simp [sizeN]
theorem spAddr_len (s : Sp) : (spAddr s).length = sizeN (spFam s) := by
  have := sp_size s
  simp [spAddr]; omega
def spFull (s : Sp) : Pfx := ⟨spFam s, 0, spAddr s, (8 * sizeN (spFam s) : Nat)⟩
theorem spFull_may (s : Sp) : mayP (spFull s) = true := by
  have h1 := sp_size s
  have h2 := spAddr_len s
  have h3 := maskL_all (spAddr s) (8 * sizeN (spFam s) : Nat) (by rw [h2]; omega)
  exact may_mk (p := spFull s) (by show sizeN (spFam s) ≠ 0; omega) h2 (by show (0 : Int) ≤ (8 * sizeN (spFam s) : Nat); omega) (by show ((8 * sizeN (spFam s) : Nat) : Int) ≤ 8 * (sizeN (spFam s) : Int); omega) (.inl rfl) h3
theorem ofP_cut (s : Sp) : cutOk (spFull s) (s.len % 13 : Nat) = true := by
  have := sp_size s
  have h : ((s.len % 13 : Nat) : Int) ≤ (spFull s).len := by show ((s.len % 13 : Nat) : Int) ≤ (8 * sizeN (spFam s) : Nat); omega
  have h0 : (0 : Int) ≤ ((s.len % 13 : Nat) : Int) := by omega
  rw [cutOk, spFull_may, decide_eq_true h, decide_eq_true h0]; rfl
theorem ofP_may (s : Sp) : mayP (ofP s) = true := by
  have h1 := sp_size s
  have h2 := spAddr_len s
  exact may_mk (p := ofP s) (by show sizeN (spFam s) ≠ 0; omega) (by show (maskL _ _).length = _; rw [maskL_len, h2]; rfl) (by show (0 : Int) ≤ (s.len % 13 : Nat); omega) (by show ((s.len % 13 : Nat) : Int) ≤ 8 * (sizeN (spFam s) : Int); omega) (.inl rfl) (maskL_idem _ _)
theorem of_ct {h : H} {s : Sp} (ok : SpOk s) : Pure Tryd.prog 10 [.agg (spC s)] h (.agg (pfxC (ofP s))) := by
  refine pure_to Tryd.func10 S.Hlaw03_of_code S.Hlaw03_of_enter rfl (Nat.le_of_ble_eq_true rfl) fun wf => ?_; simp only [S.Hlaw03_of]
  obtain ⟨k1, k2, k3, k4⟩ := ok
  have sz := sp_size s
  have r2 : intV .rem .u8 (s.fam : Int) 2 = some (.int .u8 ((s.fam % 2 : Nat) : Int)) := by simp [intV]; rw [Int.tmod_eq_emod_of_nonneg (by omega)]
  have r13 : intV .rem .u8 (s.len : Int) 13 = some (.int .u8 ((s.len % 13 : Nat) : Int)) := by simp [intV]; rw [Int.tmod_eq_emod_of_nonneg (by omega)]
  have w2 : IntKind.i64.wrap ((s.fam % 2 : Nat) : Int) = ((s.fam % 2 : Nat) : Int) := wrap_i64_id (by omega) (by omega)
  have w13 : IntKind.i64.wrap ((s.len % 13 : Nat) : Int) = ((s.len % 13 : Nat) : Int) := wrap_i64_id (by omega) (by omega)
  have wf1 : IntKind.i64.wrap (1 + ((s.fam % 2 : Nat) : Int)) = spFam s := wrap_i64_id (by omega) (by omega)
  obtain ⟨f2, hf2⟩ : ∃ f2 : Nat, f2 = s.fam % 2 := ⟨_, rfl⟩
  obtain ⟨l13, hl13⟩ : ∃ l13 : Nat, l13 = s.len % 13 := ⟨_, rfl⟩
  rw [← hf2] at r2 w2 wf1
  rw [← hl13] at r13 w13
  simp only [spC]
  simp [r2, w2, wf1]
  refine psize_ct _ ?_
  have sh : shiftV .shl .u8 (s.a : Int) 4 = some (.int .u8 ((s.a * 16 % 256 : Nat) : Int)) := by simp [shiftV, IntKind.wrap, IntKind.bits, IntKind.signed]
  have b1 : (UInt8.ofNat s.a).toNat = s.a := by simp; omega
  have b2 : (UInt8.ofNat (s.a * 16 % 256)).toNat = s.a * 16 % 256 := by simp
  have ok13 : cutOk (spFull s) (l13 : Nat) = true := by rw [hl13]; exact ofP_cut s
  have fin : (⟨(spFull s).fam, (spFull s).rd, maskL (spFull s).addr (l13 : Nat), (l13 : Nat)⟩ : Pfx) = ofP s := by rw [hl13]; rfl
  have cc : ∀ h, Pure Tryd.prog 34 [.agg [.int .i64 (spFam s), .int .u64 0, .str (spAddr s), .int .i64 ((8 * sizeN (spFam s) : Nat) : Int)], .int .i64 (l13 : Nat)] h (.tup [.agg (pfxC (ofP s)), .int .i64 0]) := fun h => by
    have := cut_ct (h := h) (p := spFull s) (n := (l13 : Nat))
    rw [if_pos ok13, if_pos ok13, fin] at this
    exact this
  rcases sz with sz | sz
  · have ea : spAddr s = [UInt8.ofNat s.a, UInt8.ofNat (s.a * 16 % 256), 0, 0] := by simp [spAddr, sz]
    simp only [ea, sz] at cc
    simp [makeSliceV, sz, repCells, sh, r13, w13, ne_a, ne_b, elemsV_sl, u8Of]
    refine cc _ _ ?_
    simp [ne_a, ne_b, ne_c, pfxC]
    repeat' (first | exact Ge.refl _ | refine Ge.push ?_ _ | refine Ge.set ?_ (by omega) _)
  · have ea : spAddr s = [UInt8.ofNat s.a, UInt8.ofNat (s.a * 16 % 256), 0, 0, 0, 0, 0, 0, 0, 0, 0, 0, 0, 0, 0, 0] := by simp [spAddr, sz]
    simp only [ea, sz] at cc
    simp [makeSliceV, sz, repCells, sh, r13, w13, ne_a, ne_b, elemsV_sl, u8Of]
    refine cc _ _ ?_
    simp [ne_a, ne_b, ne_c, pfxC]
    repeat' (first | exact Ge.refl _ | refine Ge.push ?_ _ | refine Ge.set ?_ (by omega) _)
end Go.Am

/-
  Small numbers and acts among the arguments.
-/
namespace Go.Am
open Go.Proofs

def spLs : List Lf := [.int .u8, .int .u8, .int .u8, .int .i16]
theorem sp_of {vs : List V} (h : Lfs spLs vs) : ∃ s : Sp, SpOk s ∧ vs = spC s := by
  cases h with
  | cons k1 t1 => cases t1 with
    | cons k2 t2 => cases t2 with
      | cons k3 t3 => cases t3 with
        | cons k4 t4 =>
          cases t4
          obtain ⟨a, rfl, h1⟩ := Lf.nat k1 rfl
          obtain ⟨b, rfl, h2⟩ := Lf.nat k2 rfl
          obtain ⟨c, rfl, h3⟩ := Lf.nat k3 rfl
          obtain ⟨v, rfl, h4⟩ := k4
          simp [Lit.wf, IntKind.min, IntKind.max, IntKind.bits, IntKind.signed] at h4
          exact ⟨⟨a, b, c, v⟩, ⟨h1, h2, h3, by omega⟩, rfl⟩
theorem spots_of : ∀ {ess : List (List V)}, (∀ e ∈ ess, Lfs spLs e) → ∃ l : List Sp, ess = l.map spC ∧ ∀ s ∈ l, SpOk s
  | [], _ => ⟨[], rfl, by simp⟩
  | e :: ess, h => by
    obtain ⟨s, hs, rfl⟩ := sp_of (h e (by simp))
    obtain ⟨l, rfl, hl⟩ := spots_of (ess := ess) fun x hx => h x (by simp [hx])
    exact ⟨s :: l, rfl, fun x hx => by
      rcases List.mem_cons.1 hx with rfl | hx
      · exact hs
      · exact hl x hx⟩
end Go.Am

/-
  The trie's contracts, as the laws use them.
-/
namespace Go.Am
open Go.Proofs

set_option maxRecDepth 100000
theorem TTurned.self {h : H} {i : Nat} {rs : List Rt} {n : Nat} {ns : List Nat} (a : TrieAt h i rs n ns) (w : h.WF) : TTurned ns h i rs n h := ⟨⟨ns, a, fun _ h => .inl h⟩, Out.refl _ _, w⟩
theorem TTurned.later {ns : List Nat} {hb h h' : H} {i : Nat} {rs : List Rt} {n : Nat} (t : TTurned ns hb i rs n h) (g : Ge h h') (w : h'.WF) : TTurned ns hb i rs n h' := by
  obtain ⟨⟨ms, a, b⟩, c, d⟩ := t
  exact ⟨⟨ms, a.keep fun j hj => g.2 j (a.lt d j hj), b⟩, ⟨Nat.le_trans c.next g.1, fun j hj hn => (g.2 j (Nat.lt_of_lt_of_le hj c.next)).trans (c.keep j hj hn)⟩, w⟩
theorem TTurned.set_ct {ns : List Nat} {hb h : H} {i : Nat} {rs : List Rt} (t : TTurned ns hb i rs (rsPairs rs).length h) (o : RsOk rs) (b : rs.length < 1000000) (bn : (rsPairs rs).length < 1000000000) {p : Pfx} (hp : mayP p = true) (x : Int) :
    Acalls Tryd.prog 9 [.ptr i 3 0, .agg (pfxC p), .int .i64 x] h fun u h' => u = .int .i64 0 ∧ TTurned ns hb i (tset rs p x) (rsPairs (tset rs p x)).length h' := by
  obtain ⟨⟨ms, a, hs⟩, c, d⟩ := t
  refine Acalls.mono (tset_ct o a b bn hp x) ?_
  rintro u h' ⟨rfl, q⟩
  refine ⟨rfl, ?_⟩
  rw [tset_len]
  exact TTurned.up (Ge.refl _) c hs q
theorem gl_fresh {h : H} {l : List (Pfx × Int)} {Q : V → H → Prop} (wf : h.WF) (q : ∀ v h', Ge h h' → h'.WF → Gl h' h.next 5 v (l.map pairC) → Q v h') : ((l.map pairC).flatten = [] → Q .nilsl h) ∧ ((l.map pairC).flatten ≠ [] → Q (.sl h.next (l.map pairC).flatten.length 0 l.length none) (h.push (.grow 5 (l.map pairC).flatten))) := by
  refine ⟨fun e => q _ _ (Ge.refl _) wf (.inl ⟨?_, rfl⟩), fun e => q _ _ ((Ge.refl _).push _) (wf.push _) (.inr ⟨fun e2 => e (by rw [e2]; rfl), h.next, Nat.le_refl _, by simp, by simp, by simp⟩)⟩
  cases l with
  | nil => rfl
  | cons x l => simp [pairC] at e
theorem all_gl {h : H} {i : Nat} {rs : List Rt} {m : Nat} {ns : List Nat} (o : RsOk rs) (ta : TrieAt h i rs m ns) (hb : rs.length ≤ 1000000) {n : Nat} (hn : n < 1000000000) (hl : (rsPairs rs).length ≤ n) {Q : V → H → Prop} (q : ∀ v h', Ge h h' → h'.WF → Gl h' h.next 5 v ((rsPairs rs).map pairC) → Q v h') :
    Acalls Tryd.prog 16 [.ptr i 3 0, .int .i64 (n : Nat)] h Q :=
  Acalls.wf S.Hlaw03_all_enter fun wf => all_ct o ta hb hn hl (gl_fresh wf q).1 (gl_fresh wf q).2
theorem eq_pair (a b : Pfx × Int) : eqV (TS.st [(0, 4, true, (TS.st [(0, 1, false, TS.int), (1, 1, false, TS.int), (2, 1, false, TS.str), (3, 1, false, TS.int)])), (4, 1, false, TS.int)]) (.agg (pairC a)) (.agg (pairC b)) = some (decide (a = b)) := by
  show eqFs _ _ _ = _
  rw [eqFs_cons (x := .agg (pfxC a.1)) (y := .agg (pfxC b.1)) rfl rfl (eq_pf _ _), eqFs_cons rfl rfl (eqV_int _ _ _), show eqFs [] (pairC a) (pairC b) = some true from rfl]
  simp only [ifs]
  obtain ⟨p, i⟩ := a
  obtain ⟨p', i'⟩ := b
  simp only [Prod.mk.injEq, Bool.and_true, Bool.decide_and]
end Go.Am

/-
  Copy.
-/
namespace Go.Am
open Go.Proofs

set_option maxRecDepth 100000
/-! ### A trie of given pairs -/
theorem roots_make : ∀ (rs : List Rt) (h : H), h.WF → ∃ cs ns h', RootsAt h'.get rs cs ns ∧ ns.Nodup ∧ (∀ i ∈ ns, h.next ≤ i) ∧ Ge h h' ∧ h'.WF
  | [], h, wf => ⟨[], [], h, ⟨rfl, rfl⟩, List.nodup_nil, by simp, .refl _, wf⟩
  | r :: rs, h, wf => by
    obtain ⟨v, n1, h1, a1, b1, c1, d1, e1⟩ := tree_make (f := r.fam) (rd := r.rd) r.t h wf
    obtain ⟨cs, n2, h2, a2, b2, c2, d2, e2⟩ := roots_make rs h1 e1
    have l1 := a1.lt e1
    refine ⟨rootC r.fam r.rd v :: cs, n1 ++ n2, h2, ⟨v, cs, n1, n2, rfl, a1.keep fun j hj => d2.2 j (l1 j hj), a2, rfl⟩, List.nodup_append.2 ⟨b1, b2, fun i hi j hj e => ?_⟩, fun j hj => ?_, d1.trans d2, e2⟩
    · subst e; have := l1 i hi; have := c2 i hj; omega
    · have := d1.1
      rcases List.mem_append.1 hj with hj | hj
      · exact c1 j hj
      · have := c2 j hj; omega
theorem trie_make (rs : List Rt) (n : Nat) {h : H} (wf : h.WF) {c : Nat} (hc : c < h.next) : ∃ h', TTurned [c] h c rs n h' := by
  obtain ⟨cs, ms, h1, a, b, m, g, w⟩ := roots_make rs h wf
  have ml : ∀ j ∈ ms, j < h1.next := fun j hj => by obtain ⟨o, ho⟩ := a.live j hj; exact w.lt ho
  have g1 := g.1
  have cm : c ∉ ms := fun hm => by have := m c hm; omega
  by_cases e : cs = []
  · refine ⟨h1.set c (trieO .nilsl n), ⟨⟨c :: ([] ++ ms), ⟨.nilsl, cs, [], ms, by simp, .inl ⟨e, rfl, rfl⟩, a.keep fun j hj => by rw [H.get_set, if_neg (show ¬ j = c from fun e => cm (e ▸ hj))], rfl, List.nodup_cons.2 ⟨by simpa using cm, b⟩⟩, fun j hj => ?_⟩, ⟨by simpa using g1, fun j hj hn => ?_⟩, w.set (by omega) _⟩⟩
    · rcases List.mem_cons.1 hj with hj | hj
      · exact .inl (by simp [hj])
      · exact .inr (m j (by simpa using hj))
    · rw [H.get_set, if_neg (by simpa using hn)]; exact g.2 j hj
  · refine ⟨(h1.push (.grow 3 cs.flatten)).set c (trieO (.sl h1.next (cs.length * 3) 0 cs.length none) n), ⟨⟨c :: ([h1.next] ++ ms), ⟨_, cs, [h1.next], ms, by rw [H.get_set, if_pos rfl], .inr ⟨h1.next, e, rfl, ?_, rfl⟩, a.keep fun j hj => ?_, rfl, ?_⟩, fun j hj => ?_⟩, ⟨by simp; omega, fun j hj hn => ?_⟩, (w.push _).set (by simp; omega) _⟩⟩
    · rw [H.get_set, if_neg (by omega), H.get_push, if_pos rfl]
    · have := ml j hj
      rw [H.get_set, if_neg (show ¬ j = c from fun e => cm (e ▸ hj)), H.get_push, if_neg (by omega)]
    · simp only [List.cons_append, List.nil_append, List.nodup_cons, List.mem_cons, not_or]
      exact ⟨⟨by omega, cm⟩, fun hm => by have := ml _ hm; omega, b⟩
    · simp only [List.cons_append, List.nil_append, List.mem_cons] at hj
      rcases hj with hj | hj | hj
      · exact .inl (by simp [hj])
      · exact .inr (by omega)
      · exact .inr (m j hj)
    · rw [H.get_set, if_neg (by simpa using hn), H.get_push, if_neg (by omega)]; exact g.2 j hj

/-! ### The rounds -/
end Go.Am

/-
  TrieLast.
-/
namespace Go.Am
open Go.Proofs

set_option maxRecDepth 100000
/-! ### The last values -/
def lastV : List (Pfx × Int) → Pfx → Option Int
  | [], _ => none
  | x :: r, q => match lastV r q with
    | some y => some y
    | none => if x.1 = q then some x.2 else none
theorem lastV_snoc : ∀ (l : List (Pfx × Int)) (x : Pfx × Int) (q : Pfx), lastV (l ++ [x]) q = if x.1 = q then some x.2 else lastV l q
  | [], x, q => by simp [lastV]
  | a :: l, x, q => by
    simp only [List.cons_append, lastV, lastV_snoc l x q]
    split
    · rename_i h; split at h <;> simp_all
    · rename_i h; split at h <;> simp_all
theorem lastV_mem : ∀ {l : List (Pfx × Int)} {q : Pfx} {y : Int}, lastV l q = some y → (q, y) ∈ l
  | [], _, _, h => by simp [lastV] at h
  | x :: r, q, y, h => by
    simp only [lastV] at h
    split at h
    · rename_i h2; simp only [Option.some.injEq] at h; subst h; exact List.mem_cons_of_mem _ (lastV_mem h2)
    · split at h
      · rename_i h3; simp only [Option.some.injEq] at h; subst h; subst h3; simp
      · cases h
theorem lastV_none : ∀ {l : List (Pfx × Int)} {q : Pfx}, lastV l q = none ↔ ∀ x ∈ l, x.1 ≠ q
  | [], _ => by simp [lastV]
  | x :: r, q => by
    simp only [lastV, List.forall_mem_cons]
    have ih := lastV_none (l := r) (q := q)
    cases h : lastV r q with
    | none =>
      have ih' := ih.1 h
      constructor
      · intro h2
        refine ⟨fun e => ?_, ih'⟩
        simp only [if_pos e] at h2
        cases h2
      · rintro ⟨h3, _⟩
        simp only [if_neg h3]
    | some y =>
      constructor
      · intro h2; cases h2
      · rintro ⟨_, h3⟩
        have := ih.2 h3
        rw [h] at this; cases this
/-- Those behind which none of the same prefix comes. -/
def lasts : List (Pfx × Int) → List (Pfx × Int)
  | [] => []
  | x :: r => if r.any (fun z => decide (z.1 = x.1)) = true then lasts r else x :: lasts r
theorem lasts_sub : ∀ {l : List (Pfx × Int)} {x}, x ∈ lasts l → x ∈ l
  | [], _, h => by simp [lasts] at h
  | a :: r, x, h => by
    simp only [lasts] at h
    split at h
    · exact List.mem_cons_of_mem _ (lasts_sub h)
    · rcases List.mem_cons.1 h with rfl | h
      · simp
      · exact List.mem_cons_of_mem _ (lasts_sub h)
theorem lasts_iff : ∀ {l : List (Pfx × Int)} {q : Pfx} {y : Int}, (q, y) ∈ lasts l ↔ lastV l q = some y
  | [], _, _ => by simp [lasts, lastV]
  | x :: r, q, y => by
    have ih := lasts_iff (l := r) (q := q) (y := y)
    simp only [lasts, lastV]
    by_cases h : r.any (fun z => decide (z.1 = x.1)) = true
    · rw [if_pos h, ih]
      obtain ⟨z, hz, hzx⟩ := List.any_eq_true.1 h
      simp only [decide_eq_true_eq] at hzx
      cases hv : lastV r q with
      | some w => simp
      | none =>
        have := lastV_none.1 hv z hz
        rw [hzx] at this
        simp [this]
    · rw [if_neg h, List.mem_cons, ih]
      have hn : ∀ z ∈ r, z.1 ≠ x.1 := fun z hz e => h (List.any_eq_true.2 ⟨z, hz, by simpa using e⟩)
      cases hv : lastV r q with
      | some w =>
        have : x.1 ≠ q := fun e => hn _ (lastV_mem hv) e.symm
        simp only [Option.some.injEq]
        constructor
        · rintro (h | h)
          · exact absurd (by rw [← h]) this
          · exact h
        · exact .inr
      | none =>
        simp
        constructor
        · intro e; rw [← e]; simp
        · rintro ⟨rfl, rfl⟩; rfl
theorem lasts_nodup : ∀ l : List (Pfx × Int), (lasts l).Nodup
  | [] => List.nodup_nil
  | x :: r => by
    simp only [lasts]
    split
    · exact lasts_nodup r
    · rename_i h
      refine List.nodup_cons.2 ⟨fun hm => h ?_, lasts_nodup r⟩
      exact List.any_eq_true.2 ⟨x, lasts_sub hm, by simp⟩
theorem nodup_le {α : Type} [DecidableEq α] : ∀ {a b : List α}, a.Nodup → (∀ x ∈ a, x ∈ b) → a.length ≤ b.length
  | [], _, _, _ => by simp
  | x :: a, b, hn, hs => by
    obtain ⟨h1, h2⟩ := List.nodup_cons.1 hn
    have hx := hs x (by simp)
    have := nodup_le (a := a) (b := b.erase x) h2 fun y hy => (List.mem_erase_of_ne (show y ≠ x from fun e => h1 (e ▸ hy))).2 (hs y (by simp [hy]))
    rw [List.length_erase_of_mem hx] at this
    have : 0 < b.length := List.length_pos_of_mem hx
    simp; omega
theorem nodup_len {α : Type} [DecidableEq α] {a b : List α} (ha : a.Nodup) (hb : b.Nodup) (h : ∀ x, x ∈ a ↔ x ∈ b) : a.length = b.length :=
  Nat.le_antisymm (nodup_le ha fun x hx => (h x).1 hx) (nodup_le hb fun x hx => (h x).2 hx)
theorem TTurned.sat {ns : List Nat} {hb h : H} {i : Nat} {rs0 : List Rt} {n0 : Nat} (t : TTurned ns hb i rs0 n0 h) (rs : List Rt) (n : Nat) : ∃ h', TTurned ns hb i rs n h' := by
  obtain ⟨⟨ms, a, b⟩, c, w⟩ := t
  have him : i ∈ ms := by obtain ⟨_, _, _, _, _, _, _, rfl, _⟩ := a; simp
  obtain ⟨h', q⟩ := trie_make rs n w (a.lt w i him)
  exact ⟨h', q.up (Ge.refl _) c fun j hj => by rw [List.mem_singleton] at hj; subst hj; exact b j him⟩
def spP (s : Sp) : Pfx × Int := (ofP s, s.v)
/-- An element of a list of pairs. -/
theorem pair_at {g : Nat → Option O} {v : V} {l : List (Pfx × Int)} (s : Sls g 5 v (l.map pairC)) {k : Nat} (hk : k < l.length) : ∃ p q o cs, (∀ kd, indexAddrV 5 v (.int kd (k : Int)) = some (.ptr p q o)) ∧ cellsAt g p q = some cs ∧ o + 5 ≤ cs.length ∧ o + 4 ≤ cs.length ∧ (cs.drop o).take 5 = pairC l[k] ∧ (cs.drop o).take 4 = pfxC l[k].1 := by
  obtain ⟨p, q, o, cs, h1, h2, h3, h4, _⟩ := s.at (k := k) (by simpa using hk)
  rw [List.getElem_map] at h4
  refine ⟨p, q, o, cs, h1, h2, h3, by omega, h4, ?_⟩
  have := congrArg (List.take 4) h4
  rw [List.take_take] at this
  exact this
theorem lastV_app : ∀ (a : List (Pfx × Int)) {b : List (Pfx × Int)} {q : Pfx} {y : Int}, lastV b q = some y → lastV (a ++ b) q = some y
  | [], _, _, _, h => h
  | x :: a, b, q, y, h => by simp [lastV, lastV_app a h]
theorem TTurned.geM {ns : List Nat} {hb h0 h : H} {i : Nat} {rs : List Rt} {n : Nat} (t : TTurned ns hb i rs n h) (g : Ge h0 hb) (hn : ∀ j ∈ ns, h0.next ≤ j) : Ge h0 h := ⟨Nat.le_trans g.1 t.out.next, fun j hj => (t.out.keep j (Nat.lt_of_lt_of_le hj g.1) (fun hm => by have := hn j hm; omega)).trans (g.2 j hj)⟩
theorem sp_conv {s : Sp} (h : SpOk s) : IntKind.i64.wrap s.v = s.v := by obtain ⟨a, b⟩ := h.v; exact wrap_i64_id (by omega) (by omega)
set_option maxHeartbeats 4000000 in
theorem tlastlaw_ct {h : H} {lv : V} {l : List Sp} (sl : Sls h.get 4 lv (l.map spC)) (hl : ∀ s ∈ l, SpOk s) : Pure Tryd.prog 4 [lv] h (.bool true) := by
  refine pure_to Tryd.func4 S.Hlaw03_TrieLast_code S.Hlaw03_TrieLast_enter rfl (Nat.le_of_ble_eq_true rfl) fun wf => ?_; simp only [S.Hlaw03_TrieLast]
  have bl := sl.bound
  rw [List.length_map] at bl
  have L0 := fun h' (g : Ge h h') => sl.lenG wf (List.length_map ..) h' g
  simp
  refine new_ct fun _ ta0 => ?_
  simp
  refine new_ct fun wx tu0 => ?_
  obtain ⟨h2, hh2⟩ : ∃ h2, h2 = (h.push (trieO .nilsl 0)).push (trieO .nilsl 0) := ⟨_, rfl⟩
  have g2 : Ge h h2 := by rw [hh2]; exact ((Ge.refl _).push _).push _
  have w2 : h2.WF := by rw [hh2]; exact (wf.push _).push _
  have n2 : h2.next = h.next + 2 := by rw [hh2]; simp
  obtain ⟨i, hi⟩ : ∃ i, i = h.next := ⟨_, rfl⟩
  obtain ⟨c, hc⟩ : ∃ c, c = h.next + 1 := ⟨_, rfl⟩
  have ta2 : TrieAt h2 i [] 0 [i] := by
    rw [← hi] at ta0
    exact ta0.keep fun j hj => by simp at hj; subst hj; rw [hh2]; simp [hi]
  have tu2 : TrieAt h2 c [] 0 [c] := by
    simp only [H.next_push] at tu0
    rw [← hh2, ← hc] at tu0; exact tu0
  simp only [H.next_push]
  rw [← hh2, ← hi, show i + 1 = c by omega]
  obtain ⟨n, hn⟩ : ∃ n, n = min l.length 60 := ⟨_, rfl⟩
  have mm : (if (60 : Int) < (l.length : Int) then (60 : Int) else (l.length : Int)) = (n : Nat) := by split <;> omega
  have L2 := L0 h2 g2
  simp [L2, mm]
  obtain ⟨L, hL⟩ : ∃ L, L = (l.take n).map spP := ⟨_, rfl⟩
  have hLl : L.length = n := by rw [hL]; simp; omega
  have hLk : ∀ k (hk : k < n) (hk2 : k < l.length) (hk3 : k < L.length), L[k] = spP l[k] := fun k _ _ _ => by simp [hL]
  have mayL : ∀ x ∈ L, mayP x.1 = true := fun x hx => by
    rw [hL] at hx
    obtain ⟨s, _, rfl⟩ := List.mem_map.1 hx
    exact ofP_may s
  -- what is read of an element
  have elem : ∀ k (hk : k < l.length) (h' : H), Ge h h' → ∃ pp q off ccs, (∀ kd, indexAddrV 4 lv (.int kd (k : Int)) = some (.ptr pp q off)) ∧ pp < h.next ∧ cellsAt h'.get pp q = some ccs ∧ off + 4 ≤ ccs.length ∧ (ccs.drop off).take 4 = [.int .u8 (l[k].fam : Nat), .int .u8 (l[k].a : Nat), .int .u8 (l[k].len : Nat), .int .i16 l[k].v] ∧ ccs[off + 3]? = some (.int .i16 l[k].v) := fun k hk h' g => by
    obtain ⟨pp, q, off, ccs, e1, e2, e3, e4, e5, e6⟩ := sl.atG wf (k := k) (by simpa using hk)
    rw [List.getElem_map] at e5 e6
    exact ⟨pp, q, off, ccs, e1, e2, e3 h' g, e4, e5, e6 3 (by omega)⟩
  refine loop_cut 0 (fun t h' => (t 0 = lv ∧ t 3 = .ptr i 3 0 ∧ t 4 = .ptr c 3 0 ∧ t 5 = .int .i64 (n : Nat)) ∧ ∃ rs, RsOk rs ∧ TTurned [i] h2 i rs (rsPairs rs).length h' ∧ rs.length ≤ 60 ∧ (rsPairs rs).length ≤ 60 ∧ ∀ q y, (q, y) ∈ rsPairs rs ↔ lastV L q = some y)
    (fun k t h' => (t 0 = lv ∧ t 3 = .ptr i 3 0 ∧ t 4 = .ptr c 3 0 ∧ t 5 = .int .i64 (n : Nat) ∧ t 6 = .int .i64 (k : Nat)) ∧ k ≤ n ∧ ∃ rs, RsOk rs ∧ TTurned [i] h2 i rs (rsPairs rs).length h' ∧ rs.length ≤ k ∧ (rsPairs rs).length ≤ k ∧ ∀ q y, (q, y) ∈ rsPairs rs ↔ lastV (L.take k) q = some y) 60
    ⟨by simp, by omega, [], ⟨by simp, by simp⟩, TTurned.self ta2 w2, by simp, by simp [rsPairs], fun q y => by simp [rsPairs, lastV]⟩ ?_ ?_
  · rintro k t h' hk ⟨⟨t0, t3, t4, t5, t6⟩, hkl, rs, ro, tt, b1, b2, b3⟩ K R hK hJ _
    have gh' : Ge h h' := tt.geM g2 (by simp; omega)
    by_cases hlt : k < n
    · have hw := wrap_succ hlt (by omega)
      have hkll : k < l.length := by omega
      obtain ⟨pp, q, off, ccs, e1, e2, e3, e4, e5, e6⟩ := elem k hkll h' gh'
      have hs := hl l[k] (List.getElem_mem hkll)
      have sc := sp_conv hs
      simp [t6, t5, hlt]
      refine dreg_awp [pp] [0, 0, 0, 0, 0, 1, 0, 0, 0, 0, 2, 0, 0, 0] (by rfl) (by rfl) ?_
      simp [t3, t0, t6, e1, e3, e4, e5]
      refine acall_of (of_ct hs) (by decide) (fun _ => Keep.refl _ _) ?_
      simp [t0, t6, e1, e3, e6, I.foot, refOf, sc]
      refine acall_rel (by decide) (tt.sat (tset rs (ofP l[k]) l[k].v) (rsPairs (tset rs (ofP l[k]) l[k].v)).length |>.elim fun h' hh => ⟨_, h', rfl, hh⟩) (tt.set_ct ro (by omega) (by omega) (ofP_may _) l[k].v) ?_
      rintro _ h3 ⟨rfl, tt3⟩
      refine ⟨by simp, ?_⟩
      simp [t6, hw]
      refine hK _ _ (by omega) ⟨by simp [t0, t3, t4, t5], hlt, _, tset_ok ro (ofP_may _) _, tt3, ?_, ?_, fun q y => ?_⟩
      · have := tset_rts rs (ofP l[k]) l[k].v; omega
      · have := tset_len rs (ofP l[k]) l[k].v
        split at this <;> omega
      · rw [tset_mem ro (ofP_may _), List.take_add_one, List.getElem?_eq_getElem (by omega), hLk k hlt hkll (by omega), Option.toList_some, lastV_snoc, b3]
        show _ ↔ (if ofP l[k] = q then some l[k].v else _) = some y
        by_cases e : q = ofP l[k]
        · rw [if_pos e, if_pos e.symm]; simp [eq_comm]
        · rw [if_neg e, if_neg (fun h => e h.symm)]
    · have hkk : k = n := by omega
      simp [t6, t5, hlt]
      rw [hkk, ← hLl, List.take_length] at b3
      exact hJ _ _ ⟨by simp [t0, t3, t4, t5], rs, ro, tt, by omega, by omega, b3⟩
  · rintro t h3 ⟨⟨t0, t3, t4, t5⟩, rs, ro, tt, b1, b2, b3⟩
    simp [t5]
    have n60 : n ≤ 60 := by omega
    have w3 := tt.wf
    have gh3 : Ge h h3 := tt.geM g2 (by simp; omega)
    obtain ⟨nsT, taT, subT⟩ := tt.ex
    have ltT := taT.lt w3
    have tu3 : TrieAt h3 c [] 0 [c] := tu2.out w2 tt.out (fun j hj => by simp at hj ⊢; omega)
    have ltc : c < h3.next := tu3.lt w3 c (by simp)
    have cT : c ∉ nsT := fun hm => by
      rcases subT c hm with h | h
      · simp at h; omega
      · omega
    have wneg : ∀ z : Int, -1 ≤ z → z ≤ 60 → IntKind.i64.wrap z = z := fun z a b => wrap_i64_id (by omega) (by omega)
    rw [wneg _ (by omega) (by omega)]
    refine loop_cut 2 (fun t h' => (t 0 = lv ∧ t 3 = .ptr i 3 0 ∧ t 4 = .ptr c 3 0 ∧ t 5 = .int .i64 (n : Nat)) ∧ ∃ us, RsOk us ∧ TTurned [c] h3 c us (rsPairs us).length h' ∧ us.length ≤ 60 ∧ (rsPairs us).length ≤ 60 ∧ ∀ q y, (q, y) ∈ rsPairs us ↔ lastV L q = some y)
      (fun k t h' => (t 0 = lv ∧ t 3 = .ptr i 3 0 ∧ t 4 = .ptr c 3 0 ∧ t 5 = .int .i64 (n : Nat) ∧ t 7 = .int .i64 ((n : Int) - 1 - (k : Nat))) ∧ k ≤ n ∧ ∃ us, RsOk us ∧ TTurned [c] h3 c us (rsPairs us).length h' ∧ us.length ≤ k ∧ (rsPairs us).length ≤ k ∧ ∀ q y, (q, y) ∈ rsPairs us ↔ lastV (L.drop (n - k)) q = some y) 60
      ⟨by simp [t0, t3, t4, t5], by omega, [], ⟨by simp, by simp⟩, TTurned.self tu3 w3, by simp, by simp [rsPairs], fun q y => by rw [Nat.sub_zero, ← hLl, List.drop_length]; simp [rsPairs, lastV]⟩ ?_ ?_
    · rintro k t h' hk ⟨⟨t0, t3, t4, t5, t7⟩, hkl, us, uo, tu, c1, c2, c3⟩ K R hK hJ _
      have gh' : Ge h h' := tu.geM gh3 (by simp; omega)
      by_cases hlt : k < n
      · obtain ⟨m, hm⟩ : ∃ m, m = n - 1 - k := ⟨_, rfl⟩
        have ez : (n : Int) - 1 - (k : Nat) = (m : Nat) := by omega
        rw [ez] at t7
        have hml : m < l.length := by omega
        have hmL : m < L.length := by omega
        have wm : IntKind.i64.wrap ((m : Int) - 1) = (n : Int) - 1 - ((k + 1 : Nat) : Int) := by rw [wneg _ (by omega) (by omega)]; omega
        obtain ⟨pp, q, off, ccs, e1, e2, e3, e4, e5, e6⟩ := elem m hml h' gh'
        have hs := hl l[m] (List.getElem_mem hml)
        have sc := sp_conv hs
        have e1m := hLk m (by omega) hml hmL
        have dr : L.drop (n - (k + 1)) = spP l[m] :: L.drop (n - k) := by
          rw [show n - (k + 1) = m by omega, List.drop_eq_getElem_cons hmL, e1m, show n - k = m + 1 by omega]
        obtain ⟨nsU, taU, subU⟩ := tu.ex
        have hnn : ¬ ((m : Nat) : Int) < 0 := by omega
        simp [t7, t4, t0, e1, e3, e4, e5]
        refine of_ct hs _ ?_
        simp
        refine get_ct (p := ofP l[m]) uo taU (by omega) _ ?_
        simp
        cases hg : tget us (ofP l[m]) with
        | some z =>
          have hz := (c3 _ _).1 ((tget_iff uo).1 hg)
          simp [t7, wm]
          refine hK _ _ (by omega) ⟨by simp [t0, t3, t4, t5], by omega, us, uo, tu, by omega, by omega, fun q y => ?_⟩
          rw [c3, dr, lastV]
          show _ ↔ (match lastV _ q with | some y => some y | none => if ofP l[m] = q then some l[m].v else none) = some y
          by_cases e : ofP l[m] = q
          · rw [← e, hz]
          · rw [if_neg e]
            cases lastV (L.drop (n - k)) q <;> simp
        | none =>
          have hz : lastV (L.drop (n - k)) (ofP l[m]) = none := by
            cases hv : lastV (L.drop (n - k)) (ofP l[m]) with
            | none => rfl
            | some z =>
              have := (tget_iff uo).2 ((c3 _ _).2 hv)
              rw [hg] at this; cases this
          simp
          refine dreg_awp [pp] [0, 0, 0, 0, 0, 1, 0, 0, 0, 0, 2, 0, 0] (by rfl) (by rfl) ?_
          simp [t4, t0, t7, e1, e3, e4, e5]
          refine acall_of (of_ct hs) (by decide) (fun _ => Keep.refl _ _) ?_
          simp [t0, t7, e1, e3, e6, I.foot, refOf, sc]
          refine acall_rel (by decide) (tu.sat (tset us (ofP l[m]) l[m].v) (rsPairs (tset us (ofP l[m]) l[m].v)).length |>.elim fun h' hh => ⟨_, h', rfl, hh⟩) (tu.set_ct uo (by omega) (by omega) (ofP_may _) l[m].v) ?_
          rintro _ h5 ⟨rfl, tu5⟩
          refine ⟨by simp, ?_⟩
          simp [t7, wm]
          refine hK _ _ (by omega) ⟨by simp [t0, t3, t4, t5], by omega, _, tset_ok uo (ofP_may _) _, tu5, ?_, ?_, fun q y => ?_⟩
          · have := tset_rts us (ofP l[m]) l[m].v; omega
          · have := tset_len us (ofP l[m]) l[m].v
            split at this <;> omega
          · rw [tset_mem uo (ofP_may _), c3, dr, lastV]
            show _ ↔ (match lastV _ q with | some y => some y | none => if ofP l[m] = q then some l[m].v else none) = some y
            by_cases e : q = ofP l[m]
            · rw [if_pos e, e, hz]; simp [eq_comm]
            · rw [if_neg e, if_neg (fun h => e h.symm)]
              cases lastV (L.drop (n - k)) q <;> simp
      · have hkk : k = n := by omega
        have ez : (n : Int) - 1 - (k : Nat) = -1 := by omega
        rw [ez] at t7
        simp [t7]
        rw [hkk, Nat.sub_self, List.drop_zero] at c3
        refine hJ _ _ ⟨?_, us, uo, tu, by omega, by omega, c3⟩
        simp [t0, t3, t4, t5]
    · rintro t h4 ⟨⟨t0, t3, t4, t5⟩, us, uo, tu, c1, c2, c3⟩
      simp
      have w4 := tu.wf
      have gh4 : Ge h h4 := tu.geM gh3 (by simp; omega)
      have n43 := tu.out.next
      have ta4 : TrieAt h4 i rs (rsPairs rs).length nsT := taT.keep fun j hj => tu.out.keep j (ltT j hj) (fun hm => by simp at hm; exact cT (hm ▸ hj))
      obtain ⟨nsU, tu4, subU⟩ := tu.ex
      obtain ⟨V1, hV1⟩ : ∃ V1, V1 = rsPairs rs := ⟨_, rfl⟩
      have sV : PSorted V1 := by rw [hV1]; exact rs_sorted ro
      have eV : rsPairs us = V1 := by
        rw [hV1]
        refine psorted_eq (rs_sorted uo) (rs_sorted ro) fun x => ?_
        obtain ⟨q, y⟩ := x
        rw [c3, b3]
      have hcnt : (lasts L).length = V1.length := nodup_len (lasts_nodup L) sV.nodup fun x => by
        obtain ⟨q, y⟩ := x
        rw [lasts_iff, hV1, b3]
      have vl : V1.length ≤ 60 := by rw [hV1]; exact b2
      refine loop_cut 4 (fun t h' => (t 0 = lv ∧ t 3 = .ptr i 3 0 ∧ t 4 = .ptr c 3 0 ∧ t 10 = .int .i64 (V1.length : Nat)) ∧ h' = h4)
        (fun k t h' => (t 0 = lv ∧ t 3 = .ptr i 3 0 ∧ t 4 = .ptr c 3 0 ∧ t 5 = .int .i64 (n : Nat) ∧ t 11 = .int .i64 (k : Nat)) ∧ k ≤ n ∧ h' = h4 ∧ ∃ m : Nat, t 10 = .int .i64 (m : Nat) ∧ m + (lasts (L.drop k)).length = (lasts L).length) 60
        ⟨by simp [t0, t3, t4, t5], by omega, rfl, 0, by simp, by simp⟩ ?_ ?_
      · rintro k t h' hk ⟨⟨t0, t3, t4, t5, t11⟩, hkl, rfl, m, t10, hmm⟩ K R hK hJ hret
        by_cases hlt : k < n
        · have hw := wrap_succ hlt (by omega)
          have hkll : k < l.length := by omega
          have hkL : k < L.length := by omega
          have ekL := hLk k hlt hkll hkL
          have hsk := hl l[k] (List.getElem_mem hkll)
          obtain ⟨pp, q, off, ccs, e1, e2, e3, e4, e5, e6⟩ := elem k hkll h' gh4
          have dk : L.drop k = spP l[k] :: L.drop (k + 1) := by rw [List.drop_eq_getElem_cons hkL, ekL]
          simp [t11, t5, hlt, hw]
          obtain ⟨D, hD⟩ : ∃ D, D = L.drop (k + 1) := ⟨_, rfl⟩
          have hDl : D.length = n - (k + 1) := by rw [hD, List.length_drop, hLl]
          refine loop_cut 6 (fun t h2 => (t 0 = lv ∧ t 3 = .ptr i 3 0 ∧ t 4 = .ptr c 3 0 ∧ t 5 = .int .i64 (n : Nat) ∧ t 11 = .int .i64 (k : Nat) ∧ t 10 = .int .i64 (m : Nat) ∧ t 12 = .bool (!D.any (fun z => decide (z.1 = ofP l[k])))) ∧ h2 = h')
            (fun z t h2 => (t 0 = lv ∧ t 3 = .ptr i 3 0 ∧ t 4 = .ptr c 3 0 ∧ t 5 = .int .i64 (n : Nat) ∧ t 11 = .int .i64 (k : Nat) ∧ t 10 = .int .i64 (m : Nat) ∧ t 12 = .bool (!(D.take z).any (fun z => decide (z.1 = ofP l[k]))) ∧ t 13 = .int .i64 ((k + 1 + z : Nat) : Int)) ∧ k + 1 + z ≤ n ∧ h2 = h') 60
            ⟨by simp [t0, t3, t4, t5, t10, t11], by omega, rfl⟩ ?_ ?_
          · rintro z t h2 hz ⟨⟨t0, t3, t4, t5, t11, t10, t12, t13⟩, hzl, rfl⟩ K' R' hK' hJ' _
            by_cases hlz : k + 1 + z < n
            · have hwz : IntKind.i64.wrap (((k + 1 + z : Nat) : Int) + 1) = ((k + 1 + (z + 1) : Nat) : Int) := by rw [wneg _ (by omega) (by omega)]; omega
              have hzz : k + 1 + z < l.length := by omega
              have hzL : k + 1 + z < L.length := by omega
              have ezL := hLk (k + 1 + z) hlz hzz hzL
              have hsz := hl l[k + 1 + z] (List.getElem_mem hzz)
              obtain ⟨pp', q', off', ccs', a1, a2, a3, a4, a5, a6⟩ := elem (k + 1 + z) hzz h2 gh4
              have hDz : D[z]? = some (spP l[k + 1 + z]) := by rw [hD, List.getElem?_drop, List.getElem?_eq_getElem hzL, ezL]
              have at1 : (D.take (z + 1)).any (fun z => decide (z.1 = ofP l[k])) = ((D.take z).any (fun z => decide (z.1 = ofP l[k])) || decide (ofP l[k + 1 + z] = ofP l[k])) := by
                rw [List.take_add_one, hDz, List.any_append]
                simp [spP]
              obtain ⟨zz, hzz2⟩ : ∃ zz, zz = k + 1 + z := ⟨_, rfl⟩
              have ee := eq_pf (ofP l[k + 1 + z]) (ofP l[k])
              rw [← hzz2] at t13 hwz hlz a1
              simp [t13, t5, hlz]
              refine dreg_quiet w4 ?_
              cases hb : (D.take z).any (fun z => decide (z.1 = ofP l[k])) with
              | true =>
                rw [hb] at t12 at1
                simp [t12, t13, hwz]
                refine hK' _ _ (by omega) ⟨by simp [t0, t3, t4, t5, t10, t11, at1], by omega, rfl⟩
              | false =>
                rw [hb] at t12 at1
                simp [t12, t13, t0, t11, a1, a3, a4, a5]
                refine qcall_of (v := .agg (pfxC (ofP l[k + 1 + z]))) rfl (fun h2 _ => of_ct hsz) ?_
                simp [t0, t11, e1, e3, e4, e5]
                refine qcall_of (v := .agg (pfxC (ofP l[k]))) rfl (fun h2 _ => of_ct hsk) ?_
                simp [ee, t13, hwz]
                refine hK' _ _ (by omega) ⟨by simp [t0, t3, t4, t5, t10, t11, at1], by omega, rfl⟩
            · obtain ⟨zz, hzz2⟩ : ∃ zz, zz = k + 1 + z := ⟨_, rfl⟩
              have hz2 : D.take z = D := List.take_of_length_le (by omega)
              rw [← hzz2] at t13 hlz
              rw [hz2] at t12
              simp [t13, t5, hlz]
              refine hJ' _ _ ⟨?_, rfl⟩
              simp [t0, t3, t4, t5, t10, t11, t12]
          · rintro t h2 ⟨⟨t0, t3, t4, t5, t11, t10, t12⟩, rfl⟩
            rw [dk, lasts] at hmm
            have e0 : (spP l[k]).1 = ofP l[k] := rfl
            rw [e0, ← hD] at hmm
            cases hb : D.any (fun z => decide (z.1 = ofP l[k])) with
            | true =>
              rw [hb] at t12
              rw [hb, if_pos rfl] at hmm
              simp [t12, t11, hw]
              refine hK _ _ (by omega) ⟨by simp [t0, t3, t4, t5], hlt, rfl, m, by simp [t10], by rw [← hD]; exact hmm⟩
            | false =>
              rw [hb] at t12
              rw [hb, if_neg (by simp)] at hmm
              have hm60 : m ≤ 60 := by simp at hmm; omega
              have wm : IntKind.i64.wrap ((m : Int) + 1) = ((m + 1 : Nat) : Int) := by rw [wrap_i64_id (by omega) (by omega)]; omega
              have lD : lastV D (ofP l[k]) = none := lastV_none.2 fun z hz e => by
                have : D.any (fun z => decide (z.1 = ofP l[k])) = true := List.any_eq_true.2 ⟨z, hz, by simpa using e⟩
                rw [hb] at this; cases this
              have lL : lastV L (ofP l[k]) = some l[k].v := by
                rw [← List.take_append_drop k L, dk, ← hD]
                refine lastV_app _ ?_
                simp [lastV, lD, spP]
              have gT : tget rs (ofP l[k]) = some l[k].v := (tget_iff ro).2 ((b3 _ _).2 lL)
              have gU : tget us (ofP l[k]) = some l[k].v := (tget_iff uo).2 ((c3 _ _).2 lL)
              simp [t12, t10, wm, t3, t0, t11, e1, e3, e4, e5]
              refine of_ct hsk _ ?_
              simp
              refine get_ct (p := ofP l[k]) ro ta4 (by omega) _ ?_
              rw [gT]
              simp [t4, t0, t11, e1, e3, e4, e5]
              refine of_ct hsk _ ?_
              simp
              refine get_ct (p := ofP l[k]) uo tu4 (by omega) _ ?_
              rw [gU]
              simp [t0, t11, e1, e3, e6, sp_conv hsk, hw]
              refine hK _ _ (by omega) ⟨by simp [t0, t3, t4, t5], hlt, rfl, m + 1, by simp, by rw [← hD]; simp at hmm; omega⟩
        · have hkk : k = n := by omega
          rw [hkk, ← hLl, List.drop_length] at hmm
          simp [lasts] at hmm
          simp [t11, t5, hlt]
          refine hJ _ _ ⟨?_, rfl⟩
          simp [t0, t3, t4, t10, ← hcnt, ← hmm]
      · rintro t h' ⟨⟨t0, t3, t4, t10⟩, rfl⟩
        simp [t3, t10]
        refine all_gl (n := V1.length) ro ta4 (by omega) (by omega) (by rw [hV1]; exact Nat.le_refl _) ?_
        intro xv h5 g5 w5 gl5
        rw [← hV1] at gl5
        have tu5 : TrieAt h5 c us (rsPairs us).length nsU := tu4.keep fun j hj => g5.2 j (tu4.lt w4 j hj)
        have ta5 : TrieAt h5 i rs (rsPairs rs).length nsT := ta4.keep fun j hj => g5.2 j (ta4.lt w4 j hj)
        simp [t4, t10]
        refine all_gl (n := V1.length) uo tu5 (by omega) (by omega) (by rw [eV]; exact Nat.le_refl _) ?_
        intro yv h6 g6 w6 gl6
        rw [eV] at gl6
        have ta6 : TrieAt h6 i rs (rsPairs rs).length nsT := ta5.keep fun j hj => g6.2 j (ta5.lt w5 j hj)
        rw [← hV1] at ta6
        have gl5' : Gl h6 h'.next 5 xv (V1.map pairC) := gl5.keep g6.1 fun j hj => g6.2 j (gl5.lo j hj).2
        have xsl : Sls h6.get 5 xv (V1.map pairC) := gl5'.sls (pairC_all _) (by simp; omega)
        have ysl : Sls h6.get 5 yv (V1.map pairC) := gl6.sls (pairC_all _) (by simp; omega)
        have xl := xsl.len
        have yl := ysl.len
        rw [List.length_map] at xl yl
        have ta6' := ta6
        obtain ⟨rv6, _, _, _, i6, _⟩ := ta6'
        simp [t3]
        refine len_ct i6 _ ?_
        simp [t10, xl, yl]
        have gh6 : Ge h h6 := (gh4.trans g5).trans g6
        refine loop_cut 8 (fun t h2 => h2 = h6) (fun k t h2 => (t 10 = .int .i64 (V1.length : Nat) ∧ t 18 = xv ∧ t 19 = yv ∧ t 20 = .int .i64 (k : Nat)) ∧ k ≤ V1.length ∧ h2 = h6) 60 ⟨by simp [t10], by omega, rfl⟩ ?_ ?_
        · rintro k t h2 hk ⟨⟨t10, t18, t19, t20⟩, hkl, rfl⟩ K R hK hJ _
          by_cases hlt : k < V1.length
          · have hw := wrap_succ (show k < 60 by omega) (by omega)
            obtain ⟨pp, q, off, ccs, e1, e2, e3, e3', e4, e5⟩ := pair_at xsl hlt
            obtain ⟨pp2, q2, off2, ccs2, a1, a2, a3, a3', a4, a5⟩ := pair_at ysl hlt
            have ee := eq_pair V1[k] V1[k]
            rw [decide_eq_true rfl] at ee
            simp only [pfxC] at e5
            simp [t20, t10, hlt]
            refine dreg_of ?_
            by_cases hk0 : k = 0
            · subst hk0
              have t20' : t 20 = .int .i64 0 := t20
              have e1' : ∀ kd, indexAddrV 5 xv (.int kd 0) = some (.ptr pp q off) := e1
              have a1' : ∀ kd, indexAddrV 5 yv (.int kd 0) = some (.ptr pp2 q2 off2) := a1
              have w1 : IntKind.i64.wrap 1 = 1 := by decide
              simp [t18, t19, t20', e1', e2, e3, e4, a1', a2, a3, a4, ee, w1]
              refine hK _ _ (by omega) ⟨by simp [t10, t18, t19], by omega, rfl⟩
            · have hkm : k - 1 < V1.length := by omega
              obtain ⟨pp3, q3, off3, ccs3, d1, d2, d3, d3', d4, d5⟩ := pair_at xsl hkm
              have wk : IntKind.i64.wrap ((k : Int) - 1) = ((k - 1 : Nat) : Int) := by rw [wrap_i64_id (by omega) (by omega)]; omega
              have k0 : 0 < k := by omega
              simp only [pfxC] at d5
              have lt := (List.pairwise_iff_getElem.1 sV) (k - 1) k hkm hlt (by omega)
              have nge : ¬ (0 : Int) ≤ cmpPf V1[k - 1].1 V1[k].1 := by omega
              simp [t18, t19, t20, e1, e2, e3, e4, a1, a2, a3, a4, ee, wk, d1, d2, d3', d5, e3', e5, k0]
              refine scall_of (pcmp_ct (a := V1[k - 1].1) (b := V1[k].1)) ?_
              simp [nge, t20, hw]
              refine hK _ _ (by omega) ⟨by simp [t10, t18, t19], hlt, rfl⟩
          · simp [t20, t10, hlt]
            exact hJ _ _ rfl
        · rintro t h2 rfl
          simp
          refine works_ct _ _ ?_
          simp
          exact gh6
end Go.Am
