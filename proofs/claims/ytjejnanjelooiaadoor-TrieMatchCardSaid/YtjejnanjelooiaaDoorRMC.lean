/-
  TR14, WK, LO, LA, LH, TR15, LM, in one text.
-/
import Derived.Test.YtjejnanjelooiaaDoorRMB
import Derived.Test.YtjejnanjelooiaaDoorRSkRg
import Derived.Test.YtjejnanjelooiaaDoorRAm24
import Derived.Test.YtjejnanjelooiaaDoorRAm21
import Derived.Test.YtjejnanjelooiaaDoorRQwTab
import Derived.KernelRfl
import Derived.Test.YtjejnanjelooiaaDoorRAm33
/-
  Lists of what is told: the rounds of 'all' and 'under'.
-/
namespace Go.Am
open Go.Proofs

set_option maxRecDepth 100000
theorem ne_a (n : Nat) : ¬ n = n + 1 + 1 := by omega
theorem ne_b (n : Nat) : ¬ n = n + 1 + 1 + 1 := by omega
theorem ne_c (n : Nat) : ¬ n = n + 1 + 1 + 1 + 1 := by omega
theorem all_iter {h : H} {i : Nat} {Q : V → H → Prop} (q : h.WF → Q (.func (.func 57) [] [.ptr h.next 1 0]) (h.push (.row [.ptr i 3 0]))) : Acalls Tryd.prog 38 [.ptr i 3 0] h Q := by
  refine acalls_to Tryd.func38 S.trie_Trie_int_All_code S.trie_Trie_int_All_enter (Nat.le_of_ble_eq_true rfl) fun wf => ?_; simp only [S.trie_Trie_int_All]
  simp
  exact q wf
end Go.Am

/-
  'works' answers true, by a run of its code.
-/
namespace Go.Am
open Go.Proofs
theorem works_run : saysTrue (Fr.runF8 Fr.q.tab 100000 60 15 [] ⟨0, .nil⟩) = true := by kernel_rfl
theorem works_ct (h : H) : Pure Tryd.prog 15 [] h (.bool true) := pure_true8 Fr.q.tab_ok works_run h
end Go.Am

/-
  Prefixes of small numbers: 'of'.
-/
namespace Go.Am
open Go.Proofs

set_option maxRecDepth 100000
structure Sp where
  fam : Nat
  a : Nat
  len : Nat
  v : Int
  deriving DecidableEq
structure SpOk (s : Sp) : Prop where
  fam : s.fam < 256
  a : s.a < 256
  len : s.len < 256
  v : -32768 ≤ s.v ∧ s.v ≤ 32767
def spC (s : Sp) : List V := [.int .u8 (s.fam : Nat), .int .u8 (s.a : Nat), .int .u8 (s.len : Nat), .int .i16 s.v]
def spFam (s : Sp) : Int := 1 + (s.fam % 2 : Nat)
def spAddr (s : Sp) : List UInt8 := UInt8.ofNat s.a :: UInt8.ofNat (s.a * 16 % 256) :: List.replicate (sizeN (spFam s) - 2) 0
def ofP (s : Sp) : Pfx := ⟨spFam s, 0, maskL (spAddr s) (s.len % 13 : Nat), (s.len % 13 : Nat)⟩
theorem may_mk {p : Pfx} (a1 : sizeN p.fam ≠ 0) (a2 : p.addr.length = sizeN p.fam) (a3 : 0 ≤ p.len) (a4 : p.len ≤ 8 * (sizeN p.fam : Int)) (a5 : p.rd = 0 ∨ apartF p.fam = true) (a6 : maskL p.addr p.len = p.addr) : mayP p = true := by
  simp only [mayP, Bool.and_eq_true, Bool.or_eq_true, decide_eq_true_eq]
  exact ⟨⟨⟨⟨⟨a1, a2⟩, a3⟩, a4⟩, a5⟩, a6⟩
theorem maskL_all : ∀ (l : List UInt8) (n : Int), 8 * (l.length : Int) ≤ n → maskL l n = l
  | [], _, _ => rfl
  | b :: l, n, h => by
    simp only [List.length_cons] at h
    rw [maskL, maskL_all l (n - 8) (by omega), maskN_big (by omega)]
    simp
theorem spFam_cases (s : Sp) : spFam s = 1 ∨ spFam s = 2 := by unfold spFam; omega
theorem sp_size (s : Sp) : sizeN (spFam s) = 4 ∨ sizeN (spFam s) = 16 := by
  rcases spFam_cases s with h | h <;> rw [h] <;> simp [sizeN]
theorem spAddr_len (s : Sp) : (spAddr s).length = sizeN (spFam s) := by
  have := sp_size s
  simp [spAddr]; omega
def spFull (s : Sp) : Pfx := ⟨spFam s, 0, spAddr s, (8 * sizeN (spFam s) : Nat)⟩
theorem spFull_may (s : Sp) : mayP (spFull s) = true := by
  have h1 := sp_size s
  have h2 := spAddr_len s
  have h3 := maskL_all (spAddr s) (8 * sizeN (spFam s) : Nat) (by rw [h2]; omega)
  exact may_mk (p := spFull s) (by show sizeN (spFam s) ≠ 0; omega) h2 (by show (0 : Int) ≤ (8 * sizeN (spFam s) : Nat); omega) (by show ((8 * sizeN (spFam s) : Nat) : Int) ≤ 8 * (sizeN (spFam s) : Int); omega) (.inl rfl) h3
theorem ofP_cut (s : Sp) : cutOk (spFull s) (s.len % 13 : Nat) = true := by
  have := sp_size s
  have h : ((s.len % 13 : Nat) : Int) ≤ (spFull s).len := by show ((s.len % 13 : Nat) : Int) ≤ (8 * sizeN (spFam s) : Nat); omega
  have h0 : (0 : Int) ≤ ((s.len % 13 : Nat) : Int) := by omega
  rw [cutOk, spFull_may, decide_eq_true h, decide_eq_true h0]; rfl
theorem ofP_may (s : Sp) : mayP (ofP s) = true := by
  have h1 := sp_size s
  have h2 := spAddr_len s
  exact may_mk (p := ofP s) (by show sizeN (spFam s) ≠ 0; omega) (by show (maskL _ _).length = _; rw [maskL_len, h2]; rfl) (by show (0 : Int) ≤ (s.len % 13 : Nat); omega) (by show ((s.len % 13 : Nat) : Int) ≤ 8 * (sizeN (spFam s) : Int); omega) (.inl rfl) (maskL_idem _ _)
theorem of_ct {h : H} {s : Sp} (ok : SpOk s) : Pure Tryd.prog 10 [.agg (spC s)] h (.agg (pfxC (ofP s))) := by
  refine pure_to Tryd.func10 S.Hlaw03_of_code S.Hlaw03_of_enter rfl (Nat.le_of_ble_eq_true rfl) fun wf => ?_; simp only [S.Hlaw03_of]
  obtain ⟨k1, k2, k3, k4⟩ := ok
  have sz := sp_size s
  have r2 : intV .rem .u8 (s.fam : Int) 2 = some (.int .u8 ((s.fam % 2 : Nat) : Int)) := by simp [intV]; rw [Int.tmod_eq_emod_of_nonneg (by omega)]
  have r13 : intV .rem .u8 (s.len : Int) 13 = some (.int .u8 ((s.len % 13 : Nat) : Int)) := by simp [intV]; rw [Int.tmod_eq_emod_of_nonneg (by omega)]
  have w2 : IntKind.i64.wrap ((s.fam % 2 : Nat) : Int) = ((s.fam % 2 : Nat) : Int) := wrap_i64_id (by omega) (by omega)
  have w13 : IntKind.i64.wrap ((s.len % 13 : Nat) : Int) = ((s.len % 13 : Nat) : Int) := wrap_i64_id (by omega) (by omega)
  have wf1 : IntKind.i64.wrap (1 + ((s.fam % 2 : Nat) : Int)) = spFam s := wrap_i64_id (by omega) (by omega)
  obtain ⟨f2, hf2⟩ : ∃ f2 : Nat, f2 = s.fam % 2 := ⟨_, rfl⟩
  obtain ⟨l13, hl13⟩ : ∃ l13 : Nat, l13 = s.len % 13 := ⟨_, rfl⟩
  rw [← hf2] at r2 w2 wf1
  rw [← hl13] at r13 w13
  simp only [spC]
  simp [r2, w2, wf1]
  refine psize_ct _ ?_
  have sh : shiftV .shl .u8 (s.a : Int) 4 = some (.int .u8 ((s.a * 16 % 256 : Nat) : Int)) := by simp [shiftV, IntKind.wrap, IntKind.bits, IntKind.signed]
  have b1 : (UInt8.ofNat s.a).toNat = s.a := by simp; omega
  have b2 : (UInt8.ofNat (s.a * 16 % 256)).toNat = s.a * 16 % 256 := by simp
  have ok13 : cutOk (spFull s) (l13 : Nat) = true := by rw [hl13]; exact ofP_cut s
  have fin : (⟨(spFull s).fam, (spFull s).rd, maskL (spFull s).addr (l13 : Nat), (l13 : Nat)⟩ : Pfx) = ofP s := by rw [hl13]; rfl
  have cc : ∀ h, Pure Tryd.prog 34 [.agg [.int .i64 (spFam s), .int .u64 0, .str (spAddr s), .int .i64 ((8 * sizeN (spFam s) : Nat) : Int)], .int .i64 (l13 : Nat)] h (.tup [.agg (pfxC (ofP s)), .int .i64 0]) := fun h => by
    have := cut_ct (h := h) (p := spFull s) (n := (l13 : Nat))
    rw [if_pos ok13, if_pos ok13, fin] at this
    exact this
  rcases sz with sz | sz
  · have ea : spAddr s = [UInt8.ofNat s.a, UInt8.ofNat (s.a * 16 % 256), 0, 0] := by simp [spAddr, sz]
    simp only [ea, sz] at cc
    simp [makeSliceV, sz, repCells, sh, r13, w13, ne_a, ne_b, elemsV_sl, u8Of]
    refine cc _ _ ?_
    simp [ne_a, ne_b, ne_c, pfxC]
    repeat' (first | exact Ge.refl _ | refine Ge.push ?_ _ | refine Ge.set ?_ (by omega) _)
  · have ea : spAddr s = [UInt8.ofNat s.a, UInt8.ofNat (s.a * 16 % 256), 0, 0, 0, 0, 0, 0, 0, 0, 0, 0, 0, 0, 0, 0] := by simp [spAddr, sz]
    simp only [ea, sz] at cc
    simp [makeSliceV, sz, repCells, sh, r13, w13, ne_a, ne_b, elemsV_sl, u8Of]
    refine cc _ _ ?_
    simp [ne_a, ne_b, ne_c, pfxC]
    repeat' (first | exact Ge.refl _ | refine Ge.push ?_ _ | refine Ge.set ?_ (by omega) _)
end Go.Am

/-
  Small numbers and acts among the arguments.
-/
namespace Go.Am
open Go.Proofs

def spLs : List Lf := [.int .u8, .int .u8, .int .u8, .int .i16]
theorem sp_of {vs : List V} (h : Lfs spLs vs) : ∃ s : Sp, SpOk s ∧ vs = spC s := by
  cases h with
  | cons k1 t1 => cases t1 with
    | cons k2 t2 => cases t2 with
      | cons k3 t3 => cases t3 with
        | cons k4 t4 =>
          cases t4
          obtain ⟨a, rfl, h1⟩ := Lf.nat k1 rfl
          obtain ⟨b, rfl, h2⟩ := Lf.nat k2 rfl
          obtain ⟨c, rfl, h3⟩ := Lf.nat k3 rfl
          obtain ⟨v, rfl, h4⟩ := k4
          simp [Lit.wf, IntKind.min, IntKind.max, IntKind.bits, IntKind.signed] at h4
          exact ⟨⟨a, b, c, v⟩, ⟨h1, h2, h3, by omega⟩, rfl⟩
theorem spots_of : ∀ {ess : List (List V)}, (∀ e ∈ ess, Lfs spLs e) → ∃ l : List Sp, ess = l.map spC ∧ ∀ s ∈ l, SpOk s
  | [], _ => ⟨[], rfl, by simp⟩
  | e :: ess, h => by
    obtain ⟨s, hs, rfl⟩ := sp_of (h e (by simp))
    obtain ⟨l, rfl, hl⟩ := spots_of (ess := ess) fun x hx => h x (by simp [hx])
    exact ⟨s :: l, rfl, fun x hx => by
      rcases List.mem_cons.1 hx with rfl | hx
      · exact hs
      · exact hl x hx⟩
end Go.Am

/-
  The trie's contracts, as the laws use them.
-/
namespace Go.Am
open Go.Proofs

set_option maxRecDepth 100000
theorem TTurned.self {h : H} {i : Nat} {rs : List Rt} {n : Nat} {ns : List Nat} (a : TrieAt h i rs n ns) (w : h.WF) : TTurned ns h i rs n h := ⟨⟨ns, a, fun _ h => .inl h⟩, Out.refl _ _, w⟩
theorem TTurned.later {ns : List Nat} {hb h h' : H} {i : Nat} {rs : List Rt} {n : Nat} (t : TTurned ns hb i rs n h) (g : Ge h h') (w : h'.WF) : TTurned ns hb i rs n h' := by
  obtain ⟨⟨ms, a, b⟩, c, d⟩ := t
  exact ⟨⟨ms, a.keep fun j hj => g.2 j (a.lt d j hj), b⟩, ⟨Nat.le_trans c.next g.1, fun j hj hn => (g.2 j (Nat.lt_of_lt_of_le hj c.next)).trans (c.keep j hj hn)⟩, w⟩
theorem TTurned.set_ct {ns : List Nat} {hb h : H} {i : Nat} {rs : List Rt} (t : TTurned ns hb i rs (rsPairs rs).length h) (o : RsOk rs) (b : rs.length < 1000000) (bn : (rsPairs rs).length < 1000000000) {p : Pfx} (hp : mayP p = true) (x : Int) :
    Acalls Tryd.prog 9 [.ptr i 3 0, .agg (pfxC p), .int .i64 x] h fun u h' => u = .int .i64 0 ∧ TTurned ns hb i (tset rs p x) (rsPairs (tset rs p x)).length h' := by
  obtain ⟨⟨ms, a, hs⟩, c, d⟩ := t
  refine Acalls.mono (tset_ct o a b bn hp x) ?_
  rintro u h' ⟨rfl, q⟩
  refine ⟨rfl, ?_⟩
  rw [tset_len]
  exact TTurned.up (Ge.refl _) c hs q
end Go.Am

/-
  Copy.
-/
namespace Go.Am
open Go.Proofs

set_option maxRecDepth 100000
/-! ### A trie of given pairs -/
def rsOf (l : List (Pfx × Int)) : List Rt := l.foldl (fun rs x => tset rs x.1 x.2) []
theorem rsOf_snoc (l : List (Pfx × Int)) (x : Pfx × Int) : rsOf (l ++ [x]) = tset (rsOf l) x.1 x.2 := by simp [rsOf]
theorem snoc_ind {α : Type} {P : List α → Prop} (h0 : P []) (h1 : ∀ l x, P l → P (l ++ [x])) : ∀ l, P l := by
  intro l
  have : ∀ n (l : List α), l.length = n → P l := by
    intro n
    induction n with
    | zero => intro l hl; rw [List.length_eq_zero_iff.1 hl]; exact h0
    | succ n ih =>
      intro l hl
      have hne : l ≠ [] := by intro e; subst e; simp at hl
      rw [← List.dropLast_concat_getLast hne]
      exact h1 _ _ (ih _ (by simp [hl]))
  exact this _ l rfl
theorem rsOf_ok : ∀ l : List (Pfx × Int), (∀ x ∈ l, mayP x.1 = true) → RsOk (rsOf l) ∧ (rsOf l).length ≤ l.length ∧ (rsPairs (rsOf l)).length ≤ l.length :=
  snoc_ind (P := fun l => (∀ x ∈ l, mayP x.1 = true) → RsOk (rsOf l) ∧ (rsOf l).length ≤ l.length ∧ (rsPairs (rsOf l)).length ≤ l.length) (fun _ => ⟨⟨by simp [rsOf], by simp [rsOf]⟩, by simp [rsOf], by simp [rsOf, rsPairs]⟩) fun l x ih h => by
    obtain ⟨a, b, c⟩ := ih fun y hy => h y (by simp [hy])
    rw [rsOf_snoc]
    have h1 := tset_rts (rsOf l) x.1 x.2
    have h2 := tset_len (rsOf l) x.1 x.2
    refine ⟨tset_ok a (h x (by simp)) _, by simp; omega, ?_⟩
    simp only [List.length_append, List.length_cons, List.length_nil]
    split at h2 <;> omega
theorem rsOf_mem : ∀ l : List (Pfx × Int), (∀ x ∈ l, mayP x.1 = true) → PSorted l → ∀ q y, (q, y) ∈ rsPairs (rsOf l) ↔ (q, y) ∈ l :=
  snoc_ind (P := fun l => (∀ x ∈ l, mayP x.1 = true) → PSorted l → ∀ q y, (q, y) ∈ rsPairs (rsOf l) ↔ (q, y) ∈ l) (fun _ _ q y => by simp [rsOf, rsPairs]) fun l x ih h s q y => by
    have hl : ∀ y ∈ l, mayP y.1 = true := fun y hy => h y (by simp [hy])
    obtain ⟨s1, _, s3⟩ := List.pairwise_append.1 s
    rw [rsOf_snoc, tset_mem (rsOf_ok l hl).1 (h x (by simp)), ih hl s1]
    simp only [List.mem_append, List.mem_singleton]
    by_cases e : q = x.1
    · rw [if_pos e]
      have : (q, y) ∉ l := fun hm => by
        have := s3 _ hm x (by simp)
        rw [e] at this; exact cmp_irr _ this
      constructor
      · intro e2; right; rw [e, e2]
      · rintro (h | h)
        · exact absurd h this
        · rw [← h]
    · rw [if_neg e]
      constructor
      · exact .inl
      · rintro (h | h)
        · exact h
        · exact absurd (by rw [← h]) e
theorem roots_make : ∀ (rs : List Rt) (h : H), h.WF → ∃ cs ns h', RootsAt h'.get rs cs ns ∧ ns.Nodup ∧ (∀ i ∈ ns, h.next ≤ i) ∧ Ge h h' ∧ h'.WF
  | [], h, wf => ⟨[], [], h, ⟨rfl, rfl⟩, List.nodup_nil, by simp, .refl _, wf⟩
  | r :: rs, h, wf => by
    obtain ⟨v, n1, h1, a1, b1, c1, d1, e1⟩ := tree_make (f := r.fam) (rd := r.rd) r.t h wf
    obtain ⟨cs, n2, h2, a2, b2, c2, d2, e2⟩ := roots_make rs h1 e1
    have l1 := a1.lt e1
    refine ⟨rootC r.fam r.rd v :: cs, n1 ++ n2, h2, ⟨v, cs, n1, n2, rfl, a1.keep fun j hj => d2.2 j (l1 j hj), a2, rfl⟩, List.nodup_append.2 ⟨b1, b2, fun i hi j hj e => ?_⟩, fun j hj => ?_, d1.trans d2, e2⟩
    · subst e; have := l1 i hi; have := c2 i hj; omega
    · have := d1.1
      rcases List.mem_append.1 hj with hj | hj
      · exact c1 j hj
      · have := c2 j hj; omega
theorem trie_make (rs : List Rt) (n : Nat) {h : H} (wf : h.WF) {c : Nat} (hc : c < h.next) : ∃ h', TTurned [c] h c rs n h' := by
  obtain ⟨cs, ms, h1, a, b, m, g, w⟩ := roots_make rs h wf
  have ml : ∀ j ∈ ms, j < h1.next := fun j hj => by obtain ⟨o, ho⟩ := a.live j hj; exact w.lt ho
  have g1 := g.1
  have cm : c ∉ ms := fun hm => by have := m c hm; omega
  by_cases e : cs = []
  · refine ⟨h1.set c (trieO .nilsl n), ⟨⟨c :: ([] ++ ms), ⟨.nilsl, cs, [], ms, by simp, .inl ⟨e, rfl, rfl⟩, a.keep fun j hj => by rw [H.get_set, if_neg (show ¬ j = c from fun e => cm (e ▸ hj))], rfl, List.nodup_cons.2 ⟨by simpa using cm, b⟩⟩, fun j hj => ?_⟩, ⟨by simpa using g1, fun j hj hn => ?_⟩, w.set (by omega) _⟩⟩
    · rcases List.mem_cons.1 hj with hj | hj
      · exact .inl (by simp [hj])
      · exact .inr (m j (by simpa using hj))
    · rw [H.get_set, if_neg (by simpa using hn)]; exact g.2 j hj
  · refine ⟨(h1.push (.grow 3 cs.flatten)).set c (trieO (.sl h1.next (cs.length * 3) 0 cs.length none) n), ⟨⟨c :: ([h1.next] ++ ms), ⟨_, cs, [h1.next], ms, by rw [H.get_set, if_pos rfl], .inr ⟨h1.next, e, rfl, ?_, rfl⟩, a.keep fun j hj => ?_, rfl, ?_⟩, fun j hj => ?_⟩, ⟨by simp; omega, fun j hj hn => ?_⟩, (w.push _).set (by simp; omega) _⟩⟩
    · rw [H.get_set, if_neg (by omega), H.get_push, if_pos rfl]
    · have := ml j hj
      rw [H.get_set, if_neg (show ¬ j = c from fun e => cm (e ▸ hj)), H.get_push, if_neg (by omega)]
    · simp only [List.cons_append, List.nil_append, List.nodup_cons, List.mem_cons, not_or]
      exact ⟨⟨by omega, cm⟩, fun hm => by have := ml _ hm; omega, b⟩
    · simp only [List.cons_append, List.nil_append, List.mem_cons] at hj
      rcases hj with hj | hj | hj
      · exact .inl (by simp [hj])
      · exact .inr (by omega)
      · exact .inr (m j hj)
    · rw [H.get_set, if_neg (by simpa using hn), H.get_push, if_neg (by omega)]; exact g.2 j hj

/-! ### The rounds -/
theorem copy_round {hL : H} {yi c cb : Nat} {r0 : LoopV} (wL : hL.WF) (hyi : hL.get yi = some (.loopo r0)) (hyc : yi ≠ c) (hcl : c < hL.next) (hcb : hL.get cb = some (.row [.ptr c 3 0])) (hcc : cb ≠ c) (hst : r0.st = .ready) (hpd : r0.pending = none) (has : r0.assign = S.trie_Trie_int_Copy_as) (hbd : r0.body = S.trie_Trie_int_Copy_bd)
    (hps : r0.params = #[11, 12]) (htl : r0.tmps.length = 18) (t3 : r0.tmps[3]? = some (.ptr cb 1 0)) {pre : List (Pfx × Int)} {x : Pfx × Int} {h : H} (hm : ∀ y ∈ pre ++ [x], mayP y.1 = true) (hlen : pre.length < 1000000) (hJ : TTurned [c] hL c (rsOf pre) (rsPairs (rsOf pre)).length h) :
    Ayields Tryd.prog yi [.agg (pfxC x.1), .int .i64 x.2] h fun r h' => r = .bool true ∧ TTurned [c] hL c (rsOf (pre ++ [x])) (rsPairs (rsOf (pre ++ [x]))).length h' := by
  obtain ⟨⟨ns, ta, sub⟩, out, w⟩ := hJ
  obtain ⟨ro, rl, pl⟩ := rsOf_ok pre fun y hy => hm y (by simp [hy])
  have yl := wL.lt hyi
  have cbl := wL.lt hcb
  have on := out.next
  have l1 : h.get yi = some (.loopo r0) := (out.keep yi yl (by simpa using hyc)).trans hyi
  have b1 : h.get cb = some (.row [.ptr c 3 0]) := (out.keep cb cbl (by simpa using hcc)).trans hcb
  have nsl := ta.lt w
  have yns : yi ∉ ns := fun hmm => by
    rcases sub yi hmm with h | h
    · simp at h; exact hyc h
    · omega
  refine ayields_of l1 (ca := S.trie_Trie_int_Copy_ca) (cb := S.trie_Trie_int_Copy_cb) (by rw [htl, has]; exact S.trie_Trie_int_Copy_cas) (by rw [htl, hbd]; exact S.trie_Trie_int_Copy_cbd) (by rw [hps]; rfl) (by rw [hps, htl]; simp) ?_
  rw [hps]
  simp only [S.trie_Trie_int_Copy_ca, pfxC]
  simp
  obtain ⟨h1, hh1⟩ : ∃ h1, h1 = (h.push (.row [.int .i64 0, .int .u64 0, .str [], .int .i64 0])).set h.next (.row (pfxC x.1)) := ⟨_, rfl⟩
  have n1 : h1.next = h.next + 1 := by rw [hh1]; simp
  have w1 : h1.WF := by rw [hh1]; exact (w.push _).set (by simp) _
  have g1 : Ge h h1 := by rw [hh1]; exact ((Ge.refl _).push _).set (Nat.le_refl _) _
  have p1 : h1.get h.next = some (.row (pfxC x.1)) := by rw [hh1]; simp
  simp only [pfxC] at hh1
  rw [← hh1]
  refine ⟨r0, by rw [if_neg (by omega), if_neg (by omega)]; exact l1, hst, ?_⟩
  obtain ⟨r1, hr1⟩ : ∃ r1 : LoopV, r1 = { r0 with st := .busy, pending := r0.pending } := ⟨_, rfl⟩
  have hr2 : ({ r1 with st := .ready, pending := none } : LoopV) = r0 := by rw [hr1]; cases r0; simp_all
  rw [← hr1]
  obtain ⟨h2, hh2⟩ : ∃ h2, h2 = h1.set yi (.loopo r1) := ⟨_, rfl⟩
  rw [← hh2]
  have k2 : ∀ j, j ≠ yi → h2.get j = h1.get j := fun j hj => by rw [hh2, H.get_set, if_neg hj]
  have n2 : h2.next = h.next + 1 := by rw [hh2]; simpa using n1
  have w2 : h2.WF := by rw [hh2]; exact w1.set (by omega) _
  have l2 : h2.get yi = some (.loopo r1) := by rw [hh2]; simp
  have cby : cb ≠ yi := fun e => by rw [e, hyi] at hcb; cases hcb
  have cb2 : cellsAt h2.get cb 1 = some [.ptr c 3 0] := by rw [cellsAt_of ((k2 cb cby).trans ((g1.2 cb (by omega)).trans b1)) (by rfl)]; rfl
  have cq : cellsAt h2.get h.next 4 = some (pfxC x.1) := by rw [cellsAt_of ((k2 h.next (by omega)).trans p1) (by rfl)]; rfl
  have ta2 : TrieAt h2 c (rsOf pre) (rsPairs (rsOf pre)).length ns := ta.keep fun j hj => (k2 j (fun e => yns (e ▸ hj))).trans (g1.2 j (nsl j hj))
  simp only [pfxC] at cq
  simp only [S.trie_Trie_int_Copy_cb]
  simp [t3, cb2, cq]
  refine Acalls.mono ((TTurned.self ta2 w2).set_ct ro (by omega) (by omega) (hm x (by simp)) x.2) ?_
  rintro _ h5 ⟨rfl, tt⟩
  have y5 : h5.get yi = some (.loopo r1) := (tt.out.keep yi (by omega) yns).trans l2
  simp
  refine ⟨r1, y5, ?_⟩
  rw [hr2, rsOf_snoc]
  obtain ⟨⟨ns5, ta5, sub5⟩, out5, w5⟩ := tt
  have n5 := out5.next
  have y5s : yi ∉ ns5 := fun hmm => by
    rcases sub5 yi hmm with h | h
    · exact yns h
    · omega
  refine ⟨⟨ns5, ta5.keep fun j hj => by rw [H.get_set, if_neg (show ¬ j = yi from fun e => y5s (e ▸ hj))], fun j hj => ?_⟩, ⟨by simp; omega, fun j hj hn => ?_⟩, w5.set (by omega) _⟩
  · rcases sub5 j hj with h | h
    · exact (sub j h).imp id id
    · exact .inr (by omega)
  · rw [H.get_set]
    split
    · rename_i e; rw [e]; exact hyi.symm
    · rename_i e
      have jn : j ∉ ns := fun hm => by
        rcases sub j hm with h | h
        · exact hn h
        · omega
      rw [out5.keep j (by omega) jn, k2 j e, g1.2 j (by omega), out.keep j hj hn]
theorem copy_loop {h3 : H} {i : Nat} {rs : List Rt} {m : Nat} {ns : List Nat} (t : Tm) (w3 : h3.WF) (o : RsOk rs) (ta : TrieAt h3 i rs m ns) {c cb tb : Nat} (nsn : ∀ j ∈ ns, j < h3.next ∧ j ≠ c) (hb : rs.length ≤ 1000000) (hn : (rsPairs rs).length < 1000000)
    (tc : TrieAt h3 c [] 0 [c]) (hc : c < h3.next) (cb3 : h3.get cb = some (.row [.ptr c 3 0])) (hcb : cb < h3.next ∧ cb ≠ c) (tb3 : h3.get tb = some (.row [.ptr i 3 0])) (htb : tb < h3.next ∧ tb ≠ c) (t3 : t 3 = .ptr cb 1 0) :
    Acalls Tryd.prog 57 [.yl (h3.next + 1), .ptr tb 1 0] (loopH 18 t #[11, 12] S.trie_Trie_int_Copy_as S.trie_Trie_int_Copy_bd h3) fun r h2 => r = .tup [] ∧
      h2.WF ∧ h3.next + 2 ≤ h2.next ∧ h2.get h3.next = some (.defo true) ∧ (∃ r0, h2.get (h3.next + 1) = some (.loopo r0) ∧ r0.st = .ready ∧ r0.pending = none) ∧ (∀ j, j < h3.next → j ≠ c → h2.get j = h3.get j) ∧
      ∃ ns', TrieAt h2 c (rsOf (rsPairs rs)) (rsPairs (rsOf (rsPairs rs))).length ns' ∧ ∀ j ∈ ns', j = c ∨ h3.next + 2 ≤ j := by
  obtain ⟨r0, hr0⟩ : ∃ r0 : LoopV, r0 = ⟨.ready, none, (List.range 18).map t, #[11, 12], S.trie_Trie_int_Copy_as, S.trie_Trie_int_Copy_bd, h3.next⟩ := ⟨_, rfl⟩
  obtain ⟨hL, hhL⟩ : ∃ hL, hL = loopH 18 t #[11, 12] S.trie_Trie_int_Copy_as S.trie_Trie_int_Copy_bd h3 := ⟨_, rfl⟩
  have wL : hL.WF := by rw [hhL]; exact (w3.push _).push _
  have gL : Ge h3 hL := by rw [hhL]; exact ((Ge.refl _).push _).push _
  have nL : hL.next = h3.next + 2 := by rw [hhL]; simp [loopH]
  have yL : hL.get (h3.next + 1) = some (.loopo r0) := by rw [hhL]; simp [loopH, hr0]
  rw [← hhL]
  have may : ∀ x ∈ rsPairs rs, mayP x.1 = true := fun x hx => ((mem_rs o (q := x.1) (y := x.2)).1 hx).1
  have tl : Telling (h3.next + 1) 59 [] hL ns (rsPairs rs) (fun pre h => TTurned [c] hL c (rsOf pre) (rsPairs (rsOf pre)).length h) := by
    refine ⟨fun pre _ => trie_make _ _ wL (by omega), fun pre h hj => hj.wf, fun pre h hj j hjn => hj.out.keep j (by have := (nsn j hjn).1; omega) (by simpa using (nsn j hjn).2), fun pre h h' hj g w => hj.later g w, fun pre x h hj hpre => ?_⟩
    have hl := hpre.length_le
    simp at hl
    exact copy_round wL yL (by omega) (by omega) ((gL.2 _ hcb.1).trans cb3) hcb.2 (by rw [hr0]) (by rw [hr0]) (by rw [hr0]) (by rw [hr0]) (by rw [hr0]) (by rw [hr0]; simp) (by rw [hr0]; simp [t3]) (fun y hy => may y (hpre.subset hy)) (by omega) hj
  have dL : hL.get h3.next = some (.defo true) := by rw [hhL]; simp [loopH]
  refine Acalls.mono (all1_ct tl o (ta.keep fun j hj => gL.2 j (nsn j hj).1) hb rfl (fun pre h hj => (hj.out.keep tb (by omega) (by simpa using htb.2)).trans ((gL.2 _ htb.1).trans tb3)) (TTurned.self (tc.keep fun j hj => gL.2 j (by simp at hj; omega)) wL)) ?_
  rintro _ h2 ⟨rfl, ⟨ns', a, b⟩, q, w⟩
  have nq := q.next
  refine ⟨rfl, w, by omega, (q.keep _ (by omega) (by simp; omega)).trans dL, ⟨r0, (q.keep _ (by omega) (by simp; omega)).trans yL, by rw [hr0], by rw [hr0]⟩, fun j hj hn => (q.keep j (by omega) (by simpa using hn)).trans (gL.2 j hj), ns', a, fun j hj => ?_⟩
  rcases b j hj with h | h
  · exact .inl (by simpa using h)
  · exact .inr (by omega)
theorem copy_ct {h : H} {i : Nat} {rs : List Rt} {m : Nat} {ns : List Nat} (o : RsOk rs) (ta : TrieAt h i rs m ns) (hb : rs.length ≤ 1000000) (hn : (rsPairs rs).length < 1000000) :
    Acalls Tryd.prog 14 [.ptr i 3 0] h fun u h' => ∃ c rs', u = .ptr c 3 0 ∧ RsOk rs' ∧ rsPairs rs' = rsPairs rs ∧ rs'.length ≤ (rsPairs rs).length ∧ TTurned [] h c rs' (rsPairs rs').length h' := by
  refine acalls_range_to Tryd.func14 S.trie_Trie_int_Copy_rcode S.trie_Trie_int_Copy_enter (Nat.le_of_ble_eq_true rfl) fun wf => ?_
  have tlt := ta.lt wf
  obtain ⟨rv, _, _, _, i0, _⟩ := id ta
  simp only [S.trie_Trie_int_Copy_r]
  simp
  refine none_ct i0 _ ?_
  simp
  refine new_ct fun _ tn => ?_
  simp
  refine all_iter fun wf3 => ?_
  simp
  obtain ⟨h3, hh3⟩ : ∃ h3, h3 = (((h.push (trieO .nilsl 0)).push (.row [.nilptr])).set (h.next + 1) (.row [.ptr h.next 3 0])).push (.row [.ptr i 3 0]) := ⟨_, rfl⟩
  rw [← hh3]
  have w3 : h3.WF := by rw [hh3]; exact (((wf.push _).push _).set (by simp) _).push _
  have n3 : h3.next = h.next + 3 := by rw [hh3]; simp
  have g3 : Ge h h3 := by rw [hh3]; exact ((((Ge.refl _).push _).push _).set (by omega) _).push _
  have c3 : h3.get h.next = some (trieO .nilsl 0) := by rw [hh3]; simp [ne_a]
  have cb3 : h3.get (h.next + 1) = some (.row [.ptr h.next 3 0]) := by rw [hh3]; simp
  have tb3 : h3.get (h.next + 1 + 1) = some (.row [.ptr i 3 0]) := by rw [hh3]; simp
  have may : ∀ x ∈ rsPairs rs, mayP x.1 = true := fun x hx => ((mem_rs o (q := x.1) (y := x.2)).1 hx).1
  refine rfor_of _ ?_
  refine Acalls.mono (copy_loop (i := i) (rs := rs) (m := m) (ns := ns) (c := h.next) (cb := h.next + 1) (tb := h.next + 1 + 1) _ w3 o (ta.keep fun j hj => g3.2 j (tlt j hj)) (fun j hj => by have := tlt j hj; omega) hb hn (tn.keep fun j hj => by simp at hj; subst hj; rw [c3]; simp) (by omega) cb3 (by omega) tb3 (by omega) (by simp)) ?_
  rintro _ h2 ⟨rfl, w2, b2, d2, ⟨r0, l2, st0, pd0⟩, k2, ns', t2, sub⟩
  refine ⟨by simpa using d2, r0, l2, by rw [st0]; simp, ?_⟩
  rw [pd0]
  have cb2 : cellsAt h2.get (h.next + 1) 1 = some [.ptr h.next 3 0] := by rw [cellsAt_of ((k2 _ (by omega) (by omega)).trans cb3) (by rfl)]; rfl
  have m1 : ¬ h.next + 1 = h3.next + 1 := by omega
  have m2 : ¬ h.next + 1 = h3.next := by omega
  have m3 : ¬ h.next = h3.next := by omega
  have m4 : ¬ h3.next = h.next + 1 := by omega
  have d2' : h2.get h3.next = some (.defo true) := d2
  simp [cb2, m1, m2, m3, m4, d2']
  obtain ⟨ok, rl, pl⟩ := rsOf_ok _ may
  have s1 := rs_sorted o
  have eP : rsPairs (rsOf (rsPairs rs)) = rsPairs rs := psorted_eq (rs_sorted ok) s1 fun x => by obtain ⟨q, y⟩ := x; exact rsOf_mem _ may s1 q y
  refine ⟨rsOf (rsPairs rs), ok, eP, rl, ⟨ns', t2.keep fun j hj => ?_, fun j hj => ?_⟩, ⟨by simp only [H.next_set]; omega, fun j hj hn => ?_⟩, (w2.set (by omega) _).set (by simp only [H.next_set]; omega) _⟩
  · have := sub j hj
    rw [H.get_set, if_neg (by omega), H.get_set, if_neg (by omega)]
  · have := sub j hj
    exact .inr (by omega)
  · rw [H.get_set, if_neg (by omega), H.get_set, if_neg (by omega), k2 j (by omega) (by omega), g3.2 j hj]
end Go.Am

/-
  TrieMatch.
-/
namespace Go.Am
open Go.Proofs

set_option maxRecDepth 100000
theorem eqV_bool (a b : Bool) : eqV .bool (.bool a) (.bool b) = some (a == b) := by simp [eqV]
theorem TTurned.geM {ns : List Nat} {hb h0 h : H} {i : Nat} {rs : List Rt} {n : Nat} (t : TTurned ns hb i rs n h) (g : Ge h0 hb) (hn : ∀ j ∈ ns, h0.next ≤ j) : Ge h0 h := ⟨Nat.le_trans g.1 t.out.next, fun j hj => (t.out.keep j (Nat.lt_of_lt_of_le hj g.1) (fun hm => by have := hn j hm; omega)).trans (g.2 j hj)⟩
set_option maxHeartbeats 4000000 in
theorem tmatchlaw_ct {h : H} {lv : V} {l : List Sp} {x y : Sp} (sl : Sls h.get 4 lv (l.map spC)) (hl : ∀ s ∈ l, SpOk s) (hx : SpOk x) (hy : SpOk y) : Pure Tryd.prog 3 [lv, .agg (spC x), .agg (spC y)] h (.bool true) := by
  refine pure_to Tryd.func3 S.Hlaw03_TrieMatch_code S.Hlaw03_TrieMatch_enter rfl (Nat.le_of_ble_eq_true rfl) fun wf => ?_; simp only [S.Hlaw03_TrieMatch]
  have bl := sl.bound
  rw [List.length_map] at bl
  obtain ⟨h1, hh1⟩ : ∃ h1, h1 = (h.push (.row (spC x))).push (.row (spC y)) := ⟨_, rfl⟩
  have g1 : Ge h h1 := by rw [hh1]; exact ((Ge.refl _).push _).push _
  have w1 : h1.WF := by rw [hh1]; exact (wf.push _).push _
  have n1 : h1.next = h.next + 2 := by rw [hh1]; simp
  have x1 : h1.get h.next = some (.row (spC x)) := by rw [hh1]; simp
  have y1 : h1.get (h.next + 1) = some (.row (spC y)) := by rw [hh1]; simp
  simp only [spC] at hh1 ⊢
  simp
  rw [← hh1]
  refine new_ct fun _ ta0 => ?_
  simp
  obtain ⟨h2, hh2⟩ : ∃ h2, h2 = h1.push (trieO .nilsl 0) := ⟨_, rfl⟩
  rw [← hh2] at ta0 ⊢
  have g2 : Ge h1 h2 := by rw [hh2]; exact (Ge.refl _).push _
  have w2 : h2.WF := by rw [hh2]; exact w1.push _
  have n2 : h2.next = h.next + 3 := by rw [hh2]; simp; omega
  obtain ⟨i, hi⟩ : ∃ i, i = h1.next := ⟨_, rfl⟩
  rw [← hi] at ta0 ⊢
  have L := fun h' (g : Ge h h') => sl.lenG wf (List.length_map ..) h' g
  refine loop_cut 0 (fun t h' => (t 0 = lv ∧ t 4 = .ptr h.next 4 0 ∧ t 5 = .ptr (h.next + 1) 4 0 ∧ t 7 = .ptr i 3 0) ∧ ∃ rs, RsOk rs ∧ TTurned [i] h2 i rs (rsPairs rs).length h' ∧ rs.length ≤ 60 ∧ (rsPairs rs).length ≤ 60 ∧ ∀ j (hj : j < l.length), j < 60 → ∃ y, (ofP l[j], y) ∈ rsPairs rs)
    (fun k t h' => (t 0 = lv ∧ t 4 = .ptr h.next 4 0 ∧ t 5 = .ptr (h.next + 1) 4 0 ∧ t 7 = .ptr i 3 0 ∧ t 8 = .int .i64 (k : Nat)) ∧ k ≤ l.length ∧ ∃ rs, RsOk rs ∧ TTurned [i] h2 i rs (rsPairs rs).length h' ∧ rs.length ≤ k ∧ (rsPairs rs).length ≤ k ∧ ∀ j (hj : j < l.length), j < k → ∃ y, (ofP l[j], y) ∈ rsPairs rs) 60
    ⟨by simp, by omega, [], ⟨by simp, by simp⟩, TTurned.self ta0 w2, by simp, by simp [rsPairs], fun j _ hj => absurd hj (by omega)⟩ ?_ ?_
  · rintro k t h' hk ⟨⟨t0, t4, t5, t7, t8⟩, hkl, rs, ro, tt, b1, b2, b3⟩ K R hK hJ _
    have gh' : Ge h1 h' := tt.geM g2 (by simp; omega)
    have L' := L h' (g1.trans gh')
    by_cases hgo : k < l.length ∧ k < 60
    · obtain ⟨hlt, h60⟩ := hgo
      have hw := wrap_succ h60 (by omega)
      have h60' : (k : Int) < 60 := by omega
      obtain ⟨pp, q, off, ccs, e1, e2, e3, e4, e5, e6⟩ := sl.atG wf (k := k) (by simpa using hlt)
      have e3' := e3 h' (g1.trans gh')
      have hs := hl l[k] (List.getElem_mem hlt)
      rw [List.getElem_map] at e5
      simp only [spC] at e5
      simp [t0, t8, L', hlt, h60', e1, e3', e4, e5]
      refine of_ct hs _ ?_
      simp [t7, t8]
      refine Acalls.mono (tt.set_ct ro (by omega) (by omega) (ofP_may _) (k : Int)) ?_
      rintro _ h3 ⟨rfl, tt3⟩
      simp [t8, hw]
      refine hK _ _ h60 ⟨by simp [t0, t4, t5, t7], hlt, _, tset_ok ro (ofP_may _) _, tt3, ?_, ?_, fun j hj hjk => ?_⟩
      · have := tset_rts rs (ofP l[k]) k; omega
      · have := tset_len rs (ofP l[k]) k
        split at this <;> omega
      · by_cases e : ofP l[j] = ofP l[k]
        · exact ⟨k, (tset_mem ro (ofP_may _) _ _ _).2 (by rw [if_pos e])⟩
        · have hjk2 : j < k := by
            rcases Nat.lt_or_ge j k with h | h
            · exact h
            · have : j = k := by omega
              subst this; exact absurd rfl e
          obtain ⟨z, hz⟩ := b3 j hj hjk2
          exact ⟨z, (tset_mem ro (ofP_may _) _ _ _).2 (by rw [if_neg e]; exact hz)⟩
    · have fin : ∀ t' : Tm, (t' 0 = lv ∧ t' 4 = .ptr h.next 4 0 ∧ t' 5 = .ptr (h.next + 1) 4 0 ∧ t' 7 = .ptr i 3 0) → R (.exit 0) t' h' := fun t' ht => hJ _ _ ⟨ht, rs, ro, tt, by omega, by omega, fun j hj h6 => b3 j hj (by omega)⟩
      by_cases hlt : k < l.length
      · have h60 : ¬ (k : Int) < 60 := by omega
        simp [t0, t8, L', hlt, h60]
        exact fin _ (by simp [t0, t4, t5, t7])
      · simp [t0, t8, L', hlt]
        exact fin _ (by simp [t0, t4, t5, t7])
  · rintro t h3 ⟨⟨t0, t4, t5, t7⟩, rs, ro, tt, b1, b2, b3⟩
    have g3 : Ge h1 h3 := tt.geM g2 (by simp; omega)
    have w3 := tt.wf
    have x3 : cellsAt h3.get h.next 4 = some (spC x) := by rw [cellsAt_of ((g3.2 _ (by omega)).trans x1) (by rfl)]; rfl
    simp only [spC] at x3
    simp [t4, x3]
    refine of_ct hx _ ?_
    obtain ⟨p, hp⟩ : ∃ p, p = ofP x := ⟨_, rfl⟩
    have mp : mayP p = true := by rw [hp]; exact ofP_may _
    rw [← hp]
    simp only [pfxC]
    simp [t7]
    obtain ⟨ns4, ta3, sub4⟩ := tt.ex
    have lt3 := ta3.lt w3
    obtain ⟨h4, hh4⟩ : ∃ h4, h4 = (h3.push (.row [.int .i64 0, .int .u64 0, .str [], .int .i64 0])).set h3.next (.row (pfxC p)) := ⟨_, rfl⟩
    have g4 : Ge h3 h4 := by rw [hh4]; exact ((Ge.refl _).push _).set (Nat.le_refl _) _
    have w4 : h4.WF := by rw [hh4]; exact (w3.push _).set (by simp) _
    have n4 : h4.next = h3.next + 1 := by rw [hh4]; simp
    have q4 : h4.get h3.next = some (.row (pfxC p)) := by rw [hh4]; simp
    have ta4 : TrieAt h4 i rs (rsPairs rs).length ns4 := ta3.keep fun j hj => g4.2 j (lt3 j hj)
    simp only [pfxC] at hh4
    rw [← hh4]
    refine match_ct (p := p) ro ta4 (by omega) _ ?_
    obtain ⟨M, hM⟩ : ∃ M, M = mC (tmatch rs p) := ⟨_, rfl⟩
    obtain ⟨ib, hib⟩ : ∃ ib, ib = (tmatch rs p).isSome := ⟨_, rfl⟩
    rw [← hM, ← hib]
    simp only [pfxC]
    simp
    obtain ⟨h5, hh5⟩ : ∃ h5, h5 = (h4.push (.row [.int .i64 0, .int .u64 0, .str [], .int .i64 0])).set h4.next (.row (pfxC M.1)) := ⟨_, rfl⟩
    have g5 : Ge h4 h5 := by rw [hh5]; exact ((Ge.refl _).push _).set (Nat.le_refl _) _
    have w5 : h5.WF := by rw [hh5]; exact (w4.push _).set (by simp) _
    have n5 : h5.next = h4.next + 1 := by rw [hh5]; simp
    have m5 : h5.get h4.next = some (.row (pfxC M.1)) := by rw [hh5]; simp
    have q5 : h5.get h3.next = some (.row (pfxC p)) := (g5.2 _ (by omega)).trans q4
    have ta5 : TrieAt h5 i rs (rsPairs rs).length ns4 := ta4.keep fun j hj => g5.2 j (by have := lt3 j hj; omega)
    simp only [pfxC] at hh5
    rw [← hh5]
    have gh5 : Ge h h5 := ((g1.trans g3).trans g4).trans g5
    have b31 := g3.1
    have L5 := L h5 gh5
    have cq5 : cellsAt h5.get h3.next 4 = some (pfxC p) := by rw [cellsAt_of q5 (by rfl)]; rfl
    have cm5 : cellsAt h5.get h4.next 4 = some (pfxC M.1) := by rw [cellsAt_of m5 (by rfl)]; rfl
    simp only [pfxC] at cq5 cm5
    obtain ⟨sp1, sp2⟩ := tmatch_spec ro p
    refine loop_cut 2 (fun t h' => (t 5 = .ptr (h.next + 1) 4 0 ∧ t 7 = .ptr i 3 0 ∧ t 9 = .ptr h3.next 4 0 ∧ t 10 = .ptr h4.next 4 0 ∧ t 11 = .int .i64 M.2 ∧ t 12 = .bool ib) ∧ h' = h5)
      (fun k t h' => (t 0 = lv ∧ t 5 = .ptr (h.next + 1) 4 0 ∧ t 7 = .ptr i 3 0 ∧ t 9 = .ptr h3.next 4 0 ∧ t 10 = .ptr h4.next 4 0 ∧ t 11 = .int .i64 M.2 ∧ t 12 = .bool ib ∧ t 13 = .int .i64 (k : Nat)) ∧ h' = h5) 60
      ⟨by simp [t0, t5, t7], rfl⟩ ?_ ?_
    · rintro k t h' hk ⟨⟨t0, t5, t7, t9, t10, t11, t12, t13⟩, rfl⟩ K R hK hJ hret
      by_cases hgo : k < l.length ∧ k < 60
      · obtain ⟨hlt, h60⟩ := hgo
        have hw := wrap_succ h60 (by omega)
        have h60' : (k : Int) < 60 := by omega
        obtain ⟨pp, q, off, ccs, e1, e2, e3, e4, e5, e6⟩ := sl.atG wf (k := k) (by simpa using hlt)
        have e3' := e3 h' gh5
        have hs := hl l[k] (List.getElem_mem hlt)
        rw [List.getElem_map] at e5
        simp only [spC] at e5
        simp [t0, t13, L5, hlt, h60']
        refine dreg_quiet w5 ?_
        simp [t0, t13, e1, e3', e4, e5]
        refine qcall_of (v := .agg (pfxC (ofP l[k]))) rfl (fun h2 _ => of_ct hs) ?_
        simp [t9, cq5]
        refine qcall_of (v := .bool (covP (ofP l[k]) p)) rfl (fun h2 _ => covers_ct (a := ofP l[k]) (b := p)) ?_
        cases hc : covP (ofP l[k]) p with
        | false =>
          simp [t13, hw]
          exact hK _ _ h60 ⟨by simp [t0, t5, t7, t9, t10, t11, t12], rfl⟩
        | true =>
          obtain ⟨z, hz⟩ := b3 k hlt h60
          obtain ⟨m', hm', hle⟩ := sp1 _ _ hz hc
          have eM : M = m' := by rw [hM, hm']; rfl
          have eib : ib = true := by rw [hib, hm']; rfl
          have nlt : ¬ M.1.len < (ofP l[k]).len := by rw [eM]; omega
          simp [t12, eib, t0, t13, e1, e3', e4, e5]
          refine qcall_of (v := .agg (pfxC (ofP l[k]))) rfl (fun h2 _ => of_ct hs) ?_
          simp only [pfxC]
          simp [t10, cm5, nlt, t13, hw]
          exact hK _ _ h60 ⟨by simp [t0, t5, t7, t9, t10, t11, t12, eib], rfl⟩
      · by_cases hlt : k < l.length
        · have h60 : ¬ (k : Int) < 60 := by omega
          simp [t0, t13, L5, hlt, h60]
          exact hJ _ _ ⟨by simp [t5, t7, t9, t10, t11, t12], rfl⟩
        · simp [t0, t13, L5, hlt]
          exact hJ _ _ ⟨by simp [t5, t7, t9, t10, t11, t12], rfl⟩
    · rintro t h' ⟨⟨t5, t7, t9, t10, t11, t12⟩, rfl⟩
      simp [t12]
      refine cond_cut (fun t h2 => (t 5 = .ptr (h.next + 1) 4 0 ∧ t 7 = .ptr i 3 0 ∧ t 9 = .ptr h3.next 4 0 ∧ t 10 = .ptr h4.next 4 0 ∧ t 11 = .int .i64 M.2 ∧ t 12 = .bool ib) ∧ h2 = h') ?_ ?_ ?_
      · intro eib R hR
        have : ∃ m', tmatch rs p = some m' := by
          rw [hib] at eib
          exact Option.isSome_iff_exists.1 eib
        obtain ⟨m', hm'⟩ := this
        have eM : M = m' := by rw [hM, hm']; rfl
        obtain ⟨s1, s2⟩ := sp2 m' hm'
        rw [← eM] at s1 s2
        have tg : tget rs M.1 = some M.2 := (tget_iff ro).2 s1
        simp [t7, t10, cm5]
        refine get_ct (p := M.1) ro ta5 (by omega) _ ?_
        rw [tg]
        simp [t11, t10, t9, cm5, cq5]
        refine covers_ct (a := M.1) (b := p) _ ?_
        rw [s2]
        simp
        exact hR _ _ ⟨by simp [t5, t7, t9, t10, t11, t12], rfl⟩
      · intro _ R hR
        simp
        exact hR _ _ ⟨by simp [t5, t7, t9, t10, t11, t12], rfl⟩
      · rintro t h2 ⟨⟨t5, t7, t9, t10, t11, t12⟩, rfl⟩
        simp [t7]
        refine Acalls.mono (copy_ct ro ta5 (by omega) (by omega)) ?_
        rintro _ h6 ⟨c, rs', rfl, ro', eP, rl', ttc⟩
        have n6 := ttc.out.next
        have y6 : cellsAt h6.get (h.next + 1) 4 = some (spC y) := by rw [cellsAt_of ((ttc.out.keep _ (by omega) (by simp)).trans (((g3.trans g4).trans g5).2 _ (by omega) |>.trans y1)) (by rfl)]; rfl
        simp only [spC] at y6
        simp [eqV, t5, y6]
        refine of_ct hy _ ?_
        simp
        refine Acalls.mono (ttc.set_ct ro' (by omega) (by rw [eP]; omega) (ofP_may _) 77) ?_
        rintro _ h7 ⟨rfl, tt7⟩
        obtain ⟨rs7, hrs7⟩ : ∃ rs7, rs7 = tset rs' (ofP y) 77 := ⟨_, rfl⟩
        have ro7 : RsOk rs7 := by rw [hrs7]; exact tset_ok ro' (ofP_may _) _
        have rl7 : rs7.length ≤ 61 := by have := tset_rts rs' (ofP y) 77; rw [hrs7]; omega
        have mem7 : ∀ q z, (q, z) ∈ rsPairs rs → ∃ z', (q, z') ∈ rsPairs rs7 := fun q z hq => by
          rw [hrs7]
          by_cases e : q = ofP y
          · exact ⟨77, (tset_mem ro' (ofP_may _) _ _ _).2 (by rw [if_pos e])⟩
          · exact ⟨z, (tset_mem ro' (ofP_may _) _ _ _).2 (by rw [if_neg e, eP]; exact hq)⟩
        rw [← hrs7] at tt7
        have w7 := tt7.wf
        have n7 := tt7.out.next
        have k7 : ∀ j, j < h2.next → h7.get j = h2.get j := fun j hj => tt7.out.keep j hj (by simp)
        have gh7 : Ge h h7 := gh5.trans ⟨n7, k7⟩
        obtain ⟨ns7, ta7, sub7⟩ := tt7.ex
        have cq7 : cellsAt h7.get h3.next 4 = some (pfxC p) := by rw [cellsAt_of ((k7 _ (by omega)).trans q5) (by rfl)]; rfl
        simp only [pfxC] at cq7
        simp [t9, cq7]
        refine match_ct (p := p) ro7 ta7 (by omega) _ ?_
        obtain ⟨M7, hM7⟩ : ∃ M7, M7 = mC (tmatch rs7 p) := ⟨_, rfl⟩
        obtain ⟨ib7, hib7⟩ : ∃ ib7, ib7 = (tmatch rs7 p).isSome := ⟨_, rfl⟩
        rw [← hM7, ← hib7]
        obtain ⟨sp17, sp27⟩ := tmatch_spec ro7 p
        have f1 : ib = true → ib7 = true ∧ ¬ M7.1.len < M.1.len := fun eib => by
          rw [hib] at eib
          obtain ⟨m', hm'⟩ := Option.isSome_iff_exists.1 eib
          have eM : M = m' := by rw [hM, hm']; rfl
          obtain ⟨s1, s2⟩ := sp2 m' hm'
          obtain ⟨z', hz'⟩ := mem7 m'.1 m'.2 s1
          obtain ⟨m7, hm7, hle⟩ := sp17 _ _ hz' s2
          have eM7 : M7 = m7 := by rw [hM7, hm7]; rfl
          exact ⟨by rw [hib7, hm7]; rfl, by rw [eM, eM7]; omega⟩
        have f2 : ib7 = true → covP M7.1 p = true := fun e7 => by
          rw [hib7] at e7
          obtain ⟨m7, hm7⟩ := Option.isSome_iff_exists.1 e7
          have eM7 : M7 = m7 := by rw [hM7, hm7]; rfl
          rw [eM7]; exact (sp27 m7 hm7).2
        simp only [pfxC]
        simp
        obtain ⟨h8, hh8⟩ : ∃ h8, h8 = (h7.push (.row [.int .i64 0, .int .u64 0, .str [], .int .i64 0])).set h7.next (.row (pfxC M7.1)) := ⟨_, rfl⟩
        have g8 : Ge h7 h8 := by rw [hh8]; exact ((Ge.refl _).push _).set (Nat.le_refl _) _
        have w8 : h8.WF := by rw [hh8]; exact (w7.push _).set (by simp) _
        have n8 : h8.next = h7.next + 1 := by rw [hh8]; simp
        have cm8 : cellsAt h8.get h7.next 4 = some (pfxC M7.1) := by rw [hh8]; simp [pfxC]
        have cq8 : cellsAt h8.get h3.next 4 = some (pfxC p) := by rw [g8.cells (by omega)]; simp only [pfxC]; exact cq7
        have cn8 : cellsAt h8.get h4.next 4 = some (pfxC M.1) := by rw [cellsAt_of ((g8.2 _ (by omega)).trans ((k7 _ (by omega)).trans m5)) (by rfl)]; rfl
        have ta8 : TrieAt h8 i rs (rsPairs rs).length ns4 := ta5.keep fun j hj => (g8.2 j (by have := lt3 j hj; omega)).trans (k7 j (by have := lt3 j hj; omega))
        simp only [pfxC] at hh8 cm8 cq8 cn8
        rw [← hh8]
        have gh8 : Ge h h8 := gh7.trans g8
        have e5 := eq_pf M.1 M.1
        simp only [pfxC, decide_true] at e5
        have hcase : (ib = false ∧ ib7 = false) ∨ (ib = false ∧ ib7 = true) ∨ (ib = true ∧ ib7 = true ∧ ¬ M7.1.len < M.1.len) := by
          cases hb : ib with
          | true => exact .inr (.inr ⟨rfl, (f1 hb).1, (f1 hb).2⟩)
          | false =>
            cases hb7 : ib7 with
            | false => exact .inl ⟨rfl, rfl⟩
            | true => exact .inr (.inl ⟨rfl, rfl⟩)
        rcases hcase with ⟨v1, v2⟩ | ⟨v1, v2⟩ | ⟨v1, v2, v3⟩
        · rw [v1] at t12
          simp [t12, v2, t7, t9, cq8]
          refine match_ct (p := p) ro ta8 (by omega) _ ?_
          rw [← hM, ← hib, v1]
          simp only [pfxC]
          simp [t10, cn8, e5, t11, t12, show ¬ h4.next = h8.next by omega, eqV_bool]
          refine works_ct _ _ ?_
          simp
          exact (gh8.push _).set (by have := gh8.1; omega) _
        · rw [v1] at t12
          simp [t12, v2, t9, cm8, cq8]
          refine covers_ct (a := M7.1) (b := p) _ ?_
          rw [f2 v2]
          simp [t7, t9, cq8]
          refine match_ct (p := p) ro ta8 (by omega) _ ?_
          rw [← hM, ← hib, v1]
          simp only [pfxC]
          simp [t10, cn8, e5, t11, t12, show ¬ h4.next = h8.next by omega, eqV_bool]
          refine works_ct _ _ ?_
          simp
          exact (gh8.push _).set (by have := gh8.1; omega) _
        · rw [v1] at t12
          simp [t12, v2, v3, t10, t9, cm8, cq8, cn8]
          refine covers_ct (a := M7.1) (b := p) _ ?_
          rw [f2 v2]
          simp [t7, t9, cq8]
          refine match_ct (p := p) ro ta8 (by omega) _ ?_
          rw [← hM, ← hib, v1]
          simp only [pfxC]
          simp [t10, cn8, e5, t11, t12, show ¬ h4.next = h8.next by omega, eqV_bool]
          refine works_ct _ _ ?_
          simp
          exact (gh8.push _).set (by have := gh8.1; omega) _
end Go.Am
