/-
  NlriTaken answers true.
-/
import Derived.Test.YtcokdbloajhapaaDoorN9
import Derived.Test.YtcokdbloajhapaaDoorNW
namespace Go.Am
open Go.Proofs

set_option maxRecDepth 100000
def nlTS : TS := .st [(0, 4, true, (TS.st [(0, 1, false, TS.int), (1, 1, false, TS.int), (2, 1, false, TS.str), (3, 1, false, TS.int)])), (4, 1, false, TS.int), (5, 1, false, TS.int)]
theorem nl_same (n : Nl) : eqV (TS.st [(0, 4, true, (TS.st [(0, 1, false, TS.int), (1, 1, false, TS.int), (2, 1, false, TS.str), (3, 1, false, TS.int)])), (4, 1, false, TS.int), (5, 1, false, TS.int)]) (.agg (nlC n)) (.agg (nlC n)) = some true := by
  simp [nlC, eqV, eqFs]
theorem fam_of {x : Int} (h : 0 ≤ x) : 1 ≤ 1 + x.tmod 5 ∧ 1 + x.tmod 5 ≤ 5 := by
  rw [Int.tmod_eq_emod_of_nonneg h]; omega
theorem size_fam {f : Int} (h : 1 ≤ f ∧ f ≤ 5) : sizeN f ≠ 0 := by
  unfold sizeN
  split
  · omega
  · rw [if_pos (by omega)]; omega
theorem NlOk.fit {fam : Int} {add : Bool} {n : Nl} (h : NlOk fam add n) : NlFit n := ⟨h.idb, h.rdb⟩
theorem NlOk.enc {fam : Int} {add : Bool} {n : Nl} (h : NlOk fam add n) : encOk fam add n = true := by
  simp only [encOk, h.may, h.fam, Bool.true_and, Bool.and_eq_true, beq_self_eq_true, true_and, Bool.or_eq_true, decide_eq_true_eq]
  cases ha : add with
  | true => exact .inr rfl
  | false => exact .inl (h.id0 ha)
theorem encS_ok {fam : Int} {add : Bool} {l : List Nl} (z : sizeN fam ≠ 0) (h : ∀ n ∈ l, NlOk fam add n) : encS l fam add = some (encL add l) := by
  unfold encS
  rw [if_neg z, if_pos (List.all_eq_true.2 fun n hn => (h n hn).enc)]
theorem gl_sls {h : H} {lo : Nat} {v : V} {l : List Nl} (g : Gl h lo 6 v (l.map nlC)) (hl : l.length ≤ 100000000) : Sls h.get 6 v (l.map nlC) :=
  g.sls (fun e he => by obtain ⟨x, _, rfl⟩ := List.mem_map.1 he; rfl) (by simp; omega)
theorem encL_ge {add : Bool} : ∀ l : List Nl, l.length ≤ (encL add l).length
  | [] => by simp
  | n :: l => by
    have h1 := enc1_pos add n
    have h2 := encL_ge (add := add) l
    simp only [encL, List.flatMap_cons, List.length_append, List.length_cons] at h2 ⊢
    omega
theorem taken_ct {h : H} {s : List UInt8} {x : Int} {add : Bool} (hx : 0 ≤ x) (hx2 : x < 256) : Pure Tryd.prog 3 [.str s, .int .u8 x, .bool add] h (.bool true) := by
  refine pure_to Tryd.func3 S.Hlaw07_NlriTaken_code S.Hlaw07_NlriTaken_enter rfl (Nat.le_of_ble_eq_true rfl) fun wf => ?_; simp only [S.Hlaw07_NlriTaken]
  have hfam := fam_of hx
  obtain ⟨f, hf⟩ : ∃ f, f = 1 + x.tmod 5 := ⟨_, rfl⟩
  rw [← hf] at hfam
  have z := size_fam hfam
  have e0 : intV .rem .u8 x 5 = some (.int .u8 (x.tmod 5)) := rfl
  have e1 : IntKind.i64.wrap (x.tmod 5) = x.tmod 5 := wrap_i64_id (by omega) (by omega)
  have e2 : IntKind.i64.wrap (1 + x.tmod 5) = f := by rw [← hf]; exact wrap_i64_id (by omega) (by omega)
  obtain ⟨m, hm⟩ : ∃ m : Nat, m = min s.length 2000 := ⟨_, rfl⟩
  have e3 : (if (2000 : Int) < (s.length : Nat) then (2000 : Int) else (s.length : Nat)) = (m : Nat) := by rw [hm]; split <;> omega
  have e4 : m ≤ s.length := by omega
  obtain ⟨s1, hs1⟩ : ∃ s1, s1 = s.take m := ⟨_, rfl⟩
  have hl1 : s1.length = m := by rw [hs1, List.length_take]; omega
  simp [e0, e1, e2, e3, e4]
  rw [← hs1]
  refine decode_ct (by omega) (fun hz => absurd hz z) (fun _ _ h2 g2 w2 => ?_) (fun _ l hl v h2 g2 w2 gl => ?_)
  · simp
    refine works_ct _ _ ?_
    simp
    exact g2
  obtain ⟨hall, hlen⟩ := decL_ok z _ s1 l (Nat.le_refl _) hl
  have hll := encL_ge (add := add) l
  have hs := gl_sls gl (by omega)
  have hln := hs.lenG w2 (n := l.length) (by simp)
  simp
  refine loop_up (fun i t h' => (t 0 = .str s ∧ t 2 = .bool add ∧ t 7 = .int .i64 f ∧ t 8 = v ∧ t 10 = .int .i64 (i : Nat)) ∧ Ge h2 h') l.length ⟨by simp, Ge.refl _⟩ ?_
  rintro i t h' hi ⟨⟨t0, t2, t7, t8, t10⟩, hg⟩ K hK
  by_cases hlt : i < l.length
  · obtain ⟨p, q, o, cs, a1, a2, a3, a4, a5, a6⟩ := hs.atG w2 (k := i) (by simpa using hlt)
    have hok := hall l[i] (List.getElem_mem _)
    have a5' : (cs.drop o).take 6 = nlC l[i] := by rw [a5]; simp
    have a7 : cs[o]? = some (.int .i64 f) := by have := a6 0 (by omega); simpa [nlC, hok.fam] using this
    have hw := wrap_succ hlt (by omega)
    simp [t7, t8, t10, hln _ hg, hlt, a1, a3 _ hg, a4, a5']
    refine ncheck_ct (n := l[i]) _ ?_
    have a8 : cs[o]'(by omega) = .int .i64 f := by rw [List.getElem?_eq_getElem (by omega)] at a7; exact Option.some.inj a7
    have hlo : o < cs.length := by omega
    simp [hok.may, t7, t8, t10, a1, a3 _ hg, hlo, a8, hw]
    exact hK _ _ hlt ⟨by simp [t0, t2, t7, t8], hg⟩
  have hi2 : i = l.length := by omega
  subst hi2
  simp [t7, t8, t10, hln _ hg]
  simp [t0, t2, t7, t8]
  refine encode_ct (hs.ge w2 hg) (by omega) (fun n hn => (hall n hn).fit) _ ?_
  rw [encS_ok z hall]
  simp [t2, t7, t8]
  have hd := decL_back z l hall
  refine decode_ct (by omega) (fun hz => absurd hz z) (fun _ he => by rw [hd] at he; cases he) (fun _ l2 hl2 v2 h3 g3 w3 gl2 => ?_)
  have : l2 = l := by rw [hd] at hl2; exact (Option.some.inj hl2).symm
  subst this
  have hs3 := gl_sls gl2 (by omega)
  have hln2 := hs3.lenG w3 (n := l2.length) (by simp)
  have hg3 := hg.trans g3
  have e5 : ((encL add l2).length : Int) = (m : Nat) := by omega
  simp [hln2 _ (Ge.refl _), t0, t8, hln _ hg3, e5, e3]
  refine loop_up (fun i t h' => (t 8 = v ∧ t 12 = v2 ∧ t 14 = .int .i64 (i : Nat)) ∧ Ge h3 h') l2.length ⟨by simp [t8], Ge.refl _⟩ ?_
  clear t0 t2 t7 t8 t10
  rintro i t h' hi ⟨⟨t8, t12, t14⟩, hg4⟩ K hK
  have hg5 := hg3.trans hg4
  by_cases hlt : i < l2.length
  · obtain ⟨p, q, o, cs, a1, a2, a3, a4, a5, a6⟩ := hs.atG w2 (k := i) (by simpa using hlt)
    obtain ⟨p2, q2, o2, cs2, b1, b2, b3, b4, b5, b6⟩ := hs3.atG w3 (k := i) (by simpa using hlt)
    have a5' : (cs.drop o).take 6 = nlC l2[i] := by rw [a5]; simp
    have b5' : (cs2.drop o2).take 6 = nlC l2[i] := by rw [b5]; simp
    have hw := wrap_succ hlt (by omega)
    have hns := nl_same l2[i]
    simp [t8, t14, hln _ hg5, hlt]
    refine dreg_of ?_
    simp [t8, t12, t14, a1, b1, a3 _ hg5, b3 _ hg4, a4, b4, a5', b5', hns, hw]
    exact hK _ _ hlt ⟨by simp [t8, t12], hg4⟩
  have hi2 : i = l2.length := by omega
  subst hi2
  simp [t8, t14, hln _ hg5]
  refine works_ct _ _ ?_
  simp
  exact g2.trans hg5
end Go.Am
