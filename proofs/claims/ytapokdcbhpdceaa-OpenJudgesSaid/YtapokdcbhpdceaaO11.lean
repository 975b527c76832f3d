/-
  Contracts: contains; what two agree upon: 'both'.
-/
import Derived.Test.YtapokdcbhpdceaaO2
import Derived.Test.YtapokdcbhpdceaaAm24
namespace Go.Am
open Go.Proofs

theorem indexInt_ct {h : H} {v : V} {l : List Int} {f r : Int} (hs : Ints h.get v l) (hr : r = idxI (fun x => f == x) 0 l) : Pure Try.prog 88 [v, .int .i64 f] h (.int .i64 r) := by
  refine pure_to Try.func88 S.slices_Index_int_int_code S.slices_Index_int_int_enter rfl (Nat.le_of_ble_eq_true rfl) fun wf => ?_; simp only [S.slices_Index_int_int]
  have hb := hs.bound
  have hl := hs.lenG wf (n := l.length) (by simp)
  simp [hl]
  refine loop_up (fun i t h' => (t 0 = v ∧ t 1 = .int .i64 f ∧ t 7 = .int .i64 l.length ∧ t 8 = .int .i64 i) ∧ h = h' ∧ r = idxI (fun x => f == x) i (l.drop i)) l.length (by simp [hr]) ?_
  rintro i t _ hi ⟨⟨h0, h1, h7, h8⟩, rfl, ha⟩ K hK
  by_cases hlt : i < l.length
  · obtain ⟨p, q, o, cs, e1, _, e2, e3⟩ := hs.at1G wf hlt
    rw [List.drop_eq_getElem_cons hlt, idxI] at ha
    have hw := wrap_succ hlt (by simpa using hb)
    simp [h0, h1, h7, h8, hlt, e1, e2, e3]
    (first | refine guard_split ?_ ?_ | refine cond_split ?_ ?_ | refine sguard_split ?_ ?_) <;> intro e <;> (try simp only [Bool.not_true, Bool.not_false] at e) <;> simp [e, h8]
    · simp at e
      simp [ha, e]
    · simp at e
      rw [if_neg (by simpa using e)] at ha
      exact hK _ _ hlt ⟨by simp [h0, h1, h7, hw], rfl, ha⟩
  · simp [h7, h8, hlt]
    rw [ha, List.drop_of_length_le (by omega)]; rfl
theorem contains_ct {h : H} {v : V} {l : List Int} {f : Int} {r : Bool} (hs : Ints h.get v l) (hr : r = l.contains f) : Pure Try.prog 66 [v, .int .i64 f] h (.bool r) := by
  refine pure_to Try.func66 S.slices_Contains_int_int_code S.slices_Contains_int_int_enter rfl (Nat.le_of_ble_eq_true rfl) fun wf => ?_; simp only [S.slices_Contains_int_int]
  simp
  refine indexInt_ct hs rfl _ ?_
  have := idxI_any (fun x => f == x) l 0
  simp
  rw [this, hr, List.contains_eq_any_beq]

theorem idss_ints : ∀ l : List Int, V.idss (l.map (.int .i64)) = []
  | [] => rfl
  | _ :: l => by simp [V.idss, V.ids, idss_ints l]
theorem flat_ints : ∀ l : List Int, (l.map fun x => [V.int .i64 x]).flatten = l.map (.int .i64)
  | [] => rfl
  | _ :: l => by simp [flat_ints l]
theorem asks68 {h : H} {q : Nat} {f : Int} (hq : h.get q = some (.row [.int .i64 f])) (hl : q < h.next) : Asks h (.func (.func 68) [] [.ptr q 1 0]) (fun x => .agg (addC x)) (fun x : Add => x.fam == f && x.send) := by
  intro x h' g Q k
  have hc : cellsAt h'.get q 1 = some [.int .i64 f] := by rw [g.cells hl, cellsAt_of hq (by simp)]; rfl
  have hc2 : ∀ o, cellsAt (h'.push o).get q 1 = some [.int .i64 f] := fun o => by rw [cellsAt_push, if_neg (by have := g.1; omega)]; exact hc
  simp
  refine (?_ : Pure Try.prog 68 [.agg (addC x), .ptr q 1 0] h' (.bool (x.fam == f && x.send))) Q k
  refine pure_to Try.func68 S.open_Agree_1_1_code S.open_Agree_1_1_enter rfl (Nat.le_of_ble_eq_true rfl) fun wf => ?_; simp only [S.open_Agree_1_1]
  simp [hc2]
  (first | refine guard_split ?_ ?_ | refine cond_split ?_ ?_ | refine sguard_split ?_ ?_) <;> intro e <;> (try simp only [Bool.not_true] at e) <;> simp [e]
  all_goals (simp at e; simp [e])
theorem asks69 {h : H} {q : Nat} {f : Int} (hq : h.get q = some (.row [.int .i64 f])) (hl : q < h.next) : Asks h (.func (.func 69) [] [.ptr q 1 0]) (fun x => .agg (addC x)) (fun x : Add => x.fam == f && x.take) := by
  intro x h' g Q k
  have hc : cellsAt h'.get q 1 = some [.int .i64 f] := by rw [g.cells hl, cellsAt_of hq (by simp)]; rfl
  have hc2 : ∀ o, cellsAt (h'.push o).get q 1 = some [.int .i64 f] := fun o => by rw [cellsAt_push, if_neg (by have := g.1; omega)]; exact hc
  simp
  refine (?_ : Pure Try.prog 69 [.agg (addC x), .ptr q 1 0] h' (.bool (x.fam == f && x.take))) Q k
  refine pure_to Try.func69 S.open_Agree_1_2_code S.open_Agree_1_2_enter rfl (Nat.le_of_ble_eq_true rfl) fun wf => ?_; simp only [S.open_Agree_1_2]
  simp [hc2]
  (first | refine guard_split ?_ ?_ | refine cond_split ?_ ?_ | refine sguard_split ?_ ?_) <;> intro e <;> (try simp only [Bool.not_true] at e) <;> simp [e]
  all_goals (simp at e; simp [e])

/-- What goes with path ids. -/
def bothB (a b : List Add) (fl : List Int) : List Int := fl.filter fun f => (a.any fun x => x.fam == f && x.send) && (b.any fun x => x.fam == f && x.take)
theorem both_ct {h : H} {a b fv : V} {la lb : List Add} {fl : List Int} {s : Nat} {cs : List V} (ha : Adds h.get a la) (hb : Adds h.get b lb) (hs : h.get s = some (.row cs)) (hcl : cs.length = 10) (hfv : cs[1]? = some fv) (hf : Ints h.get fv fl) (h5 : fl.length ≤ 1000) {Q : V → H → Prop}
    (q1 : bothB la lb fl = [] → Q .nilsl h) (q2 : bothB la lb fl ≠ [] → Q (.sl h.next (bothB la lb fl).length 0 (bothB la lb fl).length none) (h.push (.grow 1 ((bothB la lb fl).map (.int .i64))))) : Acalls Try.prog 67 [a, b, .ptr s 10 0] h Q := by
  obtain ⟨out, hout⟩ : ∃ o, o = bothB la lb fl := ⟨_, rfl⟩
  rw [← hout] at q1 q2
  have hlen : ((out.map (.int .i64) : List V)).length = out.length := by simp
  refine Acalls.fresh (sz := 1) (len := out.length) (cells := out.map (.int .i64)) ?_ (idss_ints _) (fun e => q1 (by simpa using e)) (fun e => by rw [hlen]; exact q2 (by simpa using e))
  refine acalls_to Try.func67 S.open_Agree_1_code S.open_Agree_1_enter (Nat.le_of_ble_eq_true rfl) fun wf => ?_; simp only [S.open_Agree_1]
  have lt := wf.lt hs
  have c0 : ∀ x, Ge h x → cellsAt x.get s 10 = some cs := fun x g => by rw [g.cells lt, cellsAt_of hs (by simp [hcl])]; rfl
  have hl := hf.lenG wf (n := fl.length) (by simp)
  have hbd := hf.bound
  simp [c0, hfv, hl]
  refine loop_up (fun i t h' => ∃ (v : V) (acc : List Int), (t 0 = a ∧ t 1 = b ∧ t 6 = v ∧ t 11 = fv ∧ t 12 = .int .i64 fl.length ∧ t 13 = .int .i64 i) ∧ Ge h h' ∧ Gl h' h.next 1 v (acc.map fun x => [.int .i64 x]) ∧ acc.length ≤ i ∧ acc ++ bothB la lb (fl.drop i) = out) fl.length ⟨.nilsl, [], by simp, Ge.refl _, Gl.nil _ _ _, by simp, by simp [hout]⟩ ?_
  rintro i t h' hi ⟨v, acc, ⟨t0, t1, t6, t11, t12, t13⟩, hg, gl, hal, hac⟩ K hK
  have hn := hg.1
  by_cases hlt : i < fl.length
  · obtain ⟨p, q, o, cc, e1, _, e2, e3⟩ := hf.at1G wf hlt
    have e2 := e2 _ hg
    have hw := wrap_succ hlt (by simpa using hbd)
    rw [List.drop_eq_getElem_cons hlt, bothB, List.filter_cons] at hac
    simp [t0, t11, t12, t13, hlt, e1, e2, e3]
    obtain ⟨h2, hh2⟩ : ∃ h2, h2 = (h'.push (.row [.int .i64 0])).set h'.next (.row [.int .i64 fl[i]]) := ⟨_, rfl⟩
    rw [← hh2]
    have g2 : Ge h' h2 := by rw [hh2]; exact ((Ge.refl _).push _).set (Nat.le_refl _) _
    have gh2 : Ge h h2 := hg.trans g2
    have x2 : h2.get h'.next = some (.row [.int .i64 fl[i]]) := by rw [hh2]; simp
    have n2 : h2.next = h'.next + 1 := by rw [hh2]; rfl
    refine anyAdd_ct (ha.ge wf gh2) (asks68 x2 (by omega)) rfl _ ?_
    simp
    have skip : ∀ t', t' 0 = a → t' 1 = b → t' 6 = v → t' 11 = fv → t' 12 = .int .i64 fl.length → t' 13 = .int .i64 ((i : Int) + 1) → ((la.any fun x => x.fam == fl[i] && x.send) && (lb.any fun x => x.fam == fl[i] && x.take)) = false → K t' h2 := by
      intro t' a0 a1 a6 a11 a12 a13 hc
      rw [if_neg (by simp [hc])] at hac
      refine hK _ _ hlt ⟨v, acc, ⟨a0, a1, a6, a11, a12, by simpa using a13⟩, gh2, gl.keep g2.1 (fun j hj => g2.2 j (gl.lo j hj).2), by omega, hac⟩
    (first | refine guard_split ?_ ?_ | refine cond_split ?_ ?_ | refine sguard_split ?_ ?_) <;> intro e <;> (try simp only [Bool.not_true] at e) <;> simp [e, t1, t13]
    · refine anyAdd_ct (hb.ge wf gh2) (asks69 x2 (by omega)) rfl _ ?_
      simp
      (first | refine guard_split ?_ ?_ | refine cond_split ?_ ?_ | refine sguard_split ?_ ?_) <;> intro ef <;> (try simp only [Bool.not_true, Bool.not_false] at ef) <;> simp [ef, t6, t13]
      · have cx : cellsAt h2.get h'.next 1 = some [.int .i64 fl[i]] := by rw [cellsAt_of x2 (by simp)]; rfl
        obtain ⟨h3, hh3⟩ : ∃ h3, h3 = h2.push (.row [.int .i64 fl[i]]) := ⟨_, rfl⟩
        have n3 : h3.next = h2.next + 1 := by rw [hh3]; rfl
        have g3 : Ge h2 h3 := by rw [hh3]; simp
        have gl3 : Gl h3 h.next 1 v (acc.map fun x => [.int .i64 x]) := gl.keep (by omega) (fun j hj => by rw [g3.2 j (by have := (gl.lo j hj).2; omega), g2.2 j (gl.lo j hj).2])
        obtain ⟨v', d, ea, gl', nn, kk, _⟩ := gl3.append (bytes := 8) (x := .sl h2.next 1 0 1 (some 1)) (e := [.int .i64 fl[i]]) (by omega) (by simp) rfl (by rw [hh3]; simp [elemsV_sl]) (by simp) (by omega) (by simp; omega) (by simp; omega)
        rw [n3] at ea
        simp [cx]
        rw [← hh3, ea]
        simp [hw, t13]
        refine hK _ _ hlt ⟨v', acc ++ [fl[i]], by simp [t0, t1, t11, t12], ?_, by simpa using gl', by simp; omega, ?_⟩
        · refine ⟨by omega, fun j hj => ?_⟩
          rw [kk j (fun hm => by have := (gl.lo j hm).1; omega) (by omega), g3.2 j (by omega), gh2.2 j hj]
        · rw [← hac, if_pos (by simp only [e, ef]; rfl)]; simp [bothB]
      · simp [hw]
        exact skip _ (by simp [t0]) (by simp [t1]) (by simp [t6]) (by simp [t11]) (by simp [t12]) (by simp) (by rw [e, ef]; rfl)
    · simp [hw]
      exact skip _ (by simp [t0]) (by simp [t1]) (by simp [t6]) (by simp [t11]) (by simp [t12]) (by simp) (by rw [e]; rfl)
  · simp [t6, t12, t13, hlt]
    have hA : acc = out := by rw [← hac, List.drop_of_length_le (by omega)]; simp [bothB]
    subst hA
    refine ⟨hg, ?_⟩
    rcases gl with ⟨hx, rfl⟩ | ⟨hx, j, j1, j2, rfl, j3⟩
    · left; exact ⟨rfl, by simpa using hx⟩
    · right
      rw [flat_ints] at j3
      exact ⟨by simpa using hx, j, by simp [flat_ints], j1, j3⟩
end Go.Am
