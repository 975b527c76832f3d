/-
  Contracts: numbers taken by Decode's closure; what lies in the heap while Decode runs.
-/
import Derived.Test.YtcokdbloajhapaaDoorMB
namespace Go.Am
open Go.Proofs

set_option maxRecDepth 100000
theorem H.set_id {h : H} {i : Nat} {o : O} (e : h.get i = some o) : h.set i o = h := H.ext' rfl fun j => by
  rw [H.get_set]; split
  · rename_i e2; rw [e2, e]
  · rfl
/-- A number taken: its value, what is left, whether something was wrong. -/
def tkS (n : Nat) (st : List UInt8 × Bool) : Nat × (List UInt8 × Bool) := if n ≤ st.1.length then (val (st.1.take n), (st.1.drop n, st.2)) else (0, (st.1, true))
theorem tkS_lt {n : Nat} {st : List UInt8 × Bool} : (tkS n st).1 < 256 ^ n := by
  unfold tkS
  split
  · exact val_lt _ _ (by rw [List.length_take]; omega)
  · exact Nat.pow_pos (by omega)
theorem tkS_len {n : Nat} {st : List UInt8 × Bool} : (tkS n st).2.1.length ≤ st.1.length := by
  unfold tkS
  split
  · simp
  · exact Nat.le_refl _
theorem Gl.row {h : H} {lo sz : Nat} {v : V} {es : List (List V)} (g : Gl h lo sz v es) {i : Nat} {cs : List V} (hi : h.get i = some (.row cs)) (x : O) : Gl (h.set i x) lo sz v es := by
  refine g.keep (Nat.le_refl _) fun j hj => ?_
  rcases g with ⟨_, rfl⟩ | ⟨_, k, _, _, rfl, h3⟩
  · cases hj
  · have : j = k := by simpa [V.ids] using hj
    subst this
    rw [H.get_set, if_neg (fun e => by rw [e, hi] at h3; cases h3)]
theorem Gl.push' {h : H} {lo sz : Nat} {v : V} {es : List (List V)} (g : Gl h lo sz v es) (x : O) : Gl (h.push x) lo sz v es :=
  g.keep (by simp) fun j hj => by rw [H.get_push, if_neg (by have := (g.lo j hj).2; omega)]
/-- What lies in the heap while Decode runs: the reader, the pointer to it, the mark, the one that is being made, those that are made. -/
structure DS (h0 : H) (b : Nat) (st : List UInt8 × Bool) (n : List V) (v : V) (acc : List (List V)) (h : H) : Prop where
  ge : Ge h0 h
  wf : h.WF
  rd : h.get h0.next = some (rdr st.1)
  rp : h.get (h0.next + 1) = some (.row [.ptr h0.next 2 0])
  wr : h.get (h0.next + 2) = some (.row [.bool st.2])
  lo : h0.next + 3 ≤ b
  at_ : h.get b = some (.row n)
  gl : Gl h (h0.next + 3) 6 v acc
theorem take_ct {h0 h : H} {b : Nat} {st : List UInt8 × Bool} {n : List V} {v : V} {acc : List (List V)} (d : DS h0 b st n v acc h) {z : Nat} (hz : 1 ≤ z ∧ z ≤ 8) :
    ∃ h', (∀ Q : V → H → Prop, Q (.int .u64 (tkS z st).1) h' → Acalls Tryd.prog 13 [.int .i64 z, .ptr (h0.next + 1) 1 0, .ptr (h0.next + 2) 1 0] h Q) ∧ DS h0 b (tkS z st).2 n v acc h' := by
  obtain ⟨l, w⟩ := st
  obtain ⟨ge, wf, rd, rp, wr, lo, at_, gl⟩ := d
  simp only at rd wr
  by_cases hn : z ≤ l.length
  · refine ⟨(h.set h0.next (rdr (l.drop z))).set (h0.next + 2) (.row [.bool w]), fun Q q => ?_, ?_⟩
    · simp only [tkS, hn, if_true] at q
      refine acalls_to Tryd.func13 S.nlri_Decode_1_code S.nlri_Decode_1_enter (Nat.le_of_ble_eq_true rfl) fun wf => ?_; simp only [S.nlri_Decode_1]
      have c1 := cellsAt_of rp (n := 1) rfl
      simp at c1
      simp [c1]
      refine number_yes rd z rfl hz hn ?_
      have c2 := cellsAt_of wr (n := 1) rfl
      simp at c2
      cases w <;> simp [c2, wr] <;> exact q
    · simp only [tkS, hn, if_true]
      have e1 : (h.set h0.next (rdr (l.drop z))).get (h0.next + 2) = some (.row [.bool w]) := by rw [H.get_set, if_neg (by omega)]; exact wr
      rw [H.set_id e1]
      refine ⟨ge.set (Nat.le_refl _) _, wf.set (wf.lt rd) _, by simp, by rw [H.get_set, if_neg (by omega)]; exact rp, e1, lo, by rw [H.get_set, if_neg (by omega)]; exact at_, gl.row rd _⟩
  · refine ⟨h.set (h0.next + 2) (.row [.bool true]), fun Q q => ?_, ?_⟩
    · simp only [tkS, hn, if_false] at q
      refine acalls_to Tryd.func13 S.nlri_Decode_1_code S.nlri_Decode_1_enter (Nat.le_of_ble_eq_true rfl) fun wf => ?_; simp only [S.nlri_Decode_1]
      have c1 := cellsAt_of rp (n := 1) rfl
      simp at c1
      simp [c1]
      refine number_no rd z rfl hz (by omega) _ ?_
      have c2 := cellsAt_of wr (n := 1) rfl
      simp at c2
      cases w <;> simp [c2, wr] <;> exact q
    · simp only [tkS, hn, if_false]
      refine ⟨ge.set (by omega) _, wf.set (wf.lt wr) _, by rw [H.get_set, if_neg (by omega)]; exact rd, by rw [H.get_set, if_neg (by omega)]; exact rp, by simp, lo, by rw [H.get_set, if_neg (by omega)]; exact at_, gl.row wr _⟩
theorem DS.put {h0 h : H} {b : Nat} {st : List UInt8 × Bool} {n : List V} {v : V} {acc : List (List V)} (d : DS h0 b st n v acc h) (n' : List V) : DS h0 b st n' v acc (h.set b (.row n')) := by
  obtain ⟨ge, wf, rd, rp, wr, lo, at_, gl⟩ := d
  exact ⟨ge.set (by omega) _, wf.set (wf.lt at_) _, by rw [H.get_set, if_neg (by omega)]; exact rd, by rw [H.get_set, if_neg (by omega)]; exact rp, by rw [H.get_set, if_neg (by omega)]; exact wr, lo, by simp, gl.row at_ _⟩
theorem DS.mark {h0 h : H} {b : Nat} {st : List UInt8 × Bool} {n : List V} {v : V} {acc : List (List V)} (d : DS h0 b st n v acc h) (w : Bool) : DS h0 b (st.1, w) n v acc (h.set (h0.next + 2) (.row [.bool w])) := by
  obtain ⟨ge, wf, rd, rp, wr, lo, at_, gl⟩ := d
  exact ⟨ge.set (by omega) _, wf.set (wf.lt wr) _, by rw [H.get_set, if_neg (by omega)]; exact rd, by rw [H.get_set, if_neg (by omega)]; exact rp, by simp, lo, by rw [H.get_set, if_neg (by omega)]; exact at_, gl.row wr _⟩
theorem DS.push {h0 h : H} {b : Nat} {st : List UInt8 × Bool} {n : List V} {v : V} {acc : List (List V)} (d : DS h0 b st n v acc h) (x : O) : DS h0 b st n v acc (h.push x) := by
  obtain ⟨ge, wf, rd, rp, wr, lo, at_, gl⟩ := d
  have h1 := wf.lt rd
  have h2 := wf.lt rp
  have h3 := wf.lt wr
  have h4 := wf.lt at_
  exact ⟨ge.push _, wf.push _, by rw [H.get_push, if_neg (by omega)]; exact rd, by rw [H.get_push, if_neg (by omega)]; exact rp, by rw [H.get_push, if_neg (by omega)]; exact wr, lo, by rw [H.get_push, if_neg (by omega)]; exact at_, gl.push' _⟩
end Go.Am
