/-
  Contracts: spoil (writes into an open's own lists).
-/
import Derived.Test.YtapokdcbhpdceaaO2
import Derived.Test.YtapokdcbhpdceaaAm26
namespace Go.Am
open Go.Proofs

set_option maxRecDepth 100000
theorem spoil_ct {h : H} {o : Opn} {f a k : V} {lo n1 n2 n3 : Nat} (w1 : Wr h lo 1 f n1) (w2 : Wr h lo 3 a n2) (w3 : Wr h lo 2 k n3) (hlo : lo ≤ h.next) (b1 : n1 < 9223372036854775808) (b2 : n2 < 9223372036854775808) (b3 : n3 < 9223372036854775808) {Q : V → H → Prop}
    (q : ∀ h2, Same h h2 lo → h2.WF → Q (.tup []) h2) : Acalls Try.prog 20 [opnV o f a k] h Q := by
  refine acalls_to Try.func20 S.Hlaw10_spoil_code S.Hlaw10_spoil_enter (Nat.le_of_ble_eq_true rfl) fun wf => ?_; simp only [S.Hlaw10_spoil]
  have o1 := w1.one
  have o2 := w2.one
  have o3 := w3.one
  simp only [opnV]
  simp [o1, o2, o3]
  obtain ⟨hb, hhb⟩ : ∃ hb, hb = h.push (.row (opnC o f a k)) := ⟨_, rfl⟩
  have gb : Ge h hb := by rw [hhb]; simp
  have wb : hb.WF := by rw [hhb]; exact wf.push _
  have nb : hb.next = h.next + 1 := by rw [hhb]; rfl
  have sb : Same h hb lo := Same.ge gb wf hlo
  have y : hb.get h.next = some (.row (opnC o f a k)) := by rw [hhb]; simp
  have cy : ∀ x : H, x.get h.next = some (.row (opnC o f a k)) → cellsAt x.get h.next 11 = some (opnC o f a k) := fun x e => by rw [cellsAt_of e (by simp [opnC])]; rfl
  have cyb := cy hb y
  simp only [opnC] at hhb cy cyb
  rw [← hhb]
  refine loop_up (fun i t h' => (t 1 = .ptr h.next 11 0 ∧ t 2 = .int .i64 i) ∧ Same hb h' lo ∧ h'.WF ∧ h'.get h.next = some (.row (opnC o f a k))) n1 ⟨by simp, Same.refl _ _, wb, y⟩ ?_
  rintro i t h1 hi ⟨⟨t1, t2⟩, s1, wf1, y1⟩ K hK
  have cy1 := cy h1 y1
  have v1 := (w1.same sb).same s1
  have l1 := v1.len h1.get
  by_cases hlt : i < n1
  · obtain ⟨j, m, oo, cs, e1, e2, e3, e4, e5, e6⟩ := v1.at hlt
    have hw := wrap_succ hlt b1
    have hne : ¬ h.next = j := fun e => by rw [e, e2] at y1; cases y1
    simp [t1, t2, cy1, l1, hlt, e1, e2, e3, e4, hw]
    refine hK _ _ hlt ?_
    refine ⟨by simp [t1], s1.trans (Same.set e2 (by simp; omega) e5), wf1.set e6 _, by rw [H.get_set, if_neg hne]; exact y1⟩
  · simp [t1, t2, cy1, l1, hlt]
    refine loop_up (fun i t h' => (t 1 = .ptr h.next 11 0 ∧ t 3 = .int .i64 i) ∧ Same hb h' lo ∧ h'.WF ∧ h'.get h.next = some (.row (opnC o f a k))) n2 ⟨by simp [t1], s1, wf1, y1⟩ ?_
    clear hi t1 t2 s1 wf1 y1 cy1 v1 l1 hlt hK K
    rintro i t h1 hi ⟨⟨t1, t2⟩, s1, wf1, y1⟩ K hK
    have cy1 := cy h1 y1
    have v1 := (w2.same sb).same s1
    have l1 := v1.len h1.get
    by_cases hlt : i < n2
    · obtain ⟨j, m, oo, cs, e1, e2, e3, e4, e5, e6⟩ := v1.at hlt
      have hw := wrap_succ hlt b2
      have hne : ¬ h.next = j := fun e => by rw [e, e2] at y1; cases y1
      simp [t1, t2, cy1, l1, hlt, e1, e2, e3, e4, hw]
      refine hK _ _ hlt ?_
      refine ⟨by simp [t1], s1.trans (Same.set e2 (by simp; omega) e5), wf1.set e6 _, by rw [H.get_set, if_neg hne]; exact y1⟩
    · simp [t1, t2, cy1, l1, hlt]
      refine loop_up (fun i t h' => (t 1 = .ptr h.next 11 0 ∧ t 4 = .int .i64 i) ∧ Same hb h' lo ∧ h'.WF ∧ h'.get h.next = some (.row (opnC o f a k))) n3 ⟨by simp [t1], s1, wf1, y1⟩ ?_
      clear hi t1 t2 s1 wf1 y1 cy1 v1 l1 hlt hK K
      rintro i t h1 hi ⟨⟨t1, t2⟩, s1, wf1, y1⟩ K hK
      have cy1 := cy h1 y1
      have v1 := (w3.same sb).same s1
      have l1 := v1.len h1.get
      by_cases hlt : i < n3
      · obtain ⟨j, m, oo, cs, e1, e2, e3, e4, e5, e6⟩ := v1.at hlt
        have hw := wrap_succ hlt b3
        have hne : ¬ h.next = j := fun e => by rw [e, e2] at y1; cases y1
        simp [t1, t2, cy1, l1, hlt, e1, e2, e3, e4, hw]
        refine hK _ _ hlt ?_
        refine ⟨by simp [t1], s1.trans (Same.set e2 (by simp; omega) e5), wf1.set e6 _, by rw [H.get_set, if_neg hne]; exact y1⟩
      · simp [t1, t2, cy1, l1, hlt]
        exact q _ (sb.trans s1) wf1
end Go.Am
