/-
  Contracts: spoil, with all that it leaves as it was; one list may be a block of one.
-/
import Derived.Test.YtapokdcbhpdceaaO14
import Derived.Test.YtapokdcbhpdceaaAm30
namespace Go.Am
open Go.Proofs

set_option maxRecDepth 100000
/-- A list of own objects, or a block of one. -/
def Wl (h : H) (lo : Nat) (v : V) (n : Nat) : Prop := Wr h lo 1 v n ∨ (n = 1 ∧ ∃ j c, lo ≤ j ∧ j < h.next ∧ v = .sl j 1 0 1 (some 1) ∧ h.get j = some (.row [c]))
theorem Wl.len {h : H} {lo n : Nat} {v : V} (w : Wl h lo v n) (g : Nat → Option O) : lenV 1 g v = some (.int .i64 n) := by
  rcases w with w | ⟨rfl, j, c, _, _, rfl, _⟩
  · exact w.len g
  · simp
theorem Wl.one {h : H} {lo n : Nat} {v : V} (w : Wl h lo v n) : v.one = true := by
  rcases w with w | ⟨rfl, j, c, _, _, rfl, _⟩
  · exact w.one
  · rfl
theorem Wl.lo {h : H} {lo n : Nat} {v : V} (w : Wl h lo v n) : ∀ i ∈ v.ids, lo ≤ i ∧ i < h.next := by
  rcases w with w | ⟨rfl, j, c, a, b, rfl, _⟩
  · exact w.lo
  · simp [V.ids, a, b]
theorem Wr.at2 {h : H} {lo sz n k : Nat} {v : V} (w : Wr h lo sz v n) (hk : k < n) :
    ∃ j m o cs, (∀ kd, indexAddrV sz v (.int kd (k : Int)) = some (.ptr j m o)) ∧ h.get j = some (.grow sz cs) ∧ cs.length = m ∧ o + sz ≤ m ∧ lo ≤ j ∧ j < h.next ∧ j ∈ v.ids := by
  rcases w with ⟨h1, _⟩ | ⟨j, cs, h1, h2, rfl, h4, h5⟩
  · omega
  · have hm : k * sz + sz ≤ n * sz := by
      have := Nat.mul_le_mul_right sz (show k + 1 ≤ n by omega)
      rw [Nat.add_mul] at this; omega
    refine ⟨j, n * sz, k * sz, cs, fun kd => ?_, h4, h5, by omega, h1, h2, by simp [V.ids]⟩
    simp only [indexAddrV_sl, Int.toNat_natCast]
    rw [if_pos ⟨by omega, by omega⟩]; simp
theorem Same.row {h : H} {lo j : Nat} {cs cs' : List V} (e : h.get j = some (.row cs)) (hj : lo ≤ j) : Same h (h.set j (.row cs')) lo := ⟨Nat.le_refl _, fun i hi => by rw [H.get_set, if_neg (by omega)], fun i s c e' => by
  rw [H.get_set]
  split
  · rename_i hi
    rw [hi, e] at e'
    cases e'
  · exact ⟨c, e', rfl⟩⟩
theorem spoil2_ct {h : H} {o : Opn} {f a k : V} {lo n1 n2 n3 : Nat} (w1 : Wl h lo f n1) (w2 : Wr h lo 3 a n2) (w3 : Wr h lo 2 k n3) (hlo : lo ≤ h.next) (b1 : n1 < 9223372036854775808) (b2 : n2 < 9223372036854775808) (b3 : n3 < 9223372036854775808) {Q : V → H → Prop}
    (q : ∀ h2, h.next ≤ h2.next → (∀ j, j < h.next → j ∉ f.ids → j ∉ a.ids → j ∉ k.ids → h2.get j = h.get j) → h2.WF → Q (.tup []) h2) : Acalls Try.prog 20 [opnV o f a k] h Q := by
  refine acalls_to Try.func20 S.Hlaw10_spoil_code S.Hlaw10_spoil_enter (Nat.le_of_ble_eq_true rfl) fun wf => ?_; simp only [S.Hlaw10_spoil]
  have o1 := w1.one
  have o2 := w2.one
  have o3 := w3.one
  simp only [opnV]
  simp [o1, o2, o3]
  obtain ⟨hb, hhb⟩ : ∃ hb, hb = h.push (.row (opnC o f a k)) := ⟨_, rfl⟩
  have gb : Ge h hb := by rw [hhb]; simp
  have wb : hb.WF := by rw [hhb]; exact wf.push _
  have nb : hb.next = h.next + 1 := by rw [hhb]; rfl
  have sb : Same h hb lo := Same.ge gb wf hlo
  have y : hb.get h.next = some (.row (opnC o f a k)) := by rw [hhb]; simp
  have cy : ∀ x : H, x.get h.next = some (.row (opnC o f a k)) → cellsAt x.get h.next 11 = some (opnC o f a k) := fun x e => by rw [cellsAt_of e (by simp [opnC])]; rfl
  have cyb := cy hb y
  simp only [opnC] at hhb cy cyb
  rw [← hhb]
  have w1b : Wl hb lo f n1 := by
    rcases w1 with w | ⟨rfl, j, c, a, b, rfl, e⟩
    · exact .inl (w.same sb)
    · exact .inr ⟨rfl, j, c, a, by omega, rfl, by rw [gb.2 j b]; exact e⟩
  have Kp : ∀ {h1 : H}, (∀ j, j ∉ f.ids → j ∉ a.ids → j ∉ k.ids → h1.get j = hb.get j) → ∀ {j : Nat} {x : O}, (j ∈ f.ids ∨ j ∈ a.ids ∨ j ∈ k.ids) → ∀ i, i ∉ f.ids → i ∉ a.ids → i ∉ k.ids → (h1.set j x).get i = hb.get i := fun {h1} h0 {j x} hj i i1 i2 i3 => by
    rw [H.get_set, if_neg, h0 i i1 i2 i3]
    rintro rfl
    rcases hj with h | h | h
    · exact i1 h
    · exact i2 h
    · exact i3 h
  refine loop_up (fun i t h' => (t 1 = .ptr h.next 11 0 ∧ t 2 = .int .i64 i) ∧ Same hb h' lo ∧ h'.WF ∧ h'.get h.next = some (.row (opnC o f a k)) ∧ Wl h' lo f n1 ∧ ∀ j, j ∉ f.ids → j ∉ a.ids → j ∉ k.ids → h'.get j = hb.get j) n1 ⟨by simp, Same.refl _ _, wb, y, w1b, fun _ _ _ _ => rfl⟩ ?_
  rintro i t h1 hi ⟨⟨t1, t2⟩, s1, wf1, y1, v1, kp⟩ K hK
  have cy1 := cy h1 y1
  have l1 := v1.len h1.get
  by_cases hlt : i < n1
  · have hw := wrap_succ hlt b1
    rcases v1 with v1 | ⟨rfl, j, c, e5, e6, rfl, e2⟩
    · obtain ⟨j, m, oo, cs, e1, e2, e3, e4, e5, e6, e7⟩ := v1.at2 hlt
      have hne : ¬ h.next = j := fun e => by rw [e, e2] at y1; cases y1
      simp [t1, t2, cy1, l1, hlt, e1, e2, e3, e4, hw]
      refine hK _ _ hlt ?_
      refine ⟨by simp [t1], s1.trans (Same.set e2 (by simp; omega) e5), wf1.set e6 _, by rw [H.get_set, if_neg hne]; exact y1, .inl (v1.same (Same.set e2 (by simp; omega) e5)), Kp kp (.inl e7)⟩
    · have hi0 : i = 0 := by omega
      subst hi0
      have hne : ¬ h.next = j := by
        have := (w1.lo j (by simp [V.ids])).2; omega
      have hw1 : IntKind.i64.wrap 1 = 1 := by decide
      simp [t1, t2, cy1, l1, e2, hw1]
      refine hK _ _ hlt ?_
      refine ⟨by simp [t1], s1.trans (Same.row e2 e5), wf1.set e6 _, by rw [H.get_set, if_neg hne]; exact y1, .inr ⟨rfl, j, _, e5, e6, rfl, by simp; rfl⟩, Kp kp (.inl (by simp [V.ids]))⟩
  · simp [t1, t2, cy1, l1, hlt]
    refine loop_up (fun i t h' => (t 1 = .ptr h.next 11 0 ∧ t 3 = .int .i64 i) ∧ Same hb h' lo ∧ h'.WF ∧ h'.get h.next = some (.row (opnC o f a k)) ∧ ∀ j, j ∉ f.ids → j ∉ a.ids → j ∉ k.ids → h'.get j = hb.get j) n2 ⟨by simp [t1], s1, wf1, y1, kp⟩ ?_
    clear hi t1 t2 s1 wf1 y1 cy1 v1 l1 hlt hK K kp
    rintro i t h1 hi ⟨⟨t1, t2⟩, s1, wf1, y1, kp⟩ K hK
    have cy1 := cy h1 y1
    have v1 := (w2.same sb).same s1
    have l1 := v1.len h1.get
    by_cases hlt : i < n2
    · obtain ⟨j, m, oo, cs, e1, e2, e3, e4, e5, e6, e7⟩ := v1.at2 hlt
      have hw := wrap_succ hlt b2
      have hne : ¬ h.next = j := fun e => by rw [e, e2] at y1; cases y1
      simp [t1, t2, cy1, l1, hlt, e1, e2, e3, e4, hw]
      refine hK _ _ hlt ?_
      refine ⟨by simp [t1], s1.trans (Same.set e2 (by simp; omega) e5), wf1.set e6 _, by rw [H.get_set, if_neg hne]; exact y1, Kp kp (.inr (.inl e7))⟩
    · simp [t1, t2, cy1, l1, hlt]
      refine loop_up (fun i t h' => (t 1 = .ptr h.next 11 0 ∧ t 4 = .int .i64 i) ∧ Same hb h' lo ∧ h'.WF ∧ h'.get h.next = some (.row (opnC o f a k)) ∧ ∀ j, j ∉ f.ids → j ∉ a.ids → j ∉ k.ids → h'.get j = hb.get j) n3 ⟨by simp [t1], s1, wf1, y1, kp⟩ ?_
      clear hi t1 t2 s1 wf1 y1 cy1 v1 l1 hlt hK K kp
      rintro i t h1 hi ⟨⟨t1, t2⟩, s1, wf1, y1, kp⟩ K hK
      have cy1 := cy h1 y1
      have v1 := (w3.same sb).same s1
      have l1 := v1.len h1.get
      by_cases hlt : i < n3
      · obtain ⟨j, m, oo, cs, e1, e2, e3, e4, e5, e6, e7⟩ := v1.at2 hlt
        have hw := wrap_succ hlt b3
        have hne : ¬ h.next = j := fun e => by rw [e, e2] at y1; cases y1
        simp [t1, t2, cy1, l1, hlt, e1, e2, e3, e4, hw]
        refine hK _ _ hlt ?_
        refine ⟨by simp [t1], s1.trans (Same.set e2 (by simp; omega) e5), wf1.set e6 _, by rw [H.get_set, if_neg hne]; exact y1, Kp kp (.inr (.inr e7))⟩
      · simp [t1, t2, cy1, l1, hlt]
        exact q _ (by have := s1.1; omega) (fun j hj i1 i2 i3 => by rw [kp j i1 i2 i3, gb.2 j hj]) wf1
end Go.Am
