/-
 AM, PART 26. Lists of one's own that are written to (Wr).
-/
import Derived.Test.YtjahfjcfjnnnjaaGreatDoorYAm25
namespace Go.Am

variable {P : Program}
def Wr (h : H) (lo sz : Nat) (v : V) (n : Nat) : Prop := (n = 0 ∧ v = .nilsl) ∨ ∃ j cs, lo ≤ j ∧ j < h.next ∧ v = .sl j (n * sz) 0 n none ∧ h.get j = some (.grow sz cs) ∧ cs.length = n * sz
theorem Wr.one {h : H} {lo sz n : Nat} {v : V} (w : Wr h lo sz v n) : v.one = true := by
 rcases w with ⟨_, rfl⟩ | ⟨j, cs, _, _, rfl, _⟩ <;> rfl
theorem Gl.wr {h : H} {lo sz : Nat} {v : V} {es : List (List V)} (g : Gl h lo sz v es) (hs : ∀ e ∈ es, e.length = sz) : Wr h lo sz v es.length := by
 rcases g with ⟨rfl, rfl⟩ | ⟨_, j, h1, h2, rfl, h3⟩
 ·exact .inl ⟨rfl, rfl⟩
 ·exact .inr ⟨j, es.flatten, h1, h2, by rw [zaN hs], h3, zaN hs⟩
theorem Wr.lo {h : H} {lo sz n : Nat} {v : V} (w : Wr h lo sz v n) : ∀ i ∈ v.ids, lo ≤ i ∧ i < h.next := by
 rcases w with ⟨_, rfl⟩ | ⟨j, cs, h1, h2, rfl, _⟩ <;> simp_all [V.ids]
theorem Wr.len {h : H} {lo sz n : Nat} {v : V} (w : Wr h lo sz v n) (g : Nat -> Option O) : lenV 1 g v = some (.int .i64 n) := by
 rcases w with ⟨rfl, rfl⟩ | ⟨j, cs, _, _, rfl, _⟩ <;> simp
def Same (h h' : H) (lo : Nat) : Prop := h.next ≤ h'.next ∧ (∀ i, i < lo -> h'.get i = h.get i) ∧ ∀ i sz cs, h.get i = some (.grow sz cs) -> ∃ cs', h'.get i = some (.grow sz cs') ∧ cs'.length = cs.length
theorem Same.refl (h : H) (lo : Nat) : Same h h lo := ⟨Nat.le_refl _, fun _ _ => rfl, fun _ _ cs e => ⟨cs, e, rfl⟩⟩
theorem Same.trans {a b c : H} {lo : Nat} (x : Same a b lo) (y : Same b c lo) : Same a c lo := ⟨Nat.le_trans x.1 y.1, fun i hi => (y.2.1 i hi).trans (x.2.1 i hi), fun i sz cs e => by
 obtain ⟨c1, e1, l1⟩ := x.2.2 i sz cs e
 obtain ⟨c2, e2, l2⟩ := y.2.2 i sz c1 e1
 exact ⟨c2, e2, l2.trans l1⟩⟩
theorem Same.ge {h h' : H} {lo : Nat} (g : Ge h h') (w : h.WF) (hlo : lo ≤ h.next) : Same h h' lo := ⟨g.1, fun i hi => g.2 i (by omega), fun i sz cs e => ⟨cs, g.keeps w i _ e, rfl⟩⟩
theorem Same.to {h h' : H} (s : Same h h' h.next) : Ge h h' := ⟨s.1, s.2.1⟩
theorem Wr.same {h h' : H} {lo l2 sz n : Nat} {v : V} (w : Wr h lo sz v n) (s : Same h h' l2) : Wr h' lo sz v n := by
 rcases w with ⟨h1, h2⟩ | ⟨j, cs, h1, h2, h3, h4, h5⟩
 ·exact .inl ⟨h1, h2⟩
 ·obtain ⟨c', e, l⟩ := s.2.2 j sz cs h4
  exact .inr ⟨j, c', h1, Nat.lt_of_lt_of_le h2 s.1, h3, e, l.trans h5⟩
theorem Wr.at {h : H} {lo sz n k : Nat} {v : V} (w : Wr h lo sz v n) (hk : k < n) :
  ∃ j m o cs, (∀ kd, zaH sz v (.int kd (k : Int)) = some (.ptr j m o)) ∧ h.get j = some (.grow sz cs) ∧ cs.length = m ∧ o + sz ≤ m ∧ lo ≤ j ∧ j < h.next := by
 rcases w with ⟨h1, _⟩ | ⟨j, cs, h1, h2, rfl, h4, h5⟩
 ·omega
 ·have hm : k * sz + sz ≤ n * sz := by
   have := Nat.mul_le_mul_right sz (show k + 1 ≤ n by omega)
   rw [Nat.add_mul] at this; omega
  refine ⟨j, n * sz, k * sz, cs, fun kd => ?_, h4, h5, by omega, h1, h2⟩
  simp only [zdk, Int.toNat_natCast]
  rw [if_pos ⟨by omega, by omega⟩]; simp
theorem Same.set {h : H} {lo sz j : Nat} {cs cs' : List V} (e : h.get j = some (.grow sz cs)) (hl : cs'.length = cs.length) (hj : lo ≤ j) : Same h (h.set j (.grow sz cs')) lo := ⟨Nat.le_refl _, fun i hi => by rw [H.get_set, if_neg (by omega)], fun i s c e' => by
 rw [H.get_set]
 split
 ·rename_i hi
  rw [hi, e] at e'
  cases e'
  exact ⟨cs', rfl, hl⟩
 ·exact ⟨c, e', rfl⟩⟩
end Go.Am
