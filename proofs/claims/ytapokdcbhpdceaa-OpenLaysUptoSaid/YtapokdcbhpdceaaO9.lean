/-
  OpenLays answers true.
-/
import Derived.Test.YtapokdcbhpdceaaO7
import Derived.Test.YtapokdcbhpdceaaO8
namespace Go.Am
open Go.Proofs

set_option maxRecDepth 100000 in
theorem openLays_ct {h : H} {o : Opn} {f a k : V} (ho : OpnAt h.get o f a k) (hk : o.Ok) (n1 : o.fams.length ≤ 1048576) (n2 : o.adds.length ≤ 1048576) (n3 : o.kept.length ≤ 1048576) : Pure Try.prog 3 [opnV o f a k] h (.bool true) := by
  refine pure_to Try.func3 S.Hlaw10_OpenLays_code S.Hlaw10_OpenLays_enter rfl (Nat.le_of_ble_eq_true rfl) fun wf => ?_; simp only [S.Hlaw10_OpenLays]
  have o1 := ho.fams.one
  have o2 := ho.adds.one
  have o3 := ho.kept.one
  simp [o1, o2, o3]
  obtain ⟨hb, hhb⟩ : ∃ hb, hb = h.push (.row (opnC o f a k)) := ⟨_, rfl⟩
  have gb : Ge h hb := by rw [hhb]; simp
  have wb : hb.WF := by rw [hhb]; exact wf.push _
  have c1 : ∀ x, Ge hb x → cellsAt x.get h.next 11 = some (opnC o f a k) := fun x gx => by rw [gx.cells (by rw [hhb]; simp), hhb]; simp [opnC]
  simp only [opnC] at hhb
  rw [← hhb]
  refine own_ct (ho.ge wf gb) n1 n2 n3 fun f' a' k' h2 g2 w2 ho2 => ?_
  have p1 := ho2.fams.one
  have p2 := ho2.adds.one
  have p3 := ho2.kept.one
  have nb : h.next < h2.next := by have := g2.1; rw [hhb] at this; simp at this; omega
  obtain ⟨h3, hh3⟩ : ∃ h3, h3 = (h2.push (.row [.int .u32 0, .int .i64 0, .int .u32 0, .nilsl, .bool false, .bool false, .nilsl, .bool false, .bool false, .int .i64 0, .nilsl])).set h2.next (.row (opnC o f' a' k')) := ⟨_, rfl⟩
  have g3 : Ge h2 h3 := by rw [hh3]; exact ((Ge.refl _).push _).set (Nat.le_refl _) _
  have w3 : h3.WF := by rw [hh3]; exact (w2.push _).set (by simp) _
  have d1 : cellsAt h3.get h.next 11 = some (opnC o f a k) := c1 _ (g2.trans g3)
  have d2 : cellsAt h3.get h2.next 11 = some (opnC o f' a' k') := by rw [hh3]; simp [opnC]
  have ho3 := ho2.ge w2 g3
  have hoo := ho.ge wf ((gb.trans g2).trans g3)
  simp only [opnC] at d1 d2 hh3
  simp [p1, p2, p3]
  rw [← hh3]
  cases hc : checkB o with
  | false =>
    refine encode_no ho3 hc _ ?_
    simp [d1]
    refine rencode_no hoo hc _ ?_
    simp
    refine dreg_quiet w3 ?_
    simp [d2]
    refine qcall_of (v := .int .i64 2) rfl (fun h2 g => check_ct (ho3.ge w3 g) (by simp [hc])) ?_
    simp [d1]
    refine qcall_of (v := .int .i64 2) rfl (fun h2 g => rcheck_ct (hoo.ge w3 g) (by simp [hc])) ?_
    simp [d1, d2]
    refine qcall_of (v := .bool true) rfl (fun h2 g => same_ct (ho3.ge w3 g) (hoo.ge w3 g)) ?_
    simp
    refine qcall_of (v := .bool true) rfl (fun h2 g => works_ct h2) ?_
    simp
    exact (gb.trans g2).trans g3
  | true =>
    refine encode_ok ho3 hk hc _ ?_
    simp [d1]
    refine rencode_ok hoo hk hc _ ?_
    simp
    refine dreg_quiet w3 ?_
    simp [d2]
    refine qcall_of (v := .int .i64 0) rfl (fun h2 g => check_ct (ho3.ge w3 g) (by simp [hc])) ?_
    simp [d1]
    refine qcall_of (v := .int .i64 0) rfl (fun h2 g => rcheck_ct (hoo.ge w3 g) (by simp [hc])) ?_
    simp [d1, d2]
    refine qcall_of (v := .bool true) rfl (fun h2 g => same_ct (ho3.ge w3 g) (hoo.ge w3 g)) ?_
    simp
    refine qcall_of (v := .bool true) rfl (fun h2 g => works_ct h2) ?_
    simp
    exact (gb.trans g2).trans g3
end Go.Am
