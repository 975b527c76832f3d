/-
  OpenBack answers true.
-/
import Derived.Test.YtapokdcbhpdceaaO33
import Derived.Test.YtapokdcbhpdceaaO31
namespace Go.Am
open Go.Proofs

set_option maxRecDepth 100000
theorem sameE_ct {h : H} {o : Opn} {f a k f' a' k' : V} (ho : OpnAt h.get o f a k) (ho' : OpnAt h.get o f' a' k') (hk : o.Ok) (hc : checkB o = true) : Pure Try.prog 21 [opnV o f a k, opnV o f' a' k'] h (.bool true) := by
  refine pure_to Try.func21 S.Hlaw10_same_code S.Hlaw10_same_enter rfl (Nat.le_of_ble_eq_true rfl) fun wf => ?_; simp only [S.Hlaw10_same]
  have o1 := ho.fams.one
  have o2 := ho.adds.one
  have o3 := ho.kept.one
  have p1 := ho'.fams.one
  have p2 := ho'.adds.one
  have p3 := ho'.kept.one
  simp only [opnV]
  simp [o1, o2, o3, p1, p2, p3]
  obtain ⟨hb, hhb⟩ : ∃ hb, hb = (h.push (.row (opnC o f a k))).push (.row (opnC o f' a' k')) := ⟨_, rfl⟩
  have gb : Ge h hb := by rw [hhb]; exact ((Ge.refl _).push _).push _
  have c2 : cellsAt hb.get (h.next + 1) 11 = some (opnC o f' a' k') := by rw [hhb]; simp [opnC]
  simp only [opnC] at hhb c2
  rw [← hhb]
  refine encode_ok (ho.ge wf gb) hk hc _ ?_
  simp [c2]
  refine encode_ok (ho'.ge wf gb) hk hc _ ?_
  simp
  exact gb
theorem openBack_ct {h : H} {o : Opn} {f a k : V} (ho : OpnAt h.get o f a k) (hk : o.Ok) : Pure Try.prog 5 [opnV o f a k] h (.bool true) := by
  refine pure_to Try.func5 S.Hlaw10_OpenBack_code S.Hlaw10_OpenBack_enter rfl (Nat.le_of_ble_eq_true rfl) fun wf => ?_; simp only [S.Hlaw10_OpenBack]
  have o1 := ho.fams.one
  have o2 := ho.adds.one
  have o3 := ho.kept.one
  simp only [opnV]
  simp [o1, o2, o3]
  obtain ⟨hb, hhb⟩ : ∃ hb, hb = h.push (.row (opnC o f a k)) := ⟨_, rfl⟩
  have gb : Ge h hb := by rw [hhb]; exact (Ge.refl _).push _
  have wb : hb.WF := by rw [hhb]; exact wf.push _
  have nb : hb.next = h.next + 1 := by rw [hhb]; rfl
  have c1 : ∀ x, Ge hb x → cellsAt x.get h.next 11 = some (opnC o f a k) := fun x gx => by rw [gx.cells (by omega), hhb]; simp [opnC]
  simp only [opnC] at hhb c1
  rw [← hhb]
  refine works_ct _ _ ?_
  simp [c1]
  have hob := ho.ge wf gb
  cases hc : checkB o with
  | false =>
    refine encode_no hob hc _ ?_
    simp [c1]
    refine check_ct (r := 2) hob (by simp [hc]) _ ?_
    simp
    exact gb
  | true =>
    refine encode_ok hob hk hc _ ?_
    simp
    refine decode_ct (fun e he => by rw [dec_enc hk hc] at he; cases he) (fun o' he f' a' k' h2 g2 w2 d => ?_)
    have : o' = o := by rw [dec_enc hk hc] at he; exact (Except.ok.inj he).symm
    subst this
    have ho2 := d.opn hc
    have p1 := ho2.fams.one
    have p2 := ho2.adds.one
    have p3 := ho2.kept.one
    have m1 : ¬ h.next = h2.next := by have := g2.1; omega
    have m2 : ¬ h.next = h2.next + 1 := by have := g2.1; omega
    simp [fineV, p1, p2, p3]
    obtain ⟨h3, hh3⟩ : ∃ h3, h3 = (((h2.push (.row [.int .u32 0, .int .i64 0, .int .u32 0, .nilsl, .bool false, .bool false, .nilsl, .bool false, .bool false, .int .i64 0, .nilsl])).push (.row [.int .i64 0, .int .u8 0, .int .u8 0])).set h2.next (.row (opnC o' f' a' k'))).set (h2.next + 1) (.row [.int .i64 0, .int .u8 0, .int .u8 0]) := ⟨_, rfl⟩
    have g3 : Ge h2 h3 := by rw [hh3]; exact ((((Ge.refl _).push _).push _).set (Nat.le_refl _) _).set (by omega) _
    have w3 : h3.WF := by rw [hh3]; exact (((w2.push _).push _).set (by simp; omega) _).set (by simp) _
    have c2 : cellsAt h3.get h2.next 11 = some (opnC o' f' a' k') := by rw [hh3]; simp [opnC]
    have c3 := c1 h3 (g2.trans g3)
    have ho3 := ho2.ge w2 g3
    have hob3 := hob.ge wb (g2.trans g3)
    simp only [opnC] at hh3 c2
    simp [eqV, eqFs, m1, m2, c1 _ g2]
    rw [← hh3]
    refine check_ct (r := 0) hob3 (by simp [hc]) _ ?_
    simp [c2, c3]
    refine check_ct (r := 0) ho3 (by simp [hc]) _ ?_
    simp [c2, c3]
    refine sameE_ct hob3 ho3 hk hc _ ?_
    have l1 := ho3.fams.len
    have l2 := ho3.adds.len
    have l3 := ho3.kept.len
    have l4 := hob3.fams.len
    have l5 := hob3.adds.len
    have l6 := hob3.kept.len
    simp [c2, c3, eqV, eqFs, l1, l2, l3, l4, l5, l6]
    exact gb.trans (g2.trans g3)
end Go.Am
