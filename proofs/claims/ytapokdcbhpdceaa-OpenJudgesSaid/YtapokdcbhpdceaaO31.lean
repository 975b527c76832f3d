/-
  OpenMay answers true.
-/
import Derived.Test.YtapokdcbhpdceaaO30
import Derived.Test.YtapokdcbhpdceaaO8
namespace Go.Am
open Go.Proofs

theorem check_lens {o : Opn} (hc : checkB o = true) : o.fams.length ≤ 5 ∧ o.adds.length ≤ 5 ∧ o.kept.length ≤ 5 := by
  have hp := checkB_parts o
  rw [hc] at hp
  simp at hp
  obtain ⟨_, p2, p3, _, p5⟩ := hp
  rw [risingA_eq] at p3
  simp at p3
  have a := rising_len o.fams 0 p2 (by omega)
  have b := rising_len _ 0 p3.1 (by omega)
  have c := rising_len _ 0 p5 (by omega)
  simp at b c
  omega
theorem DecAt.opn {h h2 : H} {o : Opn} {f a k : V} (d : DecAt h h2 o f a k) (hc : checkB o = true) : OpnAt h2.get o f a k := by
  obtain ⟨l1, l2, l3⟩ := check_lens hc
  refine ⟨?_, d.adds.sls (by simp) (by rw [List.length_map]; omega), d.kept.sls (by simp) (by rw [List.length_map]; omega)⟩
  rcases d.fams with g | ⟨e, j, _, _, rfl, hj⟩
  · exact g.sls (by simp) (by rw [List.length_map]; omega)
  · rw [e]
    refine ⟨.inr ⟨_, _, _, _, rfl⟩, by simp, ?_, by simp⟩
    rw [elemsV_sl, if_neg (by simp), cellsAt_of hj (by simp)]
    simp
set_option maxRecDepth 100000
theorem openMay_ct {h : H} {s : List UInt8} : Pure Try.prog 6 [.str s] h (.bool true) := by
  refine pure_to Try.func6 S.Hlaw10_OpenMay_code S.Hlaw10_OpenMay_enter rfl (Nat.le_of_ble_eq_true rfl) fun wf => ?_; simp only [S.Hlaw10_OpenMay]
  simp
  refine works_ct _ _ ?_
  simp
  refine decode_ct (fun e he h2 g2 w2 => ?_) (fun o he f a k h2 g2 w2 d => ?_)
  · simp [zeroV, badV]
    exact (((g2.push _).push _).set g2.1 _).set (Nat.le_succ_of_le g2.1) _
  · have hc := decB_check he
    have ho := d.opn hc
    have o1 := ho.fams.one
    have o2 := ho.adds.one
    have o3 := ho.kept.one
    simp [fineV, o1, o2, o3, eqV, eqFs]
    obtain ⟨h3, hh3⟩ : ∃ h3, h3 = (((h2.push (.row [.int .u32 0, .int .i64 0, .int .u32 0, .nilsl, .bool false, .bool false, .nilsl, .bool false, .bool false, .int .i64 0, .nilsl])).push (.row [.int .i64 0, .int .u8 0, .int .u8 0])).set h2.next (.row (opnC o f a k))).set (h2.next + 1) (.row [.int .i64 0, .int .u8 0, .int .u8 0]) := ⟨_, rfl⟩
    have g3 : Ge h2 h3 := by rw [hh3]; exact ((((Ge.refl _).push _).push _).set (Nat.le_refl _) _).set (by omega) _
    simp only [opnC] at hh3
    rw [← hh3]
    refine check_ct (r := 0) (ho.ge w2 g3) (by simp [hc]) _ ?_
    simp
    exact g2.trans g3
end Go.Am
