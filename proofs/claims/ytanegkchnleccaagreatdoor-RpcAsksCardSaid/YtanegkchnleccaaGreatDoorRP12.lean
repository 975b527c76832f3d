/-
  A question among the arguments.
-/
import Derived.Test.YtanegkchnleccaaGreatDoorPD
import Derived.Test.YtanegkchnleccaaGreatDoorAm33
namespace Go.Am
def rqLs : List Lf := [.int .i64, .str, .int .i64, .int .i64, .int .u64, .str, .int .i64]
theorem rq_of {vs : List V} (h : Lfs rqLs vs) : ∃ r : Rq, (r.name.length ≤ 9223372036854775807 ∧ r.p.rd < 18446744073709551616) ∧ vs = rqC r := by
  unfold rqLs at h
  cases h with
  | cons k1 t1 => cases t1 with
    | cons k2 t2 => cases t2 with
      | cons k3 t3 => cases t3 with
        | cons k4 t4 => cases t4 with
          | cons k5 t5 => cases t5 with
            | cons k6 t6 => cases t6 with
              | cons k7 t7 =>
                cases t7
                obtain ⟨k, rfl, _⟩ := k1
                obtain ⟨n, rfl, hn⟩ := k2
                obtain ⟨f, rfl, _⟩ := k3
                obtain ⟨pf, rfl, _⟩ := k4
                obtain ⟨rd, rfl, hrd⟩ := Lf.nat k5 rfl
                obtain ⟨pa, rfl, _⟩ := k6
                obtain ⟨pl, rfl, _⟩ := k7
                exact ⟨⟨k, n, f, pf, rd, pa, pl⟩, ⟨by unfold maxLen at hn; simp only; omega, hrd⟩, rfl⟩
end Go.Am
