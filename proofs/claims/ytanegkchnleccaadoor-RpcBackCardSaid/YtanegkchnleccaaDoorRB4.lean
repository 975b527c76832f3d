/-
  Small numbers among the arguments.
-/
import Derived.Test.YtanegkchnleccaaDoorPE
import Derived.Test.YtanegkchnleccaaDoorAm33
namespace Go.Am
def rwLs : List Lf := [.int .u8, .int .u8, .int .u8, .int .u8, .int .u64] ++ List.replicate 16 (.int .u8)
theorem rw_of {vs : List V} (h : Lfs rwLs vs) : ∃ x : Rw, RwFit x ∧ vs = rawC x := by
  unfold rwLs at h
  obtain ⟨y, z, rfl, h1, h2⟩ := h.cut
  obtain ⟨l, hl, rfl⟩ := h2.bytes
  cases h1 with
  | cons k1 t1 => cases t1 with
    | cons k2 t2 => cases t2 with
      | cons k3 t3 => cases t3 with
        | cons k4 t4 => cases t4 with
          | cons k5 t5 =>
            cases t5
            obtain ⟨a, rfl, h1⟩ := Lf.nat k1 rfl
            obtain ⟨b, rfl, h2⟩ := Lf.nat k2 rfl
            obtain ⟨c, rfl, h3⟩ := Lf.nat k3 rfl
            obtain ⟨d, rfl, h4⟩ := Lf.nat k4 rfl
            obtain ⟨e, rfl, h5⟩ := Lf.nat k5 rfl
            exact ⟨⟨a, b, c, d, e, l⟩, ⟨h1, h2, h3, h4, h5, hl⟩, rfl⟩
end Go.Am
