/-
  AM, PART 38. A contract of a function of one string that gives the string back, from a walk of the kit's (the walk may leave new blocks behind; the abstract heap does not know them).
-/
import Derived.Test.YtfbmffkgphgoaaaDoorAm19
namespace Go.Am
open Go
variable {P : Program}

theorem pure_str {f : FuncId} {s r : List UInt8} (hen : enterable P f = true) (hc : ∀ w, Calls P f #[.string ⟨s.toArray⟩] w fun e w' => e = .returned (.string ⟨r.toArray⟩) ∧ Below w.heap.size w w') (h : H) : Pure P f [.str s] h (.str r) := by
  intro Q hQ
  refine ⟨hen, fun W0 μ w cargs hr hv => ?_⟩
  obtain ⟨c, cs, rfl, hv, hn⟩ := hv
  simp only [VRs] at hn
  subst hn
  simp only [VR] at hv
  subst hv
  exact (hc w).mono fun e w' ⟨he, hb⟩ => ⟨.str r, _, h, μ, he, hQ, hr.keep (hr.below.trans (hb.mono hr.below.size)) hb.size (fun i o ho => hb.block _ (hr.obj i o ho).lt), by simp only [VR], Ext.refl _ _⟩

end Go.Am
