/-
  The orders of prefixes and told prefixes: the plain law.
-/
import Derived.Test.YtcokdbloajhapaaGreatDoorMA
import Derived.Test.YtcokdbloajhapaaGreatDoorAm35
namespace Go.Am

def cmpPf (a b : Pfx) : Int := orI (cmpI a.fam b.fam) (orI (cmpI a.rd b.rd) (orI (Go.Lib.compareBytes a.addr b.addr) (cmpI a.len b.len)))
def cmpNl (a b : Nl) : Int := orI (cmpPf a.p b.p) (orI (cmpI a.id b.id) (cmpI a.label b.label))
theorem ordr_pf : Ordr cmpPf :=
  (ordr_int.on Pfx.fam).or ((ordr_int.on fun p : Pfx => (p.rd : Int)).or ((ordr_cb.on Pfx.addr).or (ordr_int.on Pfx.len)))
theorem ordr_nl : Ordr cmpNl :=
  (ordr_pf.on Nl.p).or ((ordr_int.on fun n : Nl => (n.id : Int)).or (ordr_int.on fun n : Nl => (n.label : Int)))
theorem cmpPf_eq {a b : Pfx} (h : cmpPf a b = 0) : a = b := by
  simp only [cmpPf, orI_eq, cmpI_zero] at h
  obtain ⟨h1, h2, h3, h4⟩ := h
  cases a; cases b
  simp only at h1 h2 h3 h4
  simp only [Pfx.mk.injEq]
  exact ⟨h1, by omega, cb_eq _ _ h3, h4⟩
theorem cmpNl_eq {a b : Nl} (h : cmpNl a b = 0) : a = b := by
  simp only [cmpNl, orI_eq, cmpI_zero] at h
  obtain ⟨h1, h2, h3⟩ := h
  have := cmpPf_eq h1
  cases a; cases b
  simp only at this h2 h3
  simp only [Nl.mk.injEq]
  exact ⟨this, by omega, by omega⟩
end Go.Am
