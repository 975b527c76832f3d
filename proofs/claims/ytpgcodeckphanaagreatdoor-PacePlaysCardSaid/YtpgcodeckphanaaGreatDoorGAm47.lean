/-
 AM, PART 47. maps.Clone, by the shelf's contract.
-/
import Derived.Test.YtpgcodeckphanaaGreatDoorGAm20
import Derived.Test.YtpgcodeckphanaaGreatDoorGAm6b
import Derived.Shelf.SlMaps.Clone
namespace Go.Am
open Go.Proofs Go.Shelf

variable {P : Program} {ρ : Ren}
theorem zjN (L : SlLaysW.n5 P ρ) {F : FuncId} (hF : ρ.f 5 = F) (heF : zaa P F = true) {h : H} {m tk : Nat} {es : List (V × V)} {bs : List Nat} (hm : h.get m = some (.mapo es bs tk)) {Q : V -> H -> Prop} (q : Q (.map h.next) (h.push (.mapo es bs tk))) : Acalls P F [.map m] h Q := by
 refine Acalls.wf heF fun wf => ⟨heF, fun W0 μ w cargs hr hv => ?_⟩
 obtain ⟨cv, rest, rfl, ⟨pl, rfl, rf⟩, hnil⟩ := hv
 simp only [VRs] at hnil
 subst hnil
 obtain ⟨_, ces, hb, hks, hvs, hp, hlt, hbs⟩ := zc1 hr hm rf
 have c := AnyW.maps_Clone L pl.blk ces tk w hb
 rw [hF] at c
 refine c.mono ?_
 rintro e w' ⟨rfl, rfl⟩
 have hk : h.get h.next = none := wf _ (Nat.le_refl _)
 have x := Ext.push (μ := μ) hk (.mapo es bs tk) ⟨w.heap.size, 0, 0⟩
 refine ⟨.map h.next, _, h.push (.mapo es bs tk), upd μ h.next ⟨w.heap.size, 0, 0⟩, rfl, q, ?_, ?_, ?_⟩
 ·rw [<- H.pushAt_next]
  refine hr.push hk rfl (hr.below.alloc hr.below.size _) (by simp) (fun b hb => Below.heap_alloc w _ b hb) ⟨?_, ces, tk, ?_, hks.ext x, hvs.ext x, hp, hlt, rfl, hbs⟩
  ·simp only [zau]; exact hr.below.size
  ·simp only [zau]; exact heap_alloc_new w _
 ·rw [<- H.pushAt_next]
  exact ⟨⟨w.heap.size, 0, 0⟩, rfl, zcE rfl⟩
 ·rw [<- H.pushAt_next]; exact x
end Go.Am
