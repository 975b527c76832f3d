/-
 SX1, SX2, SX2b, SX3, SX3b, SX4, SX5, SX6, in one text.
-/
import Derived.Test.YtjahfjcfjnnnjaaGreatDoorYMA
import Derived.Sort.AssemblyPlain
namespace Go.Am
open Go.Proofs
open Go.Sort (swp insInner insOuter insertionSort siftDown heapBuild heapPop heapSort PermIn)

set_option maxRecDepth 100000
def uV (x : Nat) : V := .int .u64 x
def R (d : Array Nat) : O := .grow 1 (d.toList.map uV)
end Go.Am

namespace Go.Am
open Go.Proofs
open Go.Sort (swp siftDown heapBuild heapPop heapSort PermIn permIn_trans permIn_refl swp_permIn size_swp)

set_option maxRecDepth 100000
theorem w64 {z : Int} {n : Nat} (e : z = n) (h : n < 9223372036854775808) : IntKind.i64.wrap z = (n : Int) := by subst e; exact zeb h
end Go.Am

namespace Go.Am
open Go.Proofs
open Go.Sort (swp siftDown heapBuild heapPop heapSort PermIn permIn_trans permIn_refl swp_permIn size_swp)

set_option maxRecDepth 100000
end Go.Am

namespace Go.Am
open Go.Proofs
open Go.Sort (swp PermIn permIn_trans permIn_refl swp_permIn size_swp)

set_option maxRecDepth 100000
theorem Acalls.turns {P : Program} {f : FuncId} {args : List V} {h : H} {i : Nat} {Q : V -> H -> Prop} (hi : ∃ o, h.get i = some o)
  (c : h.WF -> Acalls P f args h fun v h1 => ∃ o', o'.ids = [] ∧ Ge (h.set i o') h1 ∧ v.ids = [] ∧ Q v (h.set i o')) (he : zac P f = true) : Acalls P f args h Q := by
 refine Acalls.cl he fun wf cl => Acalls.rename ((c wf).mono ?_)
 rintro v h1 ⟨o', ho, hg, hv, hq⟩
 obtain ⟨oi, hoi⟩ := hi
 have hlt := wf.lt hoi
 have w2 : (h.set i o').WF := wf.set hlt _
 have liv : ∀ k, (∃ o, h.get k = some o) -> ∃ o, (h.set i o').get k = some o := fun k ⟨o, hk⟩ => by
  rw [H.get_set]; split
  ·exact ⟨_, rfl⟩
  ·exact ⟨o, hk⟩
 refine ⟨id, v, h.set i o', (V.ren_id (σ := id) v (fun _ _ => rfl)).symm, ⟨fun k o hk => by rw [show o.ren id = o from O.ren_id (σ := id) o (fun _ _ => rfl)]; exact hg.keeps w2 k o hk, fun _ _ _ _ _ _ e => e, fun k o hk j hj => ?_, w2⟩, fun k hk => (by rw [hv] at hk; cases hk), fun k o hk => ⟨rfl, liv k ⟨o, hk⟩⟩, hq⟩
 rw [H.get_set] at hk
 split at hk
 ·cases hk
  rw [ho] at hj; cases hj
 ·exact liv j (cl k o hk j hj)
end Go.Am

namespace Go.Am
open Go.Proofs
open Go.Sort (swp PermIn permIn_trans permIn_refl swp_permIn size_swp)

set_option maxRecDepth 100000
end Go.Am

namespace Go.Am
open Go.Proofs
open Go.Sort (swp PermIn size_swp scanUp scanDown partLoop partEqLoop partitionEqual)

set_option maxRecDepth 100000

end Go.Am

namespace Go.Am
open Go.Proofs
open Go.Sort (swp PermIn size_swp scanSorted shiftDown shiftUp partialIns partialInsertionSort fixDown fixUp)

set_option maxRecDepth 100000
end Go.Am

namespace Go.Am
open Go.Proofs
open Go.Sort (swp PermIn SortedIn permIn_trans permIn_refl size_swp round_eq round_part)

set_option maxRecDepth 100000
end Go.Am
