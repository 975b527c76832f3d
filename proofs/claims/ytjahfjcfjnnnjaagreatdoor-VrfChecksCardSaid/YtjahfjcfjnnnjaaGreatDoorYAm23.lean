/-
 AM, PART 23. Arguments read again behind the call as they did.
-/
import Derived.Test.YtjahfjcfjnnnjaaGreatDoorYAm22
import Derived.ReadAgain
import Derived.Carry
namespace Go.Am
open Go.ChangeShapes Go.WideShapes

section
variable {H' : Type} {enc : TypeId × Value -> H'} {P : Program}
theorem zht (K : Kids P (· < P.types.size)) (hz : ∀ t e, t < P.types.size -> P.underlying t = some (.slice e) -> 0 < P.cellsOf e) {W W' : World} (hb : Go.RowKit.Below W.heap.size W W') {sp : Nat -> Bool} {t : TypeId} (hT : t < P.types.size) {v : Value} {d : DataW H'} {ps : List MemPlace}
  (h : DataW.Trod enc P W 0 (fun _ => true) true t v d ps) (hl : ∀ p ∈ ps, p.block < W.heap.size) (hs : ∀ p ∈ ps, sp p.block = true) : DataW.Trod enc P W' 0 sp true t v d ps := by
 obtain ⟨n, hn⟩ := DataW.Trod.respare K hz hT h hs
 refine ⟨n, DataW.trod_carry n _ _ _ hn fun p hp => hb.same (hl p hp)⟩
theorem zfc (K : Kids P (· < P.types.size)) (hz : ∀ t e, t < P.types.size -> P.underlying t = some (.slice e) -> 0 < P.cellsOf e) {W W' : World} (hb : Go.RowKit.Below W.heap.size W W') {sp : Nat -> Bool} :
  ∀ {ts : List TypeId} {vs : List Value} {ds : List (DataW H')} {ps : List MemPlace}, (∀ t ∈ ts, t < P.types.size) -> DataW.TrodAll enc P W 0 (fun _ => true) true ts vs ds ps -> (∀ p ∈ ps, p.block < W.heap.size) -> (∀ p ∈ ps, sp p.block = true) -> DataW.TrodAll enc P W' 0 sp true ts vs ds ps
 | [], [], [], _, _, h, _, _ => h
 | _ :: _, _ :: _, _ :: _, _, hT, ⟨p, q, h1, h2, e⟩, hl, hs =>
  ⟨p, q, zht K hz hb (hT _ (by simp)) h1 (fun x hx => hl x (by rw [e]; exact List.mem_append_left _ hx)) (fun x hx => hs x (by rw [e]; exact List.mem_append_left _ hx)),
   zfc K hz hb (fun t ht => hT t (by simp [ht])) h2 (fun x hx => hl x (by rw [e]; exact List.mem_append_right _ hx)) (fun x hx => hs x (by rw [e]; exact List.mem_append_right _ hx)), e⟩
end
end Go.Am
