import Derived.Test.YtfbmffkgphgoaaaDoorRows
import Derived.Test.YtfbmffkgphgoaaaDoorAm38
import Derived.WalkKit
import Derived.WalkSpells
import Derived.WalkLawsBesides
import Derived.Lib.LazyBuf
namespace Go.Proofs.YtfbmffkgphgoaaaDoor
open Go Go.RowKit

theorem run_loadB {P : Program} (w : World) : ∀ (xs : List UInt8) (a : Addr) (acc : ByteArray), (∀ j x, xs[j]? = some x → w.cell? (a.add j) = some (.int .u8 (x.toNat : Int))) →
    (loadBytes a acc xs.length).run P w = .ok ⟨acc.data ++ xs.toArray⟩ w
  | [], a, acc, _ => by simp [loadBytes]
  | x :: l, a, acc, h => by
    have h0 : w.cell? a = some (.int .u8 (x.toNat : Int)) := by
      have := h 0 x rfl
      simpa [Addr.add] using this
    have ih := run_loadB (P := P) w l (a.add 1) (acc.push (x.toNat : Int).toNat.toUInt8) (fun j y hy => by
      have := h (j + 1) y (by simpa using hy)
      have e : (a.add 1).add j = a.add (j + 1) := by
        unfold Addr.add
        by_cases hj : j = 0
        · subst hj; simp
        · simp [hj]; omega
      rw [e]; exact this)
    simp only [List.length_cons, loadBytes, Sem.run_bind, run_load, h0, Result.andThen]
    rw [ih]
    congr 1
    apply ByteArray.ext
    simp [ByteArray.push]

theorem us_match {α : Type} (p : Option Addr) (l : Value) (h1 : Option Addr → Value → α) (h2 : Array Value → α) : Builtin.unsafeString_.match_3 (fun _ => α) #[.pointer p, l] h1 h2 = h1 p l := rfl

set_option maxRecDepth 20000 in
theorem run_unsafeString {P : Program} (w : World) (pt u ty st : TypeId) (b : Nat) (c : Array Value) (s : ByteArray) (hs : 0 < s.size) (h63 : (s.size : Int) ≤ IntKind.i64.max) (hp : P.underlying pt = some (.pointer u))
    (hb : w.heap[b]? = some (.cells c u (0, 0))) (hc1 : P.cellsOf u = 1) (hcs : c.size = s.size) (hl : liesAt P P.depth u s.size 0 u s.size = true) (hc : ∀ i (h : i < s.size), c[i]? = some (.int .u8 (s[i].toNat : Int))) :
    ∃ w', (Builtin.unsafeString_ #[pt, st] ty #[.pointer (some ⟨b, 0, none⟩), .int .i64 s.size]).run P w = .ok (.string s) w' ∧ (∀ B, B ≤ b → Below B w w') ∧ w'.drawn = w.drawn := by
  have hL := run_loadB (P := P) w s.data.toList ⟨b, 0, none⟩ .empty (fun j x hx => by
    obtain ⟨hj, hx⟩ := List.getElem?_eq_some_iff.1 hx
    have hj' : j < s.size := by rw [Array.length_toList] at hj; exact hj
    have e : (Addr.add ⟨b, 0, none⟩ j) = ⟨b, j, none⟩ := by
      unfold Addr.add
      by_cases h0 : j = 0
      · subst h0; simp
      · simp [h0]
    rw [e, Lib.cell_of_heap hb, hc j hj']
    subst hx
    rfl)
  refine ⟨w.freeze ⟨b, 0, none⟩ s.size, ?_, fun B hB => ?_, by unfold World.freeze; split <;> rfl⟩
  · have hn : s.data.toList.length = s.size := by rw [Array.length_toList]; rfl
    rw [hn] at hL
    have h1 : ¬ ((s.size : Int) < 0) := by omega
    have h2 : ¬ ((s.size : Int) > IntKind.i64.max) := by omega
    have h3 : ¬ ((s.size : Int) = 0) := by omega
    delta Builtin.unsafeString_
    rw [us_match]
    have h4 : ¬ ((9223372036854775807 : Int) < s.size) := by
      have : IntKind.i64.max = 9223372036854775807 := by decide
      omega
    have h5 : s ≠ ByteArray.empty := by rintro rfl; simp at hs
    simp [asInt, asIntOf, h1, h4, h5, elemOf, run_underlying hp, variablesAt, World.shape?, hb, hc1, hcs, hl, hL]
  · have : s.size ≠ 0 := by omega
    refine ⟨?_, ?_, ?_, ?_, fun k hk => ?_⟩ <;> simp only [World.freeze, this, if_false]
    · simp
    · rw [Array.getElem?_modify]
      simp; omega

theorem drawn_setCells {b : Nat} : ∀ (vs : List Value) (o : Nat) (w : World), (w.setCells b o vs).drawn = w.drawn
  | [], _, _ => rfl
  | v :: r, o, w => (drawn_setCells r (o + 1) _).trans rfl

theorem lies_all {P : Program} {e : TypeId} {n k : Nat} (hk : P.depth = k + 1) (h1 : P.cellsOf e = 1) (h2 : sameLayout P P.depth e e = true) : liesAt P P.depth e n 0 e n = true := by
  rw [hk] at h2 ⊢
  simp [liesAt, rowAt, hk, h1, h2]

set_option maxRecDepth 100000 in
set_option maxHeartbeats 2000000 in
theorem clone_walk (s : ByteArray) (hs : 0 < s.size) (hs2 : s.size < 140737488355328) (w : World) :
    Calls Tryd.prog 108 #[.string s] w fun e w' => e = .returned (.string s) ∧ Below w.heap.size w w' ∧ w'.drawn = w.drawn := by
  have u88 : Tryd.prog.underlying 88 = some (.slice 5) := by kernel_rfl
  have u154 : Tryd.prog.underlying 154 = some (.pointer 5) := by kernel_rfl
  obtain ⟨k, hk⟩ : ∃ k, Tryd.prog.depth = k + 1 := ⟨Tryd.prog.depth - 1, by kernel_rfl⟩
  have s5 : Tryd.prog.cellsOf 5 = 1 := by kernel_rfl
  obtain ⟨i0, hi, hz0, hz1, hz2⟩ := info_parts (P := Tryd.prog) (e := 5) (z := .int .u8 0) (size := 1) (bytes := 1) (by kernel_rfl)
  obtain ⟨M, hM⟩ : ∃ M, M = madeCells (Value.int .u8 0).cells ((s.size : Int).toNat * i0.size) := ⟨_, rfl⟩
  have hMs : M.size = s.size := by rw [hM, size_madeCells, hz1]; simp
  obtain ⟨W1, hW1⟩ : ∃ W1, W1 = w.alloc (.cells M 5) := ⟨_, rfl⟩
  have hmk : (Instr.makeSlice 88 (.int .i64 s.size) (.int .i64 s.size)).run Tryd.prog w = .ok (.slice (some ⟨w.heap.size, 0, none⟩) s.size s.size) W1 := by
    have h := run_make (P := Tryd.prog) w 88 5 i0 (.int .u8 0) u88 hi hz0 .i64 .i64 (s.size : Int) s.size (by omega) (by omega) (by rw [hz2]; omega) (by omega)
    rw [← hM, ← hW1] at h
    simpa using h
  have hb1 : W1.heap[w.heap.size]? = some (.cells M 5 (0, 0)) := by subst hW1; show (w.heap.push _)[w.heap.size]? = _; exact Array.getElem?_push_size
  have hB1 : Below w.heap.size w W1 := by subst hW1; exact (Below.refl _ w).alloc (Nat.le_refl _) _
  obtain ⟨W2, hW2⟩ : ∃ W2, W2 = W1.setCells w.heap.size 0 (s.data.toList.map fun x => Value.int .u8 (x.toNat : Int)) := ⟨_, rfl⟩
  have hcp : (Builtin.copy_ #[88, 9] 3 #[.slice (some ⟨w.heap.size, 0, none⟩) s.size s.size, .string s]).run Tryd.prog W1 = .ok (goInt s.size) W2 := by
    rw [hW2]
    refine run_copy_string (P := Tryd.prog) W1 88 9 3 5 w.heap.size 0 s.size s.size s u88 (fun _ => by simp [Go.sizeOf, typeInfo, hi, hz1]) (Nat.le_refl _) (fun j hj => ?_) (fun j hj => ?_)
    · rw [Lib.cell_of_heap hb1]; simp; omega
    · exact Lib.frozen_of_heap hb1 _
  have hB2 : Below w.heap.size w W2 := by rw [hW2]; exact below_setCells (Nat.le_refl _) _ _ _ hB1
  have r1 : W1.rowIs w.heap.size 5 s.size (fun i => M[i]?.getD default) := ⟨M, hb1, hMs, fun i hi => by show M[i]? = some (M[i]?.getD default); rw [Array.getElem?_eq_getElem (by omega)]; rfl⟩
  have r2 := rowIs_setCells (s.data.toList.map fun x => Value.int .u8 (x.toNat : Int)) 0 W1 _ r1
  rw [← hW2] at r2
  obtain ⟨c, hb2, hcs, hcf⟩ := r2
  have hn : s.data.toList.length = s.size := by rw [Array.length_toList]; rfl
  have h63 : (s.size : Int) ≤ IntKind.i64.max := by
    have : IntKind.i64.max = 9223372036854775807 := by decide
    omega
  obtain ⟨W3, hus, hB3, hd3⟩ := run_unsafeString (P := Tryd.prog) W2 154 5 9 3 w.heap.size c s hs h63 u154 hb2 s5 hcs (lies_all hk s5 (by kernel_rfl)) (fun i h => by
    rw [hcf i h]
    dsimp only
    rw [if_pos ⟨Nat.zero_le _, by rw [List.length_map, hn]; omega⟩, Nat.sub_zero, List.getElem?_map, List.getElem?_eq_getElem (by omega)]
    rfl)
  have hd : W3.drawn = w.drawn := by rw [hd3, hW2, drawn_setCells, hW1]; rfl
  have hB := hB2.trans (hB3 _ (Nat.le_refl _))
  clear hB1 hB2 hB3 hcf hb2 hcs r1 hb1 hW2 hW1 hMs hM u88 u154 s5 hi hz0 hz1 hz2
  go_enter Tryd.func108, Tryd.ntmps108
  go_wp2
  go_ret
  exact ⟨rfl, hB, hd⟩

theorem clone_ct (s : List UInt8) (h0 : 0 < s.length) (h1 : s.length < 140737488355328) (h : Am.H) : Am.Pure Tryd.prog 108 [.str s] h (.str s) :=
  Am.pure_str (by kernel_rfl) (fun w => (clone_walk ⟨s.toArray⟩ (by show 0 < s.toArray.size; simpa using h0) (by show s.toArray.size < 140737488355328; simpa using h1) w).mono fun _ _ ⟨e, b, d⟩ => ⟨e, b, by rw [d]; exact Nat.le_refl _⟩) h
end Go.Proofs.YtfbmffkgphgoaaaDoor
