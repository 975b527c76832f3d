/-
  CommLays answers true.
-/
import Derived.Test.YtfbmffkgphgoaaaDoorCA
import Derived.Test.YtfbmffkgphgoaaaDoorCW
import Derived.Test.YtfbmffkgphgoaaaDoorAm37
namespace Go.Am
open Go.Proofs

set_option maxRecDepth 100000
theorem cut_of {α : Type} {g : Nat → Option O} {sz : Nat} {v : V} {f : α → List V} {l : List α} (n : Nat) (hs : Sls g sz v (l.map f)) (hc : CapOk v) : ∃ v' k, ((if (n : Int) < (l.length : Int) then (n : Int) else (l.length : Int)) = ((k : Nat) : Int)) ∧ sliceSlV sz none (some (.int .i64 (k : Int))) none v = some v' ∧ Sls g sz v' ((l.take n).map f) ∧ CapOk v' := by
  obtain ⟨k, hk⟩ : ∃ k, k = min l.length n := ⟨_, rfl⟩
  have hk2 : (if (n : Int) < (l.length : Int) then (n : Int) else (l.length : Int)) = (k : Int) := by rw [hk]; split <;> omega
  obtain ⟨v', e1, s1, c1⟩ := hs.take hc (k := k) (by simp; omega) .i64
  have hlt : (l.map f).take k = (l.take n).map f := by
    rw [← List.map_take]; congr 1
    rw [hk]
    by_cases h60 : l.length ≤ n
    · rw [Nat.min_eq_left h60, List.take_of_length_le (Nat.le_refl _), List.take_of_length_le h60]
    · rw [Nat.min_eq_right (by omega)]
  rw [hlt] at s1
  exact ⟨v', k, hk2, e1, s1, c1⟩
def fitP (x : Nat) : Prop := x < 4294967296
def fitX (x : Nat) : Prop := x < 18446744073709551616
def fitL (x : Lg) : Prop := x.1 < 4294967296 ∧ x.2.1 < 4294967296 ∧ x.2.2 < 4294967296
theorem encR_cases {α : Type} (c : α → α → Int) (b : α → List UInt8) (l : List α) : ∃ s e, encR c b l = .tup [.str s, .int .i64 e] := by
  unfold encR; split <;> exact ⟨_, _, rfl⟩
theorem clays_ct {h : H} {p x q : V} {lp lx : List Nat} {ll : List Lg} (hp : Sls h.get 1 p (lp.map cP)) (cp : CapOk p) (hx : Sls h.get 1 x (lx.map cX)) (cx : CapOk x) (hl : Sls h.get 3 q (ll.map cL)) (cl : CapOk q)
    (fp : ∀ n ∈ lp, fitP n) (fx : ∀ n ∈ lx, fitX n) (fl : ∀ n ∈ ll, fitL n) : Pure Tryd.prog 3 [.agg [p, x, q]] h (.bool true) := by
  refine pure_to Tryd.func3 S.Hlaw05_CommLays_code S.Hlaw05_CommLays_enter rfl (Nat.le_of_ble_eq_true rfl) fun wf => ?_; simp only [S.Hlaw05_CommLays]
  obtain ⟨h1, hh1⟩ : ∃ h1, h1 = h.push (.row [p, x, q]) := ⟨_, rfl⟩
  have g1 : Ge h h1 := by rw [hh1]; exact (Ge.refl _).push _
  have c1 : cellsAt h1.get h.next 3 = some [p, x, q] := by rw [hh1]; simp
  have hp1 := hp.ge wf g1
  have hx1 := hx.ge wf g1
  have hl1 := hl.ge wf g1
  have np := hp1.len
  have nx := hx1.len
  have nl := hl1.len
  simp only [List.length_map] at np nx nl
  have o1 := hp.one
  have o2 := hx.one
  have o3 := hl.one
  obtain ⟨p', kp, mp, ep, sp, _⟩ := cut_of 90 hp1 cp
  obtain ⟨x', kx, mx, ex, sx, _⟩ := cut_of 90 hx1 cx
  obtain ⟨q', kq, mq, eq, sq, _⟩ := cut_of 90 hl1 cl
  have t1 : (lp.take 90).length ≤ 1000 := by rw [List.length_take]; omega
  have t2 : (lx.take 90).length ≤ 1000 := by rw [List.length_take]; omega
  have t3 : (ll.take 90).length ≤ 1000 := by rw [List.length_take]; omega
  have f1 : ∀ n ∈ lp.take 90, n < 4294967296 := fun n hn => fp n (List.mem_of_mem_take hn)
  have f2 : ∀ n ∈ lx.take 90, n < 18446744073709551616 := fun n hn => fx n (List.mem_of_mem_take hn)
  have f3 : ∀ n ∈ ll.take 90, n.1 < 4294967296 ∧ n.2.1 < 4294967296 ∧ n.2.2 < 4294967296 := fun n hn => fl n (List.mem_of_mem_take hn)
  obtain ⟨s1, e1, r1⟩ := encR_cases oN bP (lp.take 90)
  obtain ⟨s2, e2, r2⟩ := encR_cases oN bX (lx.take 90)
  obtain ⟨s3, e3, r3⟩ := encR_cases oL bL (ll.take 90)
  simp only [Int.cast_ofNat_Int] at mp mx mq
  simp [o1, o2, o3]
  rw [← hh1]
  simp [np, mp, ep]
  refine enccP_ct sp f1 t1 _ ?_
  rw [r1]
  simp [c1, np, mp, ep]
  refine renccP_ct sp f1 t1 _ ?_
  rw [r1]
  simp [c1, nx, mx, ex]
  refine enccX_ct sx f2 t2 _ ?_
  rw [r2]
  simp [c1, nx, mx, ex]
  refine renccX_ct sx f2 t2 _ ?_
  rw [r2]
  simp [c1, nl, mq, eq]
  refine enccL_ct sq f3 t3 _ ?_
  rw [r3]
  simp [c1, nl, mq, eq]
  refine renccL_ct sq f3 t3 _ ?_
  rw [r3]
  simp
  refine works_ct _ _ ?_
  simp
  exact g1
end Go.Am
