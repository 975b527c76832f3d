/-
  Cut's contract.
-/
import Derived.Test.YtcokdbloajhapaaDoorN3
namespace Go.Am
open Go.Proofs

set_option maxRecDepth 100000
theorem cut_ct {h : H} {p : Pfx} {n : Int} (hm : mayP p = true) (hn : 0 ≤ n) (hn2 : n ≤ p.len) : Pure Tryd.prog 25 [.agg (pfxC p), .int .i64 n] h (.tup [.agg (pfxC ⟨p.fam, p.rd, maskL p.addr n, n⟩), .int .i64 0]) := by
  refine pure_to Tryd.func25 S.prim_Cut_code S.prim_Cut_enter rfl (Nat.le_of_ble_eq_true rfl) fun wf => ?_; simp only [S.prim_Cut]
  have hp := hm
  simp only [mayP, Bool.and_eq_true, Bool.or_eq_true, decide_eq_true_eq] at hp
  obtain ⟨⟨⟨⟨⟨h0, h1⟩, h2⟩, h3⟩, h4⟩, h5⟩ := hp
  have sl := size_le p.fam
  simp only [pfxC]
  simp
  have c2 : cellsAt ((h.push (.row (pfxC p))).push (.row [.int .i64 0, .int .u64 0, .str [], .int .i64 0])).get h.next 4 = some (pfxC p) := by rw [cellsAt_of (o := .row (pfxC p)) (by simp) (by simp [pfxC])]; rfl
  simp only [pfxC] at c2
  refine pcheck_ct (p := p) _ ?_
  have n1 : ¬ n < 0 := by omega
  have n2 : ¬ p.len < n := by omega
  simp [hm, n1, n2, c2]
  refine masked_ct (by omega) (by omega) _ ?_
  simp
  exact ((((Ge.refl _).push _).push _).set (Nat.le_refl _) _).set (by omega) _
end Go.Am
