/-
  RpcAsks' contract.
-/
import Derived.Test.YtanegkchnleccaaGreatDoorPE
import Derived.Test.YtanegkchnleccaaGreatDoorRW
namespace Go.Am
open Go.Proofs

set_option maxRecDepth 100000
theorem rasks_ct {h : H} {r : Rq} {s : List UInt8} (hl : r.name.length ≤ 9223372036854775807) (hr : r.p.rd < 18446744073709551616) (hs : s.length < 9223372036854775000) : Pure Tryz.prog 3 [.agg (rqC r), .str s] h (.bool true) := by
  refine pure_to Tryz.func3 S.Hlaw33_RpcAsks_code S.Hlaw33_RpcAsks_enter rfl (Nat.le_of_ble_eq_true rfl) fun wf => ?_; simp only [S.Hlaw33_RpcAsks]
  have e1 : ∀ g : H, Pure Tryz.prog 4 [.agg (rqC r)] g (encV r) := fun g => rencode_ct (by omega) hr
  have e2 : ∀ g : H, Pure Tryz.prog 5 [.agg (rqC r)] g (encV r) := fun g => rencodeq_ct (by omega) hr
  have k1 : ∀ g : H, Pure Tryz.prog 6 [.agg (rqC r)] g (.int .i64 (if mayRq r = true then 0 else 2)) := fun g => rcheck_ct (by omega)
  have k2 : ∀ g : H, Pure Tryz.prog 7 [.agg (rqC r)] g (.int .i64 (if mayRq r = true then 0 else 2)) := fun g => rcheckq_ct (by omega)
  obtain ⟨x, c, hx⟩ : ∃ x c, encV r = .tup [.str x, .int .i64 c] := by unfold encV; split <;> exact ⟨_, _, rfl⟩
  obtain ⟨q, cq, hq⟩ : ∃ q cq, decV (decOf s) = .tup [.agg (rqC q), .int .i64 cq] := by cases decOf s <;> exact ⟨_, _, rfl⟩
  have d1 : ∀ g : H, Pure Tryz.prog 8 [.str s] g (.tup [.agg (rqC q), .int .i64 cq]) := fun g => by rw [← hq]; exact rdecode_ct
  have d2 : ∀ g : H, Pure Tryz.prog 9 [.str s] g (.tup [.agg (rqC q), .int .i64 cq]) := fun g => by rw [← hq, dec_same]; exact rdecodeq_ct hs
  have eq := eq_rq q q
  simp only [decide_true] at eq
  rw [hx] at e1 e2
  obtain ⟨m, hm⟩ : ∃ m : Int, m = if mayRq r = true then 0 else 2 := ⟨_, rfl⟩
  rw [← hm] at k1 k2
  simp only [rqC] at e1 e2 k1 k2 d1 d2 eq
  simp [rqC]
  refine e1 _ _ ?_
  simp
  refine e2 _ _ ?_
  simp
  obtain ⟨h1, hh1⟩ : ∃ h1, h1 = h.push (.row [V.int .i64 r.kind, V.str r.name, V.int .i64 r.fam, V.int .i64 r.p.fam, V.int .u64 (r.p.rd : Int), V.str r.p.addr, V.int .i64 r.p.len]) := ⟨_, rfl⟩
  have w1 : h1.WF := by rw [hh1]; exact wf.push _
  have c1 : cellsAt h1.get h.next 7 = some [V.int .i64 r.kind, V.str r.name, V.int .i64 r.fam, V.int .i64 r.p.fam, V.int .u64 (r.p.rd : Int), V.str r.p.addr, V.int .i64 r.p.len] := by rw [hh1]; simp
  have g1 : Ge h h1 := by rw [hh1]; exact (Ge.refl _).push _
  rw [← hh1]
  refine dreg_quiet w1 ?_
  simp [c1]
  refine qcall_of rfl (fun h2 _ => k1 h2) ?_
  simp [c1]
  refine qcall_of rfl (fun h2 _ => k2 h2) ?_
  simp
  refine d1 _ _ ?_
  simp
  refine d2 _ _ ?_
  simp [eq]
  refine works_ct _ _ ?_
  simp
  exact (((g1.push _).set g1.1 _).push _).set (by have := g1.1; omega) _
end Go.Am
