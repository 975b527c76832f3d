/-
  Encode's contract.
-/
import Derived.Test.YtcokdbloajhapaaDoorN4
namespace Go.Am
open Go.Proofs

set_option maxRecDepth 100000
theorem plain1 {P : Program} {k : Nat} {fn : List V → Option V} (c : ∀ vals v, fn vals = some v → ∀ h, Pure P k vals h v) : ∀ p ∈ [(k, fn)], ∀ vals v, p.2 vals = some v → ∀ h, Acalls P p.1 vals h fun u h' => u = v ∧ h' = h := by
  intro p hp vals v e h
  rw [List.mem_singleton] at hp
  subst hp
  exact c vals v e h _ ⟨rfl, rfl⟩
def aheadP : List V → Option V
  | [.int .i64 f] => some (.int .i64 (aheadN f : Nat))
  | _ => none
def wholeP : List V → Option V
  | [.int .i64 b] => if 0 ≤ b ∧ b < 1000000 then some (.int .i64 (wholeN b.toNat : Nat)) else none
  | _ => none
@[simp] theorem aheadP_eq (f : Int) : aheadP [.int .i64 f] = some (.int .i64 (aheadN f : Nat)) := rfl
theorem wholeP_eq {n : Nat} (h : n < 1000000) : wholeP [.int .i64 (n : Nat)] = some (.int .i64 (wholeN n : Nat)) := by
  simp only [wholeP]
  rw [if_pos ⟨by omega, by omega⟩]; simp
theorem aheadP_ok : ∀ vals v, aheadP vals = some v → ∀ h, Pure Tryd.prog 16 vals h v := by
  intro vals v e h
  unfold aheadP at e
  split at e
  · cases e; exact ahead_ct
  · cases e
theorem wholeP_ok : ∀ vals v, wholeP vals = some v → ∀ h, Pure Tryd.prog 20 vals h v := by
  intro vals v e h
  unfold wholeP at e
  split at e
  · rename_i b
    split at e
    · rename_i hb
      cases e
      obtain ⟨n, rfl⟩ : ∃ n : Nat, b = n := ⟨b.toNat, by omega⟩
      exact whole_ct (by omega)
    · cases e
  · cases e
theorem or_one : ∀ v : Nat, v < 4294967296 → (BitVec.ofInt 64 ((v * 16 : Nat) : Int) ||| BitVec.ofInt 64 1).toNat = v * 16 + 1 := by
  intro v hv
  have h1 : (BitVec.ofInt 64 ((v * 16 : Nat) : Int)).toNat = 2 ^ 4 * v := by simp [BitVec.toNat_ofInt]; omega
  have h2 : (BitVec.ofInt 64 1).toNat = 1 := by decide
  rw [BitVec.toNat_or, h1, h2, ← Nat.two_pow_add_eq_or_of_lt (by omega)]; omega
end Go.Am
