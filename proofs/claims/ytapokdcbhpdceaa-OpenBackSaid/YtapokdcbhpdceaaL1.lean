/-
  Plain facts of rising lists; the program's reset.
-/
import Derived.Test.YtapokdcbhpdceaaO2
import Derived.Test.YtapokdcbhpdceaaAm28
namespace Go.Am
open Go.Proofs

theorem rising_len : ∀ (l : List Int) (last : Int), rising last l = true → last ≤ 5 → (l.length : Int) + last ≤ 5
  | [], last, _, h5 => by simpa using h5
  | f :: l, last, h, _ => by
    simp [rising] at h
    have := rising_len l f h.2 (by omega)
    simp; omega
theorem Gl.lower {h : H} {lo lo' sz : Nat} {v : V} {es : List (List V)} (g : Gl h lo sz v es) (hl : lo' ≤ lo) : Gl h lo' sz v es := by
  rcases g with g | ⟨a, j, b, g⟩
  · exact .inl g
  · exact .inr ⟨a, j, by omega, g⟩
theorem rising_mem : ∀ (l : List Int) (last : Int), rising last l = true → ∀ x ∈ l, last < x
  | [], _, _, x, hx => by cases hx
  | f :: l, last, h, x, hx => by
    simp [rising] at h
    rcases List.mem_cons.1 hx with rfl | hx
    · exact h.1.1
    · have := rising_mem l f h.2 x hx; omega
theorem rising_pair : ∀ (l : List Int) (last : Int), rising last l = true → l.Pairwise (· < ·)
  | [], _, _ => .nil
  | f :: l, last, h => by
    simp [rising] at h
    exact .cons (fun x hx => rising_mem l f h.2 x hx) (rising_pair l f h.2)
theorem pair_ext : ∀ (a b : List Int), a.Pairwise (· < ·) → b.Pairwise (· < ·) → (∀ x, x ∈ a ↔ x ∈ b) → a = b
  | [], [], _, _, _ => rfl
  | [], y :: b, _, _, e => by have := (e y).2 (by simp); cases this
  | x :: a, [], _, _, e => by have := (e x).1 (by simp); cases this
  | x :: a, y :: b, ha, hb, e => by
    cases ha with
    | cons ha1 ha2 =>
      cases hb with
      | cons hb1 hb2 =>
        have hxy : x = y := by
          have h1 := (e x).1 (by simp)
          have h2 := (e y).2 (by simp)
          rcases List.mem_cons.1 h1 with h1 | h1
          · exact h1
          · rcases List.mem_cons.1 h2 with h2 | h2
            · exact h2.symm
            · have := hb1 x h1; have := ha1 y h2; omega
        subst hxy
        refine congrArg (x :: ·) (pair_ext a b ha2 hb2 fun z => ⟨fun hz => ?_, fun hz => ?_⟩)
        · rcases List.mem_cons.1 ((e z).1 (by simp [hz])) with rfl | h
          · exact absurd (ha1 z hz) (by omega)
          · exact h
        · rcases List.mem_cons.1 ((e z).2 (by simp [hz])) with rfl | h
          · exact absurd (hb1 z hz) (by omega)
          · exact h
def fr (i : Nat) : List Int := (List.range i).map fun k => ((k + 1 : Nat) : Int)
theorem fr_succ (i : Nat) : fr (i + 1) = fr i ++ [((i + 1 : Nat) : Int)] := by simp [fr, List.range_succ]
theorem mem_fr {i : Nat} {x : Int} : x ∈ fr i ↔ 1 ≤ x ∧ x ≤ i := by
  simp only [fr, List.mem_map, List.mem_range]
  constructor
  · rintro ⟨k, hk, rfl⟩; omega
  · rintro ⟨h1, h2⟩; exact ⟨x.toNat - 1, by omega, by omega⟩
theorem fr_pair (i : Nat) : (fr i).Pairwise (· < ·) := by
  induction i with
  | zero => simp [fr]
  | succ i ih =>
    rw [fr_succ, List.pairwise_append]
    refine ⟨ih, by simp, fun x hx y hy => ?_⟩
    have := (mem_fr.1 hx).2
    simp at hy; omega
theorem rising_le : ∀ (l : List Int) (last : Int), rising last l = true → ∀ x ∈ l, x ≤ 5
  | [], _, _, x, hx => by cases hx
  | f :: l, last, h, x, hx => by
    simp [rising] at h
    rcases List.mem_cons.1 hx with rfl | hx
    · exact h.1.2
    · exact rising_le l f h.2 x hx
theorem reset_ct {h : H} {s : Int} : Pure Try.prog 58 [.int .u8 s] h (.agg [.int .i64 3, .int .u8 2, .int .u8 s]) := by
  refine pure_to Try.func58 S.open_reset_code S.open_reset_enter rfl (Nat.le_of_ble_eq_true rfl) fun wf => ?_; simp only [S.open_reset]
  simp
theorem rreset_ct {h : H} {s : Int} : Pure Try.prog 63 [.int .u8 s] h (.agg [.int .i64 3, .int .u8 2, .int .u8 s]) := by
  refine pure_to Try.func63 S.Href10_reset_code S.Href10_reset_enter rfl (Nat.le_of_ble_eq_true rfl) fun wf => ?_; simp only [S.Href10_reset]
  simp
end Go.Am
