/-
  AM, PART 17. For walks by hand: loops by what is left, elements of slices.
-/
import Derived.Test.YtjejnanjelooiaaDoorQAm16
namespace Go.Am

/-- A LOOP, by a number of rounds that are left. -/
theorem loopA_of {body : (Exit → Tm → H → Prop) → Tm → H → Prop} {Q : Exit → Tm → H → Prop} (R : Nat → Tm → H → Prop) {n : Nat} {t : Tm} {h : H} (h0 : R n t h)
    (hs : ∀ k t h, R k t h → ∀ N : Tm → H → Prop, (∀ k' t' h', k' < k → R k' t' h' → N t' h') → body (thenA N Q) t h) : loopA body Q t h := by
  have least : ∀ tm hm, (∃ n, R n tm hm) → ∃ n, R n tm hm ∧ ∀ k, R k tm hm → n ≤ k := by
    intro tm hm ⟨n, hn⟩
    induction n using Nat.strongRecOn with
    | _ n ihn =>
      by_cases hex : ∃ k, k < n ∧ R k tm hm
      · obtain ⟨k, hk, hrk⟩ := hex
        exact ihn k hk hrk
      · exact ⟨n, hn, fun k hk => by
          rcases Nat.lt_or_ge k n with h | h
          · exact absurd ⟨k, h, hk⟩ hex
          · exact h⟩
  refine ⟨fun tm hm => ∃ n, R n tm hm, fun tm hm => Classical.epsilon fun n => R n tm hm ∧ ∀ k, R k tm hm → n ≤ k, ⟨n, h0⟩, ?_⟩
  intro tm hm hI
  obtain ⟨hR, hmin⟩ := Classical.epsilon_spec (least tm hm hI)
  refine hs _ tm hm hR _ fun k' t' h' hk hR' => ⟨⟨k', hR'⟩, ?_⟩
  obtain ⟨_, hmin2⟩ := Classical.epsilon_spec (least t' h' ⟨k', hR'⟩)
  exact Nat.lt_of_le_of_lt (hmin2 k' hR') hk

/-- The place of an element. -/
def elP (sz : Nat) : V → Nat → V
  | .sl i n off _ _, k => .ptr i n (off + k * sz)
  | v, _ => v
/-- The elements of a slice: its length, its cells. -/
theorem len_of_elems {get : Nat → Option O} {sz n : Nat} {v : V} {cs : List V} (hs : ∀ s, v ≠ .str s) (e : elemsV get sz v = some (n, cs)) : lenV 1 get v = some (.int .i64 n) := by
  unfold elemsV at e
  split at e
  · split at e
    · rename_i h0; simp at e; simp [lenV, h0, e.1]
    · split at e
      · split at e
        · simp at e; simp [lenV, e.1]
        · cases e
      · cases e
  · simp at e; obtain ⟨rfl, rfl⟩ := e; simp [lenV]
  · simp at e; obtain ⟨rfl, rfl⟩ := e; simp [lenV]
  · exact absurd rfl (hs _)
  · cases e
theorem elems_at {get : Nat → Option O} {sz n : Nat} {v : V} {cs : List V} (hs : ∀ s, v ≠ .str s) (e : elemsV get sz v = some (n, cs)) {k : Int} {kd : IntKind} (h0 : 0 ≤ k) (hk : k < n) : indexAddrV sz v (.int kd k) = some (elP sz v k.toNat) := by
  unfold elemsV at e
  split at e
  · rename_i i m off len cap
    have hl : n = len := by
      split at e
      · rename_i h0; simp at e; omega
      · split at e
        · split at e
          · simp at e; exact e.1.symm
          · cases e
        · cases e
    subst hl
    simp [indexAddrV, elP, h0, hk]
  · simp at e; omega
  · simp at e; omega
  · exact absurd rfl (hs _)
  · cases e
theorem elems_load {get : Nat → Option O} {sz n : Nat} {v : V} {cs : List V} (hs : ∀ s, v ≠ .str s) (e : elemsV get sz v = some (n, cs)) {k : Nat} (hk : k < n) :
    loadV get true sz (elP sz v k) = some (.agg ((cs.drop (k * sz)).take sz)) ∧ ∀ off m, off + m ≤ sz → (∀ i j o, elP sz v k = .ptr i j o → loadV get true m (.ptr i j (o + off)) = some (.agg ((cs.drop (k * sz + off)).take m)) ∧ (m = 1 → loadV get false 1 (.ptr i j (o + off)) = cs[k * sz + off]?)) := by
  unfold elemsV at e
  split at e
  · rename_i i m off len cap
    split at e
    · simp at e; omega
    · split at e
      · rename_i cells hc
        split at e
        · rename_i hl
          simp at e; obtain ⟨rfl, rfl⟩ := e
          have h1 : k * sz + sz ≤ len * sz := by
            have := Nat.mul_le_mul_right sz (show k + 1 ≤ len by omega)
            rw [Nat.add_mul] at this; omega
          have key : ∀ o2 m2, o2 + m2 ≤ sz → List.take m2 (List.drop (off + k * sz + o2) cells) = List.take m2 (List.drop (k * sz + o2) (List.take (len * sz) (List.drop off cells))) := by
            intro o2 m2 h2
            rw [List.drop_take, List.take_take, List.drop_drop, Nat.min_eq_left (by omega), ← Nat.add_assoc]
          refine ⟨?_, fun o2 m2 h2 i2 j2 o he => ?_⟩
          · have := key 0 sz (by omega)
            simp only [Nat.add_zero] at this
            simp only [elP, loadV, hc, if_true]
            rw [if_pos (by omega), this]
          · simp only [elP, V.ptr.injEq] at he
            obtain ⟨rfl, rfl, rfl⟩ := he
            refine ⟨?_, ?_⟩
            · simp only [loadV, hc, if_true]
              rw [if_pos (by omega), key o2 m2 h2]
            · rintro rfl
              simp only [loadV, hc, Bool.false_eq_true, if_false]
              rw [List.getElem?_take, if_pos (by omega), List.getElem?_drop]
              congr 1; omega
        · cases e
      · cases e
  · simp at e; omega
  · simp at e; omega
  · exact absurd rfl (hs _)
  · cases e
end Go.Am
