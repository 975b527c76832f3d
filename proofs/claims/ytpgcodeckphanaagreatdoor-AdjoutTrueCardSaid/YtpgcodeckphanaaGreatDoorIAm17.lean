/-
 AM, PART 17. For walks by hand: loops by what is left, elements of slices.
-/
import Derived.Test.YtpgcodeckphanaaGreatDoorIAm16
namespace Go.Am

theorem zly {body : (Exit -> Tm -> H -> Prop) -> Tm -> H -> Prop} {Q : Exit -> Tm -> H -> Prop} (R : Nat -> Tm -> H -> Prop) {n : Nat} {t : Tm} {h : H} (h0 : R n t h)
  (hs : ∀ k t h, R k t h -> ∀ N : Tm -> H -> Prop, (∀ k' t' h', k' < k -> R k' t' h' -> N t' h') -> body (zfo N Q) t h) : zfW body Q t h := by
 have least : ∀ tm hm, (∃ n, R n tm hm) -> ∃ n, R n tm hm ∧ ∀ k, R k tm hm -> n ≤ k := by
  intro tm hm ⟨n, hn⟩
  induction n using Nat.strongRecOn with
  | _ n ihn =>
   by_cases hex : ∃ k, k < n ∧ R k tm hm
   ·obtain ⟨k, hk, hrk⟩ := hex
    exact ihn k hk hrk
   ·exact ⟨n, hn, fun k hk => by
     rcases Nat.lt_or_ge k n with h | h
     ·exact absurd ⟨k, h, hk⟩ hex
     ·exact h⟩
 refine ⟨fun tm hm => ∃ n, R n tm hm, fun tm hm => Classical.epsilon fun n => R n tm hm ∧ ∀ k, R k tm hm -> n ≤ k, ⟨n, h0⟩, ?_⟩
 intro tm hm hI
 obtain ⟨hR, hmin⟩ := Classical.epsilon_spec (least tm hm hI)
 refine hs _ tm hm hR _ fun k' t' h' hk hR' => ⟨⟨k', hR'⟩, ?_⟩
 obtain ⟨_, hmin2⟩ := Classical.epsilon_spec (least t' h' ⟨k', hR'⟩)
 exact Nat.lt_of_le_of_lt (hmin2 k' hR') hk

end Go.Am
