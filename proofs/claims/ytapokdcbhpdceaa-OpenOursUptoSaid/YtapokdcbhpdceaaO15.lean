/-
  Contracts: Clone of a list of families.
-/
import Derived.Test.YtapokdcbhpdceaaO11
import Derived.Test.YtapokdcbhpdceaaO14
namespace Go.Am
open Go.Proofs

set_option maxRecDepth 100000
theorem clone_nil {h : H} {Q : V → H → Prop} (q : Q .nilsl h) : Acalls Try.prog 70 [.nilsl] h Q := by
  refine acalls_to Try.func70 S.slices_Clone_int_int_code S.slices_Clone_int_int_enter (Nat.le_of_ble_eq_true rfl) fun wf => ?_; simp only [S.slices_Clone_int_int]
  simp [q, eqV]
theorem clone_ct {h : H} {v : V} {l : List Int} (hs : Ints h.get v l) (hv : v ≠ .nilsl) (hb : l.length ≤ 1048576) {Q : V → H → Prop}
    (q0 : l = [] → Q (.sl h.next 0 0 0 (some 0)) (h.push (.row []))) (q1 : l ≠ [] → Q (.sl (h.next + 1) l.length 0 l.length none) ((h.push (.row [])).push (.grow 1 (l.map (.int .i64))))) : Acalls Try.prog 70 [v] h Q := by
  refine acalls_to Try.func70 S.slices_Clone_int_int_code S.slices_Clone_int_int_enter (Nat.le_of_ble_eq_true rfl) fun wf => ?_; simp only [S.slices_Clone_int_int]
  have he : eqV TS.sl v .nilsl = some false := by
    rcases hs.kind with ⟨_, rfl | rfl⟩ | ⟨_, _, _, _, rfl⟩
    · exact absurd rfl hv
    · simp [eqV]
    · simp [eqV]
  have hr := hs.read
  have hg : Ge h (h.push (.row [])) := by simp
  have hr2 := (hs.ge wf hg).read
  simp [he]
  cases l with
  | nil =>
    simp at hr2
    have ha : appendV (h.push (.row [])).get (h.next + 1) 1 8 (.sl h.next 0 0 0 (some 0)) v = some (.sl h.next 0 0 0 (some 0), .keep) := by
      unfold appendV; rw [hr2]; rfl
    simp [ha]
    exact q0 rfl
  | cons x l =>
    have hf := flat_ints (x :: l)
    rw [hf, List.length_map] at hr2
    have ha : appendV (h.push (.row [])).get (h.next + 1) 1 8 (.sl h.next 0 0 0 (some 0)) v = some (.sl (h.next + 1) (x :: l).length 0 (x :: l).length none, .push (.grow 1 ((x :: l).map (.int .i64)))) := by
      unfold appendV; rw [hr2]
      try simp only
      rw [if_neg (by simp), if_neg (by simp), if_neg (by simp)]
      simp only [elemsV_sl, if_pos]
      rw [if_pos (by simp at hb ⊢; omega)]
      simp
    simp only [List.length_cons, List.map_cons] at ha
    simp [ha]
    have := q1 (by simp)
    simpa using this

/-- Clone in a drawn region. -/
structure ClAt (k : Nat) (get : Nat → Option O) (v' : V) (os : List O) (l : List Int) : Prop where
  one : v'.one = true
  ups : ∀ x ∈ names k os, x.1 = k ∨ x.1 = k + 1
  old : ∀ i, i ≠ k → i ≠ k + 1 → upds get (names k os) i = get i
  ints : ∀ g', (∀ i, i = k ∨ i = k + 1 → g' i = upds get (names k os) i) → Ints g' v' l
  own : l ≠ [] → v' = .sl (k + 1) l.length 0 l.length none ∧ upds get (names k os) (k + 1) = some (.grow 1 (l.map (.int .i64)))
theorem clone_ev {h : H} (wf : h.WF) {get : Nat → Option O} {k e : Nat} {v : V} {l : List Int} (hs : Ints h.get v l) (hb : l.length ≤ 1048576) (hk : k + room ≤ e) (hn : h.next ≤ e) (hg : ∀ i, i < h.next → get i = h.get i) :
    ∃ v' os, callEv Try.prog (.func (.func 70) [] []) [v] get k e v' (List.range h.next) os ∧ ClAt k get v' os l := by
  have hr : room = 16 := rfl
  have ge : ∀ h2 : H, h2.next = e → (∀ i ∈ List.range h.next, h2.get i = get i) → Ge h h2 := fun h2 hn2 hrd => ⟨by omega, fun i hi => by rw [hrd i (by simpa using hi), hg i hi]⟩
  by_cases hv : v = .nilsl
  · subst hv
    have hl : l = [] := by
      have := hs.read
      simp [elemsV] at this
      cases l with
      | nil => rfl
      | cons x l => simp at this
    subst hl
    refine ⟨.nilsl, [], ⟨by simp, by simp [V.ids], by simp, fun h2 hn2 hrd => clone_nil ⟨rfl, rfl⟩⟩, ⟨rfl, by simp [names], fun i _ _ => rfl, fun g' _ => ⟨.inl ⟨rfl, .inl rfl⟩, by simp, rfl, by simp⟩, fun h => absurd rfl h⟩⟩
  · by_cases hl : l = []
    · subst hl
      refine ⟨.sl k 0 0 0 (some 0), [.row []], ⟨by simp [room], by simp [V.ids]; omega, by simp [O.ids, V.idss], fun h2 hn2 hrd => clone_ct (hs.ge wf (ge h2 hn2 hrd)) hv (by simp) (fun _ => ?_) (fun h => absurd rfl h)⟩, ⟨rfl, by simp [names], fun i h1 _ => ?_, fun g' _ => ⟨.inr ⟨_, _, _, _, rfl⟩, by simp, by simp [elemsV_sl], by simp⟩, fun h => absurd rfl h⟩⟩
      · have hs : shift k e k = h2.next := by unfold shift; rw [if_pos (by omega)]; omega
        exact ⟨by simp [V.ren, hs], by simp [pushes, O.ren, V.rens]⟩
      · simp only [names]; rw [upds_one, if_neg h1]
    · have hm : ∀ (get : Nat → Option O) (i : Nat), upds get (names k [.row [], .grow 1 (l.map (.int .i64))]) i = if i = k then some (.row []) else if i = k + 1 then some (.grow 1 (l.map (.int .i64))) else get i := fun _ _ => rfl
      have g2 : upds get (names k [.row [], .grow 1 (l.map (.int .i64))]) (k + 1) = some (.grow 1 (l.map (.int .i64))) := by rw [hm, if_neg (by omega), if_pos rfl]
      refine ⟨.sl (k + 1) l.length 0 l.length none, [.row [], .grow 1 (l.map (.int .i64))], ⟨by simp [room], by simp [V.ids]; omega, by simp [O.ids, V.idss, idss_ints], fun h2 hn2 hrd => clone_ct (hs.ge wf (ge h2 hn2 hrd)) hv hb (fun h => absurd h hl) (fun _ => ?_)⟩, ⟨rfl, by simp [names], fun i h1 h2 => by rw [hm, if_neg h1, if_neg h2], fun g' hg' => ?_, fun _ => ⟨rfl, g2⟩⟩⟩
      · have hs : shift k e (k + 1) = h2.next + 1 := by unfold shift; rw [if_pos (by omega)]; omega
        refine ⟨by simp [V.ren, hs], ?_⟩
        simp only [List.map_cons, List.map_nil, pushes, O.ren, V.rens]
        rw [V.rens_id _ (by rw [idss_ints]; simp)]
      · have e2 := (hg' (k + 1) (.inr rfl)).trans g2
        refine ⟨.inr ⟨_, _, _, _, by rw [List.length_map]⟩, by simp, ?_, by simp; omega⟩
        rw [elemsV_sl, if_neg (by simpa using hl), cellsAt_of e2 (by simp), flat_ints]
        simp
        rw [List.take_of_length_le (by simp)]
end Go.Am
