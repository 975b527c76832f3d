/-
  Contracts: Accept of both, has, add, SameSession.
-/
import Derived.Test.YtapokdcbhpdceaaO13
import Derived.Test.YtapokdcbhpdceaaAm28
namespace Go.Am
open Go.Proofs

set_option maxRecDepth 100000

def verd (a c s : Int) : V := .agg [.int .i64 a, .int .u8 c, .int .u8 s]
theorem reset_ct {h : H} {s : Int} : Pure Try.prog 58 [.int .u8 s] h (.agg [.int .i64 3, .int .u8 2, .int .u8 s]) := by
  refine pure_to Try.func58 S.open_reset_code S.open_reset_enter rfl (Nat.le_of_ble_eq_true rfl) fun wf => ?_; simp only [S.open_reset]
  simp
theorem rreset_ct {h : H} {s : Int} : Pure Try.prog 63 [.int .u8 s] h (.agg [.int .i64 3, .int .u8 2, .int .u8 s]) := by
  refine pure_to Try.func63 S.Href10_reset_code S.Href10_reset_enter rfl (Nat.le_of_ble_eq_true rfl) fun wf => ?_; simp only [S.Href10_reset]
  simp
def accB (o : Opn) (x y : Int) : V := if x != 0 && x != o.asn then .agg [.int .i64 3, .int .u8 2, .int .u8 2] else if o.id == y then .agg [.int .i64 3, .int .u8 2, .int .u8 3] else .agg [.int .i64 0, .int .u8 0, .int .u8 0]
theorem accept_ct {h : H} {o : Opn} {f a k : V} {x y : Int} (ho : OpnAt h.get o f a k) : Pure Try.prog 29 [opnV o f a k, .int .u32 x, .int .u32 y] h (accB o x y) := by
  have hi : (accB o x y).ids = [] := by unfold accB; split <;> (try split) <;> rfl
  refine pure_to Try.func29 S.open_Accept_code S.open_Accept_enter hi (Nat.le_of_ble_eq_true rfl) fun wf => ?_; simp only [S.open_Accept]
  have o1 := ho.fams.one
  have o2 := ho.adds.one
  have o3 := ho.kept.one
  simp only [opnV]
  simp [o1, o2, o3]
  cases e1 : (x != 0) <;> cases e2 : (x != o.asn) <;> cases e3 : (o.id == y)
  all_goals (simp [e1, e2, e3])
  all_goals (try refine reset_ct _ ?_)
  all_goals (simp [accB, e1, e2, e3])
  all_goals (exact (((Ge.refl _).push _).push _).set (by omega) _)
theorem raccept_ct {h : H} {o : Opn} {f a k : V} {x y : Int} (ho : OpnAt h.get o f a k) : Pure Try.prog 30 [opnV o f a k, .int .u32 x, .int .u32 y] h (accB o x y) := by
  have hi : (accB o x y).ids = [] := by unfold accB; split <;> (try split) <;> rfl
  refine pure_to Try.func30 S.Href10_Accept_code S.Href10_Accept_enter hi (Nat.le_of_ble_eq_true rfl) fun wf => ?_; simp only [S.Href10_Accept]
  have o1 := ho.fams.one
  have o2 := ho.adds.one
  have o3 := ho.kept.one
  simp only [opnV]
  simp [o1, o2, o3]
  cases e1 : (x != 0) <;> cases e2 : (x != o.asn) <;> cases e3 : (o.id == y)
  all_goals (have e2' : (o.asn != x) = (x != o.asn) := by simp only [bne]; rw [BEq.comm])
  all_goals (simp [e1, e2, e3, e2'])
  all_goals (try refine rreset_ct _ ?_)
  all_goals (simp [accB, e1, e2, e3])
  all_goals (exact (((Ge.refl _).push _).push _).set (by omega) _)

theorem has_ct {h : H} {v : V} {l : List Int} {f : Int} (hs : Ints h.get v l) : Pure Try.prog 71 [v, .int .i64 f] h (.bool (l.contains f)) := by
  refine pure_to Try.func71 S.Href10_has_code S.Href10_has_enter rfl (Nat.le_of_ble_eq_true rfl) fun wf => ?_; simp only [S.Href10_has]
  have hb := hs.bound
  have hl := hs.lenG wf (n := l.length) (by simp)
  simp [hl]
  refine loop_up (fun i t h' => (t 0 = v ∧ t 1 = .int .i64 f ∧ t 5 = .int .i64 i) ∧ h = h' ∧ l.contains f = (l.drop i).contains f) l.length (by simp) ?_
  rintro i t _ hi ⟨⟨h0, h1, h5⟩, rfl, ha⟩ K hK
  by_cases hlt : i < l.length
  · obtain ⟨p, q, o, cs, e1, _, e2, e3⟩ := hs.at1G wf hlt
    rw [List.drop_eq_getElem_cons hlt, List.contains_cons] at ha
    have hw := wrap_succ hlt (by simpa using hb)
    simp [h0, h1, h5, hlt, e1, e2, e3, hl]
    (first | refine guard_split ?_ ?_ | refine cond_split ?_ ?_ | refine sguard_split ?_ ?_) <;> intro e <;> (try simp only [Bool.not_true, Bool.not_false] at e) <;> simp [e, h0, h1, h5]
    · simp at e
      simp [e] at ha
      exact ha
    · simp at e
      have e' : (f == l[i]) = false := by simp; exact fun h => e h.symm
      rw [e', Bool.false_or] at ha
      exact hK _ _ hlt ⟨by simp [h0, h1, h5, hw], rfl, ha⟩
  · simp [h0, h1, h5, hlt, hl]
    rw [List.drop_of_length_le (by omega)] at ha
    simpa using ha

def addB (l : List Add) (f : Int) : Add := (l.find? fun x => x.fam == f).getD ⟨0, false, false⟩
theorem add_ct {h : H} {o : Opn} {v a k : V} {f : Int} (ho : OpnAt h.get o v a k) : Pure Try.prog 72 [opnV o v a k, .int .i64 f] h (.agg (addC (addB o.adds f))) := by
  refine pure_to Try.func72 S.Href10_add_code S.Href10_add_enter rfl (Nat.le_of_ble_eq_true rfl) fun wf => ?_; simp only [S.Href10_add]
  have o1 := ho.fams.one
  have o2 := ho.adds.one
  have o3 := ho.kept.one
  have hb := ho.adds.bound
  have hl := ho.adds.lenG wf (n := o.adds.length) (by simp)
  simp only [opnV]
  simp [o1, o2, o3]
  obtain ⟨hb', hhb⟩ : ∃ hb, hb = (h.push (.row (opnC o v a k))).push (.row [.int .i64 0, .bool false, .bool false]) := ⟨_, rfl⟩
  have gb : Ge h hb' := by rw [hhb]; exact ((Ge.refl _).push _).push _
  have nb : hb'.next = h.next + 2 := by rw [hhb]; rfl
  have c1 : cellsAt hb'.get h.next 11 = some (opnC o v a k) := by rw [hhb]; simp [opnC]
  have x1 : hb'.get (h.next + 1) = some (.row [.int .i64 0, .bool false, .bool false]) := by rw [hhb]; simp
  simp only [opnC] at hhb c1
  rw [← hhb]
  have hl' := hl _ gb
  refine loop_up (fun i t h' => (t 2 = .ptr h.next 11 0 ∧ t 1 = .int .i64 f ∧ t 4 = .ptr (h.next + 1) 3 0 ∧ t 5 = .int .i64 i) ∧ hb' = h' ∧ addB o.adds f = addB (o.adds.drop i) f) o.adds.length (by simp) ?_
  rintro i t _ hi ⟨⟨t2, t1, t4, t5⟩, rfl, ha⟩ K hK
  by_cases hlt : i < o.adds.length
  · obtain ⟨p, q, oo, cs, e1, _, e2, e3, e4, e5⟩ := ho.adds.atG wf (k := i) (by simpa using hlt)
    have e2 := e2 _ gb
    have hw := wrap_succ hlt (by simpa using hb)
    rw [List.drop_eq_getElem_cons hlt] at ha
    have e50 := e5 0 (by omega)
    simp at e4 e50
    simp [t1, t2, t4, t5, c1, hl', hlt, e1, e2, e3, e4, e50]
    (first | refine guard_split ?_ ?_ | refine cond_split ?_ ?_ | refine sguard_split ?_ ?_) <;> intro e <;> (try simp only [Bool.not_true, Bool.not_false] at e) <;> simp [e, t1, t2, t4, t5, c1, e1, e2, e3, e4, x1]
    · simp at e
      have ha : addB o.adds f = o.adds[i] := by
        rw [ha]; unfold addB
        rw [List.find?_cons_of_pos (by simpa using e)]; rfl
      simp [ha]
      exact gb.set (by omega) _
    · simp at e
      refine hK _ _ hlt ⟨by simp [t1, t2, t4, t5, hw], rfl, ?_⟩
      rw [ha]
      unfold addB
      rw [List.find?_cons_of_neg (by simpa using e)]
  · simp [t1, t2, t4, t5, c1, hl', hlt, x1]
    rw [ha, List.drop_of_length_le (by omega)]
    simp [addB]
    exact gb.set (by omega) _
end Go.Am
