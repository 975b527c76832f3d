/-
  THE DATA OF OPENS; contracts: families rising, Check of both.
-/
import Derived.Test.YtapokdcbhpdceaaAm19
import Derived.Test.YtapokdcbhpdceaaSkP
namespace Go.Am
open Go.Proofs

/-! ### The data -/
structure Add where
  fam : Int
  send : Bool
  take : Bool
structure Rest where
  fam : Int
  kept : Bool
structure Opn where
  asn : Int
  hold : Int
  id : Int
  fams : List Int
  four : Bool
  refresh : Bool
  adds : List Add
  hasgr : Bool
  again : Bool
  time : Int
  kept : List Rest
@[simp] def addC (x : Add) : List V := [.int .i64 x.fam, .bool x.send, .bool x.take]
@[simp] def restC (x : Rest) : List V := [.int .i64 x.fam, .bool x.kept]
abbrev Ints (g : Nat → Option O) (v : V) (l : List Int) : Prop := Sls g 1 v (l.map fun x => [.int .i64 x])
abbrev Adds (g : Nat → Option O) (v : V) (l : List Add) : Prop := Sls g 3 v (l.map addC)
abbrev Rests (g : Nat → Option O) (v : V) (l : List Rest) : Prop := Sls g 2 v (l.map restC)
/-- An open's cells. -/
def opnC (o : Opn) (f a k : V) : List V := [.int .u32 o.asn, .int .i64 o.hold, .int .u32 o.id, f, .bool o.four, .bool o.refresh, a, .bool o.hasgr, .bool o.again, .int .i64 o.time, k]
@[simp] def opnV (o : Opn) (f a k : V) : V := .agg [.int .u32 o.asn, .int .i64 o.hold, .int .u32 o.id, f, .bool o.four, .bool o.refresh, a, .bool o.hasgr, .bool o.again, .int .i64 o.time, k]
/-- An open's lists lie in the heap. -/
structure OpnAt (g : Nat → Option O) (o : Opn) (f a k : V) : Prop where
  fams : Ints g f o.fams
  adds : Adds g a o.adds
  kept : Rests g k o.kept

/-! ### Rising -/
def rising : Int → List Int → Bool
  | _, [] => true
  | last, f :: l => !(decide (f ≤ last) || decide (5 < f)) && rising f l

theorem check1_ct {h : H} {f : Int} : Pure Try.prog 46 [.int .i64 f] h (.int .i64 f) := by
  refine pure_to Try.func46 S.open_Check_1_code S.open_Check_1_enter rfl (Nat.le_of_ble_eq_true rfl) fun wf => ?_; simp only [S.open_Check_1]
  simp
theorem check2_ct {h : H} {f : Int} {a b : Bool} : Pure Try.prog 48 [.agg [.int .i64 f, .bool a, .bool b]] h (.int .i64 f) := by
  refine pure_to Try.func48 S.open_Check_2_code S.open_Check_2_enter rfl (Nat.le_of_ble_eq_true rfl) fun wf => ?_; simp only [S.open_Check_2]
  simp [cellsAt, Ge.push]
theorem check4_ct {h : H} {f : Int} {a : Bool} : Pure Try.prog 52 [.agg [.int .i64 f, .bool a]] h (.int .i64 f) := by
  refine pure_to Try.func52 S.open_Check_4_code S.open_Check_4_enter rfl (Nat.le_of_ble_eq_true rfl) fun wf => ?_; simp only [S.open_Check_4]
  simp [cellsAt, Ge.push]
theorem check3_ct {h : H} {f : Int} {a b r : Bool} (hr : r = (!a && !b)) : Pure Try.prog 50 [.agg [.int .i64 f, .bool a, .bool b]] h (.bool r) := by
  refine pure_to Try.func50 S.open_Check_3_code S.open_Check_3_enter rfl (Nat.le_of_ble_eq_true rfl) fun wf => ?_; simp only [S.open_Check_3]
  cases a <;> simp [cellsAt, Ge.push, hr]
theorem family_ct {h : H} {f : Int} {r : Bool} (hr : r = (decide (1 ≤ f) && decide (f ≤ 5))) : Pure Try.prog 53 [.int .i64 f] h (.bool r) := by
  refine pure_to Try.func53 S.Href10_family_code S.Href10_family_enter rfl (Nat.le_of_ble_eq_true rfl) fun wf => ?_; simp only [S.Href10_family]
  simp
  (first | refine guard_split ?_ ?_ | refine cond_split ?_ ?_ | refine sguard_split ?_ ?_) <;> intro e <;> (try simp only [Bool.not_true] at e) <;> simp [e]
  · simp at e; simp [hr, e]
  · simp at e; simp [hr]; omega

theorem rising1_ct {h : H} {v : V} {l : List Int} {r : Bool} (hs : Ints h.get v l) (hr : r = rising 0 l) : Pure Try.prog 45 [v, .func (.func 46) [] []] h (.bool r) := by
  refine pure_to Try.func45 S.open_rising_int_code S.open_rising_int_enter rfl (Nat.le_of_ble_eq_true rfl) fun wf => ?_; simp only [S.open_rising_int]
  have hb := hs.bound
  simp [hs.len]
  refine loop_up (fun i t h' => ∃ last : Int, (t 1 = .func (.func 46) [] [] ∧ t 9 = v ∧ t 10 = .int .i64 l.length ∧ t 5 = .int .i64 last ∧ t 11 = .int .i64 i) ∧ Ge h h' ∧ r = rising last (l.drop i)) l.length ⟨0, by simp [hr]⟩ ?_
  rintro i t h' hi ⟨last, ⟨h1, h9, h10, h5, h11⟩, hg, ha⟩ K hK
  have hs' := hs.ge wf hg
  by_cases hlt : i < l.length
  · obtain ⟨p, q, o, cs, e1, e2, e3⟩ := hs'.at1 hlt
    rw [List.drop_eq_getElem_cons hlt, rising] at ha
    simp [h1, h9, h10, h11, hlt, e1, e2, e3]
    refine check1_ct _ ?_
    simp [h5]
    have hw := wrap_succ hlt (by simpa using hb)
    have nx : ∀ t' : Tm, (t' 1 = .func (.func 46) [] [] ∧ t' 9 = v ∧ t' 10 = .int .i64 l.length ∧ t' 5 = .int .i64 l[i] ∧ t' 11 = .int .i64 ((i : Int) + 1)) → r = rising l[i] (l.drop (i + 1)) → K t' h' := fun t' h1 h2 => hK t' h' hlt ⟨_, by simpa using h1, hg, h2⟩
    (first | refine guard_split ?_ ?_ | refine cond_split ?_ ?_ | refine sguard_split ?_ ?_) <;> intro e <;> (try simp only [Bool.not_false] at e) <;> simp [e]
    · (first | refine guard_split ?_ ?_ | refine cond_split ?_ ?_ | refine sguard_split ?_ ?_) <;> intro e2 <;> (try simp only [Bool.not_true, Bool.not_false] at e2) <;> simp [e2, h11]
      · simp at e e2
        simp [ha, hg, e2]
      · refine nx _ ?_ ?_
        · simp [h1, h9, h10, hw]
        simp [ha, e, e2]
    · simp [ha, hg, e]
  · simp [h10, h11, hlt, hg]
    rw [ha, List.drop_of_length_le (by omega)]; rfl

theorem rising3_ct {h : H} {v : V} {l : List Add} {r : Bool} (hs : Adds h.get v l) (hr : r = rising 0 (l.map Add.fam)) : Pure Try.prog 47 [v, .func (.func 48) [] []] h (.bool r) := by
  refine pure_to Try.func47 S.open_rising_api_Add_code S.open_rising_api_Add_enter rfl (Nat.le_of_ble_eq_true rfl) fun wf => ?_; simp only [S.open_rising_api_Add]
  have hb := hs.bound
  simp [hs.len]
  refine loop_up (fun i t h' => ∃ last : Int, (t 1 = .func (.func 48) [] [] ∧ t 9 = v ∧ t 10 = .int .i64 l.length ∧ t 5 = .int .i64 last ∧ t 11 = .int .i64 i) ∧ Ge h h' ∧ r = rising last ((l.map Add.fam).drop i)) l.length ⟨0, by simp [hr]⟩ ?_
  rintro i t h' hi ⟨last, ⟨h1, h9, h10, h5, h11⟩, hg, ha⟩ K hK
  have hs' := hs.ge wf hg
  have hn := hg.1
  by_cases hlt : i < l.length
  · obtain ⟨p, q, o, cs, e1, e2, e3, e4, _⟩ := hs'.at (k := i) (by simpa using hlt)
    rw [List.drop_eq_getElem_cons (by simpa using hlt), rising, List.getElem_map] at ha
    simp [h1, h9, h10, h11, hlt, e1, e2, e3, e4]
    refine check2_ct _ ?_
    simp [h5]
    have hw := wrap_succ hlt (by simpa using hb)
    have nx : ∀ t' h'', (t' 1 = .func (.func 48) [] [] ∧ t' 9 = v ∧ t' 10 = .int .i64 l.length ∧ t' 5 = .int .i64 l[i].fam ∧ t' 11 = .int .i64 ((i : Int) + 1)) → Ge h h'' → r = rising l[i].fam ((l.map Add.fam).drop (i + 1)) → K t' h'' := fun t' h'' h1 h2 h3 => hK t' h'' hlt ⟨_, by simpa using h1, h2, h3⟩
    (first | refine guard_split ?_ ?_ | refine cond_split ?_ ?_ | refine sguard_split ?_ ?_) <;> intro e <;> (try simp only [Bool.not_false] at e) <;> simp [e]
    · (first | refine guard_split ?_ ?_ | refine cond_split ?_ ?_ | refine sguard_split ?_ ?_) <;> intro e2 <;> (try simp only [Bool.not_true, Bool.not_false] at e2) <;> simp [e2, h11]
      · simp at e e2
        simp [ha, hg, hn, e2]
      · refine nx _ _ ?_ (by simp [hg, hn]) ?_
        · simp [h1, h9, h10, hw]
        simp [ha, e, e2]
    · simp [ha, hg, hn, e]
  · simp [h10, h11, hlt, hg]
    rw [ha, List.drop_of_length_le (by simp; omega)]; rfl
theorem rising2_ct {h : H} {v : V} {l : List Rest} {r : Bool} (hs : Rests h.get v l) (hr : r = rising 0 (l.map Rest.fam)) : Pure Try.prog 51 [v, .func (.func 52) [] []] h (.bool r) := by
  refine pure_to Try.func51 S.open_rising_api_Restart_code S.open_rising_api_Restart_enter rfl (Nat.le_of_ble_eq_true rfl) fun wf => ?_; simp only [S.open_rising_api_Restart]
  have hb := hs.bound
  simp [hs.len]
  refine loop_up (fun i t h' => ∃ last : Int, (t 1 = .func (.func 52) [] [] ∧ t 9 = v ∧ t 10 = .int .i64 l.length ∧ t 5 = .int .i64 last ∧ t 11 = .int .i64 i) ∧ Ge h h' ∧ r = rising last ((l.map Rest.fam).drop i)) l.length ⟨0, by simp [hr]⟩ ?_
  rintro i t h' hi ⟨last, ⟨h1, h9, h10, h5, h11⟩, hg, ha⟩ K hK
  have hs' := hs.ge wf hg
  have hn := hg.1
  by_cases hlt : i < l.length
  · obtain ⟨p, q, o, cs, e1, e2, e3, e4, _⟩ := hs'.at (k := i) (by simpa using hlt)
    rw [List.drop_eq_getElem_cons (by simpa using hlt), rising, List.getElem_map] at ha
    simp [h1, h9, h10, h11, hlt, e1, e2, e3, e4]
    refine check4_ct _ ?_
    simp [h5]
    have hw := wrap_succ hlt (by simpa using hb)
    have nx : ∀ t' h'', (t' 1 = .func (.func 52) [] [] ∧ t' 9 = v ∧ t' 10 = .int .i64 l.length ∧ t' 5 = .int .i64 l[i].fam ∧ t' 11 = .int .i64 ((i : Int) + 1)) → Ge h h'' → r = rising l[i].fam ((l.map Rest.fam).drop (i + 1)) → K t' h'' := fun t' h'' h1 h2 h3 => hK t' h'' hlt ⟨_, by simpa using h1, h2, h3⟩
    (first | refine guard_split ?_ ?_ | refine cond_split ?_ ?_ | refine sguard_split ?_ ?_) <;> intro e <;> (try simp only [Bool.not_false] at e) <;> simp [e]
    · (first | refine guard_split ?_ ?_ | refine cond_split ?_ ?_ | refine sguard_split ?_ ?_) <;> intro e2 <;> (try simp only [Bool.not_true, Bool.not_false] at e2) <;> simp [e2, h11]
      · simp at e e2
        simp [ha, hg, hn, e2]
      · refine nx _ _ ?_ (by simp [hg, hn]) ?_
        · simp [h1, h9, h10, hw]
        simp [ha, e, e2]
    · simp [ha, hg, hn, e]
  · simp [h10, h11, hlt, hg]
    rw [ha, List.drop_of_length_le (by simp; omega)]; rfl
end Go.Am
