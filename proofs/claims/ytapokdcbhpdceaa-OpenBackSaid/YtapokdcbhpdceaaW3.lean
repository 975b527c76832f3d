/-
  Contracts: the entries of a capability.
-/
import Derived.Test.YtapokdcbhpdceaaW1
import Derived.Test.YtapokdcbhpdceaaW2
namespace Go.Am
open Go.Proofs

set_option maxRecDepth 100000
theorem val_lt1 {l : List UInt8} (h : l.length ≤ 1) : val l < 256 := Nat.lt_of_lt_of_le (val_lt _ l rfl) (by
  have := Nat.pow_le_pow_right (show 0 < 256 by omega) h; simpa using this)
theorem val_lt2 {l : List UInt8} (h : l.length ≤ 2) : val l < 65536 := Nat.lt_of_lt_of_le (val_lt _ l rfl) (by
  have := Nat.pow_le_pow_right (show 0 < 256 by omega) h; simpa using this)
theorem val_lt4 {l : List UInt8} (h : l.length ≤ 4) : val l < 4294967296 := Nat.lt_of_lt_of_le (val_lt _ l rfl) (by
  have := Nat.pow_le_pow_right (show 0 < 256 by omega) h; simpa using this)
theorem u16_id {n : Nat} (h : n < 65536) : IntKind.u16.wrap (n : Int) = n := by simp [IntKind.wrap, IntKind.bits, IntKind.signed]; omega
theorem u8_id {n : Nat} (h : n < 256) : IntKind.u8.wrap (n : Int) = n := by simp [IntKind.wrap, IntKind.bits, IntKind.signed]; omega
theorem u32_id {n : Nat} (h : n < 4294967296) : IntKind.u32.wrap (n : Int) = n := by simp [IntKind.wrap, IntKind.bits, IntKind.signed]; omega
/-- The family of three bytes. -/
def fam3 (l : List UInt8) : Int := famB (val (l.take 2)) (val ((l.drop 2).take 1))
theorem famOf_ct {h : H} {i : Nat} {l : List UInt8} (r : h.get i = some (rdr l)) (hl : 3 ≤ l.length) {Q : V → H → Prop} (q : Q (.int .i64 (fam3 l)) (h.set i (rdr (l.drop 3)))) : Acalls Try.prog 81 [.ptr i 2 0] h Q := by
  refine acalls_to Try.func81 S.open_famOf_code S.open_famOf_enter (Nat.le_of_ble_eq_true rfl) fun wf => ?_; simp only [S.open_famOf]
  have w1 := u16_id (val_lt2 (l := l.take 2) (by simp; omega))
  have w2 := u8_id (val_lt1 (l := (l.drop 2).take 1) (by simp; omega))
  simp
  refine number_yes r 2 rfl (by omega) (by omega) ?_
  simp
  refine number_yes (l := l.drop 2) (by simp) 1 rfl (by omega) (by simp; omega) ?_
  simp [w1, w2]
  refine fam_ct _ ?_
  simp
  exact q
/-- What is told of entries: an object of six cells is turned. -/
def Tells (fv : V) (j : Nat) (step : List V → Int → Nat → List V) : Prop := ∀ h f b cs, h.get j = some (.row cs) → cs.length = 6 → 1 ≤ f → f ≤ 5 → b < 256 → ∀ Q : V → H → Prop, Q (.tup []) (h.set j (.row (step cs f b))) → callK Try.prog fv [.int .i64 f, .int .u64 (b : Nat)] h Q
def step64 (cs : List V) (f : Int) (b : Nat) : List V := cs.set f.toNat (.int .i64 ((1 + b / 128 : Nat) : Int))
def step69 (cs : List V) (f : Int) (b : Nat) : List V := if 1 ≤ b ∧ b ≤ 3 then cs.set f.toNat (.int .u64 (b : Nat)) else cs
theorem put_one (cs : List V) (k : Nat) (x : V) (hk : k < cs.length) : putCells cs k [x] = cs.set k x := by
  rw [List.set_eq_take_append_cons_drop, if_pos hk]; simp [putCells]
theorem tells64 (j : Nat) : Tells (.func (.func 84) [] [.ptr j 6 0]) j step64 := by
  intro h f b cs hj hc h1 h5 hb Q q
  simp
  refine (?_ : Acalls Try.prog 84 [.int .i64 f, .int .u64 (b : Nat), .ptr j 6 0] h Q)
  refine acalls_to Try.func84 S.open_capability_1_code S.open_capability_1_enter (Nat.le_of_ble_eq_true rfl) fun wf => ?_; simp only [S.open_capability_1]
  obtain ⟨k, rfl⟩ : ∃ k : Nat, f = k := ⟨f.toNat, by omega⟩
  have sh : ((b : Int).fdiv (2 ^ min 7 IntKind.u64.bits)) = ((b / 128 : Nat) : Int) := by
    have := shr_n b 7 (by omega); simpa using this
  have w1 : IntKind.i64.wrap ((b / 128 : Nat) : Int) = ((b / 128 : Nat) : Int) := wrap_nat (by omega)
  have w2 : IntKind.i64.wrap (1 + ((b / 128 : Nat) : Int)) = ((1 + b / 128 : Nat) : Int) := by rw [wrap_i64_id (by omega) (by omega)]; omega
  have k6 : (k : Int) < 6 := by omega
  have k6' : k < 6 := by omega
  simp only [step64, Int.toNat_natCast] at q
  have k5 : k ≤ 5 := by omega
  simp [sh, k6, k6', k5, hj, hc, put_one, -putCells]
  have w3 : IntKind.i64.wrap (1 + (b : Int) / 128) = 1 + (b : Int) / 128 := wrap_i64_id (by omega) (by omega)
  have q' : Q (.tup []) (h.set j (.row (cs.set k (.int .i64 (1 + (b : Int) / 128))))) := by simpa using q
  have w4 : IntKind.i64.wrap ((b : Int) / 128) = (b : Int) / 128 := wrap_i64_id (by omega) (by omega)
  rw [w4, w3]; exact q'
theorem tells69 (j : Nat) : Tells (.func (.func 85) [] [.ptr j 6 0]) j step69 := by
  intro h f b cs hj hc h1 h5 hb Q q
  simp
  refine (?_ : Acalls Try.prog 85 [.int .i64 f, .int .u64 (b : Nat), .ptr j 6 0] h Q)
  refine acalls_to Try.func85 S.open_capability_2_code S.open_capability_2_enter (Nat.le_of_ble_eq_true rfl) fun wf => ?_; simp only [S.open_capability_2]
  obtain ⟨k, rfl⟩ : ∃ k : Nat, f = k := ⟨f.toNat, by omega⟩
  have k6 : (k : Int) < 6 := by omega
  have k6' : k < 6 := by omega
  have k5 : k ≤ 5 := by omega
  simp only [step69, Int.toNat_natCast] at q
  have self : h.set j (.row cs) = h := H.ext' rfl fun i => by
    rw [H.get_set]; split
    · rename_i e; rw [e, hj]
    · rfl
  by_cases b1 : 1 ≤ b
  · by_cases b3 : b ≤ 3
    · rw [if_pos ⟨b1, b3⟩] at q
      simp [show (1 : Int) ≤ b by omega, show (b : Int) ≤ 3 by omega, k6, k6', k5, hj, hc, put_one, -putCells]
      exact q
    · rw [if_neg (by omega), self] at q
      simp [show (1 : Int) ≤ b by omega, show ¬ (b : Int) ≤ 3 by omega]
      exact q
  · rw [if_neg (by omega), self] at q
    simp [show ¬ (1 : Int) ≤ b by omega]
    exact q

/-- The entries of families that there are. -/
def ents : List UInt8 → List (Int × Nat)
  | a :: b :: c :: d :: l => if 0 < fam3 [a, b, c] then (fam3 [a, b, c], d.toNat) :: ents l else ents l
  | _ => []
theorem fam3_take (l : List UInt8) : fam3 (l.take 3) = fam3 l := by
  match l with
  | [] => rfl
  | [a] => rfl
  | [a, b] => rfl
  | a :: b :: c :: l => rfl
theorem entries_ct {h : H} {i j : Nat} {l : List UInt8} {cs : List V} {fv : V} {step : List V → Int → Nat → List V} (r : h.get i = some (rdr l)) (hj : h.get j = some (.row cs)) (hij : i ≠ j) (hc : cs.length = 6) (hstep : ∀ cs f b, (step cs f b).length = cs.length) (ht : Tells fv j step) (hl : l.length % 4 = 0) {Q : V → H → Prop}
    (q : Q (.tup []) ((h.set i (rdr [])).set j (.row ((ents l).foldl (fun cs x => step cs x.1 x.2) cs)))) : Acalls Try.prog 83 [.ptr i 2 0, fv] h Q := by
  refine acalls_to Try.func83 S.open_entries_code S.open_entries_enter (Nat.le_of_ble_eq_true rfl) fun wf => ?_; simp only [S.open_entries]
  have hli := wf.lt r
  have hlj := wf.lt hj
  simp
  refine loopA_of (fun k t h' => ∃ l' cs', l'.length = k ∧ l'.length % 4 = 0 ∧ cs'.length = 6 ∧ (t 0 = .ptr i 2 0 ∧ t 1 = fv) ∧ (h.set i (rdr l')).set j (.row cs') = h' ∧ (ents l').foldl (fun cs x => step cs x.1 x.2) cs' = (ents l).foldl (fun cs x => step cs x.1 x.2) cs) (n := l.length) ⟨l, cs, rfl, hl, hc, by simp, H.ext' rfl fun k => ?_, rfl⟩ ?_
  · rw [H.get_set, H.get_set]; split
    · rename_i e; rw [e, hj]
    · split
      · rename_i e; rw [e, r]
      · rfl
  rintro k t _ ⟨l', cs', hk, h4, hc', ⟨t0, t1⟩, rfl, hac⟩ N hN
  have r' : ((h.set i (rdr l')).set j (.row cs')).get i = some (rdr l') := by simp [hij]
  simp [t0]
  refine left_ct r' _ ?_
  match l', h4, hk with
  | [], _, _ =>
    simp
    simp only [ents, List.foldl_nil] at hac
    subst hac
    exact q
  | a :: b :: c :: d :: l2, h4, hk =>
    have hp : (0 : Int) < ((a :: b :: c :: d :: l2).length : Int) := by simp; omega
    have h4' : l2.length % 4 = 0 := by simp at h4; omega
    have hp' : (0 : Int) < (l2.length : Int) + 1 + 1 + 1 + 1 := by omega
    simp [hp', t0]
    refine famOf_ct r' (by simp) ?_
    have f3 : fam3 (a :: b :: c :: d :: l2) = fam3 [a, b, c] := by rw [← fam3_take]; rfl
    have dd : (a :: b :: c :: d :: l2).drop 3 = d :: l2 := rfl
    have hs : ((h.set i (rdr (a :: b :: c :: d :: l2))).set j (.row cs')).set i (rdr (d :: l2)) = (h.set i (rdr (d :: l2))).set j (.row cs') := H.ext' rfl fun k => by
      simp only [H.get_set]; split <;> split <;> simp_all
    rw [f3, dd, hs]
    simp [t0]
    refine number_yes (l := d :: l2) (by simp [hij]) 1 rfl (by omega) (by simp) ?_
    have hs2 : ((h.set i (rdr (d :: l2))).set j (.row cs')).set i (rdr l2) = (h.set i (rdr l2)).set j (.row cs') := H.ext' rfl fun k => by
      simp only [H.get_set]; split <;> split <;> simp_all
    have d1 : (d :: l2).drop 1 = l2 := rfl
    have v1 : val ((d :: l2).take 1) = d.toNat := by simp [val]
    rw [d1, hs2, v1]
    have bd := famB_bd (val ([a, b, c].take 2)) (val (([a, b, c].drop 2).take 1))
    simp
    by_cases hf : 0 < fam3 [a, b, c]
    · simp [hf, t1]
      refine ht _ _ _ cs' (by simp) hc' (by omega) (by unfold fam3; omega) (d.toNat_lt) _ ?_
      simp
      refine hN (l2.length) _ _ (by simp at hk; omega) ⟨l2, step cs' (fam3 [a, b, c]) d.toNat, rfl, h4', by rw [hstep, hc'], by simp [t0, t1], rfl, ?_⟩
      rw [← hac]; simp only [ents]; rw [if_pos hf]; rfl
    · simp [hf]
      refine hN (l2.length) _ _ (by simp at hk; omega) ⟨l2, cs', rfl, h4', hc', by simp [t0, t1], rfl, ?_⟩
      rw [← hac]; simp only [ents]; rw [if_neg hf]
  | [_], h4, _ => simp at h4
  | [_, _], h4, _ => simp at h4
  | [_, _, _], h4, _ => simp at h4
end Go.Am
