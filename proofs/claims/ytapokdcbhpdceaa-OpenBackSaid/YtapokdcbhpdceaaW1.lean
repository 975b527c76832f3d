/-
  Contracts of the layer of bytes: readers (New, Take, Number, Left, Rest).
-/
import Derived.Test.YtapokdcbhpdceaaAm24
import Derived.Test.YtapokdcbhpdceaaSkP
namespace Go.Am
open Go.Proofs

/-- A call that turns one object, and whose other makings are let go. -/
theorem Acalls.turn {P : Program} {f : FuncId} {args : List V} {h : H} {i : Nat} {o' : O} {Q : V → H → Prop} (hi : ∃ o, h.get i = some o) (ho : o'.ids = [])
    (c : h.WF → Acalls P f args h fun v h1 => Ge (h.set i o') h1 ∧ v.ids = [] ∧ Q v (h.set i o')) (he : enterable P f = true) : Acalls P f args h Q := by
  refine Acalls.cl he fun wf cl => Acalls.rename ((c wf).mono ?_)
  rintro v h1 ⟨hg, hv, hq⟩
  obtain ⟨oi, hoi⟩ := hi
  have hlt := wf.lt hoi
  have w2 : (h.set i o').WF := wf.set hlt _
  have liv : ∀ k, (∃ o, h.get k = some o) → ∃ o, (h.set i o').get k = some o := fun k ⟨o, hk⟩ => by
    rw [H.get_set]; split
    · exact ⟨_, rfl⟩
    · exact ⟨o, hk⟩
  refine ⟨id, v, h.set i o', (V.ren_id (σ := id) v (fun _ _ => rfl)).symm, ⟨fun k o hk => by rw [show o.ren id = o from O.ren_id (σ := id) o (fun _ _ => rfl)]; exact hg.keeps w2 k o hk, fun _ _ _ _ _ _ e => e, fun k o hk j hj => ?_, w2⟩, fun k hk => (by rw [hv] at hk; cases hk), fun k o hk => ⟨rfl, liv k ⟨o, hk⟩⟩, hq⟩
  rw [H.get_set] at hk
  split at hk
  · cases hk
    rw [ho] at hj; cases hj
  · exact liv j (cl k o hk j hj)

theorem H.push_set (h : H) (o o' : O) : (h.push o).set h.next o' = h.push o' := H.ext' rfl fun j => by
  rw [H.get_set, H.get_push, H.get_push]; split <;> simp_all
/-- A reader. -/
def rdr (l : List UInt8) : O := .row [.bool true, .str l]
def val (l : List UInt8) : Nat := l.foldl (fun a b => a * 256 + b.toNat) 0
theorem val_snoc (l : List UInt8) (b : UInt8) : val (l ++ [b]) = val l * 256 + b.toNat := by simp [val]
theorem val_lt : ∀ (n : Nat) (l : List UInt8), l.length = n → val l < 256 ^ n := by
  intro n
  induction n with
  | zero => intro l hl; have : l = [] := List.length_eq_zero_iff.1 hl; subst this; simp [val]
  | succ n ih =>
    intro l hl
    have hne : l ≠ [] := by intro e; subst e; simp at hl
    have h1 := ih l.dropLast (by simp [hl])
    rw [← List.dropLast_concat_getLast hne, val_snoc]
    have := (l.getLast hne).toNat_lt
    rw [Nat.pow_succ]; omega
theorem val_lt8 {l : List UInt8} (hl : l.length ≤ 8) : val l < 18446744073709551616 :=
  Nat.lt_of_lt_of_le (val_lt _ l rfl) (by
    have := Nat.pow_le_pow_right (show 0 < 256 by omega) hl
    have e : 256 ^ 8 = 18446744073709551616 := by decide
    omega)

theorem new_ct {h : H} {l : List UInt8} {Q : V → H → Prop} (q : Q (.ptr h.next 2 0) (h.push (rdr l))) : Acalls Try.prog 55 [.str l] h Q := by
  refine acalls_to Try.func55 S.wire_New_code S.wire_New_enter (Nat.le_of_ble_eq_true rfl) fun wf => ?_; simp only [S.wire_New]
  simp
  exact q
theorem left_ct {h : H} {i : Nat} {l : List UInt8} (r : h.get i = some (rdr l)) : Pure Try.prog 80 [.ptr i 2 0] h (.int .i64 l.length) := by
  refine pure_to Try.func80 S.wire_Reader_Left_code S.wire_Reader_Left_enter rfl (Nat.le_of_ble_eq_true rfl) fun wf => ?_; simp only [S.wire_Reader_Left]
  simp [cellsAt_of r, rdr, eqV]
theorem take_yes {h : H} {i : Nat} {l : List UInt8} (r : h.get i = some (rdr l)) {z : Int} (n : Nat) (ez : z = n) (hn : n ≤ l.length) {Q : V → H → Prop} (q : Q (.tup [.str (l.take n), .bool true]) (h.set i (rdr (l.drop n)))) : Acalls Try.prog 78 [.ptr i 2 0, .int .i64 z] h Q := by
  subst ez
  refine acalls_to Try.func78 S.wire_Reader_Take_code S.wire_Reader_Take_enter (Nat.le_of_ble_eq_true rfl) fun wf => ?_; simp only [S.wire_Reader_Take]
  have n0 : ¬ (n : Int) < 0 := by omega
  have n1 : ¬ (l.length : Int) < n := by omega
  have r' : h.get i = some (.row [.bool true, .str l]) := r
  simp [cellsAt_of r, r', rdr, eqV, n0, n1, hn]
  exact q
theorem take_no {h : H} {i : Nat} {l : List UInt8} (r : h.get i = some (rdr l)) {z : Int} (hz : z < 0 ∨ (l.length : Int) < z) : Pure Try.prog 78 [.ptr i 2 0, .int .i64 z] h (.tup [.str [], .bool false]) := by
  refine pure_to Try.func78 S.wire_Reader_Take_code S.wire_Reader_Take_enter rfl (Nat.le_of_ble_eq_true rfl) fun wf => ?_; simp only [S.wire_Reader_Take]
  have r' : h.get i = some (.row [.bool true, .str l]) := r
  by_cases h0 : z < 0
  · simp [cellsAt_of r, rdr, eqV, h0]
  · have h1 : (l.length : Int) < z := by omega
    simp [cellsAt_of r, rdr, eqV, h0, h1]
theorem rest_ct {h : H} {i : Nat} {l : List UInt8} (r : h.get i = some (rdr l)) {Q : V → H → Prop} (q : Q (.str l) (h.set i (rdr []))) : Acalls Try.prog 57 [.ptr i 2 0] h Q := by
  refine acalls_to Try.func57 S.wire_Reader_Rest_code S.wire_Reader_Rest_enter (Nat.le_of_ble_eq_true rfl) fun wf => ?_; simp only [S.wire_Reader_Rest]
  simp
  refine left_ct r _ ?_
  simp
  refine take_yes r l.length rfl (Nat.le_refl _) ?_
  simp
  exact q
theorem or_low : ∀ v b : Nat, b < 256 → v * 256 + b < 18446744073709551616 → (BitVec.ofInt 64 ((v * 256 : Nat) : Int) ||| BitVec.ofInt 64 (b : Int)).toNat = v * 256 + b := by
  intro v b hb hv
  have h1 : (BitVec.ofInt 64 ((v * 256 : Nat) : Int)).toNat = 2 ^ 8 * v := by simp [BitVec.toNat_ofInt]; omega
  have h2 : (BitVec.ofInt 64 (b : Int)).toNat = b := by simp; omega
  rw [BitVec.toNat_or, h1, h2, ← Nat.two_pow_add_eq_or_of_lt (by omega)]; omega
theorem u64_id {n : Nat} (h : n < 18446744073709551616) : IntKind.u64.wrap (n : Int) = n := by simp [IntKind.wrap, IntKind.bits, IntKind.signed]; omega
theorem more_ct {h : H} {j : Nat} {v : Nat} (r : h.get j = some (.row [.int .u64 v])) {b : UInt8} (hv : v * 256 + b.toNat < 18446744073709551616) {Q : V → H → Prop} (q : Q (.tup []) (h.set j (.row [.int .u64 ((v * 256 + b.toNat : Nat) : Int)]))) : Acalls Try.prog 91 [byteV b, .ptr j 1 0] h Q := by
  refine acalls_to Try.func91 S.wire_sum_1_code S.wire_sum_1_enter (Nat.le_of_ble_eq_true rfl) fun wf => ?_; simp only [S.wire_sum_1]
  have hb : b.toNat < 256 := b.toNat_lt
  have w1 : IntKind.u64.wrap ((v : Int) * 2 ^ min 8 IntKind.u64.bits) = ((v * 256 : Nat) : Int) := by simp [IntKind.wrap, IntKind.bits, IntKind.signed]; omega
  have w2 : IntKind.u64.wrap (b.toNat : Int) = (b.toNat : Int) := u64_id (by omega)
  have orb : intV .or .u64 ((v * 256 : Nat) : Int) (b.toNat : Int) = some (.int .u64 ((v * 256 + b.toNat : Nat) : Int)) := by
    show some (V.int .u64 (IntKind.u64.wrap ((BitVec.ofInt 64 ((v * 256 : Nat) : Int) ||| BitVec.ofInt 64 (b.toNat : Int)).toNat : Int))) = _
    rw [or_low v b.toNat hb hv, u64_id hv]
  simp only [byteV]
  simp [cellsAt_of r]
  rw [w1, w2, orb]
  simp [r]
  simpa using q
theorem value_ct {h : H} {j : Nat} {v : Int} (r : h.get j = some (.row [.int .u64 v])) : Pure Try.prog 92 [.ptr j 1 0] h (.int .u64 v) := by
  refine pure_to Try.func92 S.wire_sum_2_code S.wire_sum_2_enter rfl (Nat.le_of_ble_eq_true rfl) fun wf => ?_; simp only [S.wire_sum_2]
  simp [cellsAt_of r]
theorem sum_ct {h : H} {Q : V → H → Prop} (q : Q (.tup [.func (.func 91) [] [.ptr h.next 1 0], .func (.func 92) [] [.ptr h.next 1 0]]) (h.push (.row [.int .u64 0]))) : Acalls Try.prog 79 [] h Q := by
  refine acalls_to Try.func79 S.wire_sum_code S.wire_sum_enter (Nat.le_of_ble_eq_true rfl) fun wf => ?_; simp only [S.wire_sum]
  simp
  rw [H.push_set]; exact q

set_option maxRecDepth 100000
theorem number_yes {h : H} {i : Nat} {l : List UInt8} (r : h.get i = some (rdr l)) {z : Int} (n : Nat) (ez : z = n) (h1 : 1 ≤ n ∧ n ≤ 8) (hn : n ≤ l.length) {Q : V → H → Prop} (q : Q (.tup [.int .u64 (val (l.take n)), .bool true]) (h.set i (rdr (l.drop n)))) : Acalls Try.prog 56 [.ptr i 2 0, .int .i64 z] h Q := by
  subst ez
  refine Acalls.turn (i := i) (o' := rdr (l.drop n)) ⟨_, r⟩ rfl (fun wf => ?_) (by kernel_rfl)
  refine acalls_to Try.func56 S.wire_Reader_Number_code S.wire_Reader_Number_enter (Nat.le_of_ble_eq_true rfl) fun wf => ?_; simp only [S.wire_Reader_Number]
  have e1 : ¬ (n : Int) < 1 := by omega
  have e2 : ¬ (8 : Int) < n := by omega
  have hlt := wf.lt r
  simp [e1, e2]
  refine take_yes r n rfl hn ?_
  simp
  refine sum_ct ?_
  have hl : (l.take n).length = n := by rw [List.length_take]; omega
  simp [hl]
  obtain ⟨g, hg⟩ : ∃ g, g = h.set i (rdr (l.drop n)) := ⟨_, rfl⟩
  have gn : g.next = h.next := by rw [hg]; rfl
  rw [← hg, ← gn]
  refine loop_up (fun k t h' => (t 7 = .str (l.take n) ∧ t 8 = .bool true ∧ t 9 = .func (.func 91) [] [.ptr g.next 1 0] ∧ t 10 = .func (.func 92) [] [.ptr g.next 1 0] ∧ t 31 = .int .i64 n ∧ t 32 = .int .i64 k) ∧ g.push (.row [.int .u64 (val ((l.take n).take k))]) = h') n ⟨by simp, by simp [val]⟩ ?_
  rintro k t _ hk ⟨⟨t7, t8, t9, t10, t31, t32⟩, rfl⟩ K hK
  have r2 : (g.push (.row [.int .u64 (val ((l.take n).take k))])).get g.next = some (.row [.int .u64 (val ((l.take n).take k))]) := by simp
  by_cases hlt' : k < n
  · have hkl : k < (l.take n).length := by omega
    have hw := wrap_succ hlt' (by omega)
    have hlk : (l.take n)[k] = l[k] := List.getElem_take
    have hs : val ((l.take n).take (k + 1)) = val ((l.take n).take k) * 256 + (l[k]).toNat := by
      rw [← hlk, ← val_snoc, List.take_append_getElem hkl]
    have hv : val ((l.take n).take k) * 256 + (l[k]).toNat < 18446744073709551616 := by
      rw [← hs]; exact val_lt8 (by rw [List.length_take]; omega)
    have hix : l[k]? = some l[k] := List.getElem?_eq_getElem (by omega)
    simp [t7, t9, t31, t32, hlt', hl]
    refine more_ct (b := l[k]) r2 hv ?_
    rw [H.push_set, ← hs]
    simp [t32, hw]
    exact hK _ _ hlt' ⟨by simp [t7, t8, t9, t10, t31], rfl⟩
  · have hke : k = n := by omega
    subst hke
    simp [t10, t31, t32]
    refine value_ct r2 _ ?_
    simp [t8]
    rw [List.take_of_length_le (by omega)]
    exact ⟨rfl, by rw [hg]; exact q⟩
theorem number_no {h : H} {i : Nat} {l : List UInt8} (r : h.get i = some (rdr l)) {z : Int} (n : Nat) (ez : z = n) (h1 : 1 ≤ n ∧ n ≤ 8) (hn : l.length < n) : Pure Try.prog 56 [.ptr i 2 0, .int .i64 z] h (.tup [.int .u64 0, .bool false]) := by
  subst ez
  refine pure_to Try.func56 S.wire_Reader_Number_code S.wire_Reader_Number_enter rfl (Nat.le_of_ble_eq_true rfl) fun wf => ?_; simp only [S.wire_Reader_Number]
  have e1 : ¬ (n : Int) < 1 := by omega
  have e2 : ¬ (8 : Int) < n := by omega
  simp [e1, e2]
  refine take_no r (.inr (by omega)) _ ?_
  simp
  refine sum_ct ?_
  simp
  refine loop_up (fun k t h' => (t 8 = .bool false ∧ t 10 = .func (.func 92) [] [.ptr h.next 1 0] ∧ t 31 = .int .i64 0 ∧ t 32 = .int .i64 0) ∧ h.push (.row [.int .u64 0]) = h') 0 ⟨by simp, rfl⟩ ?_
  rintro k t _ hk ⟨⟨t8, t10, t31, t32⟩, rfl⟩ K hK
  simp [t31, t32, t10]
  refine value_ct (v := 0) (by simp) _ ?_
  simp [t8]
end Go.Am
