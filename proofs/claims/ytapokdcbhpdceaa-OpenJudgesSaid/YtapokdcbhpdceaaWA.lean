/-
  W1, W2, W3, L1, W4, W5, W6, in one text.
-/
import Derived.Test.YtapokdcbhpdceaaAm24
import Derived.Test.YtapokdcbhpdceaaSkP
import Derived.Test.YtapokdcbhpdceaaO11
import Derived.Test.YtapokdcbhpdceaaAm26
import Derived.Test.YtapokdcbhpdceaaO4
import Derived.Test.YtapokdcbhpdceaaO2
import Derived.Test.YtapokdcbhpdceaaAm28
/-
  Contracts of the layer of bytes: readers (New, Take, Number, Left, Rest).
-/
namespace Go.Am
open Go.Proofs

/-- A call that turns one object, and whose other makings are let go. -/
theorem Acalls.turn {P : Program} {f : FuncId} {args : List V} {h : H} {i : Nat} {o' : O} {Q : V → H → Prop} (hi : ∃ o, h.get i = some o) (ho : o'.ids = [])
    (c : h.WF → Acalls P f args h fun v h1 => Ge (h.set i o') h1 ∧ v.ids = [] ∧ Q v (h.set i o')) (he : enterable P f = true) : Acalls P f args h Q := by
  refine Acalls.cl he fun wf cl => Acalls.rename ((c wf).mono ?_)
  rintro v h1 ⟨hg, hv, hq⟩
  obtain ⟨oi, hoi⟩ := hi
  have hlt := wf.lt hoi
  have w2 : (h.set i o').WF := wf.set hlt _
  have liv : ∀ k, (∃ o, h.get k = some o) → ∃ o, (h.set i o').get k = some o := fun k ⟨o, hk⟩ => by
    rw [H.get_set]; split
    · exact ⟨_, rfl⟩
    · exact ⟨o, hk⟩
  refine ⟨id, v, h.set i o', (V.ren_id (σ := id) v (fun _ _ => rfl)).symm, ⟨fun k o hk => by rw [show o.ren id = o from O.ren_id (σ := id) o (fun _ _ => rfl)]; exact hg.keeps w2 k o hk, fun _ _ _ _ _ _ e => e, fun k o hk j hj => ?_, w2⟩, fun k hk => (by rw [hv] at hk; cases hk), fun k o hk => ⟨rfl, liv k ⟨o, hk⟩⟩, hq⟩
  rw [H.get_set] at hk
  split at hk
  · cases hk
    rw [ho] at hj; cases hj
  · exact liv j (cl k o hk j hj)

theorem H.push_set (h : H) (o o' : O) : (h.push o).set h.next o' = h.push o' := H.ext' rfl fun j => by
  rw [H.get_set, H.get_push, H.get_push]; split <;> simp_all
/-- A reader. -/
def rdr (l : List UInt8) : O := .row [.bool true, .str l]
def val (l : List UInt8) : Nat := l.foldl (fun a b => a * 256 + b.toNat) 0
theorem val_snoc (l : List UInt8) (b : UInt8) : val (l ++ [b]) = val l * 256 + b.toNat := by simp [val]
theorem val_lt : ∀ (n : Nat) (l : List UInt8), l.length = n → val l < 256 ^ n := by
  intro n
  induction n with
  | zero => intro l hl; have : l = [] := List.length_eq_zero_iff.1 hl; subst this; simp [val]
  | succ n ih =>
    intro l hl
    have hne : l ≠ [] := by intro e; subst e; simp at hl
    have h1 := ih l.dropLast (by simp [hl])
    rw [← List.dropLast_concat_getLast hne, val_snoc]
    have := (l.getLast hne).toNat_lt
    rw [Nat.pow_succ]; omega
theorem val_lt8 {l : List UInt8} (hl : l.length ≤ 8) : val l < 18446744073709551616 :=
  Nat.lt_of_lt_of_le (val_lt _ l rfl) (by
    have := Nat.pow_le_pow_right (show 0 < 256 by omega) hl
    have e : 256 ^ 8 = 18446744073709551616 := by decide
    omega)

theorem new_ct {h : H} {l : List UInt8} {Q : V → H → Prop} (q : Q (.ptr h.next 2 0) (h.push (rdr l))) : Acalls Try.prog 55 [.str l] h Q := by
  refine acalls_to Try.func55 S.wire_New_code S.wire_New_enter (Nat.le_of_ble_eq_true rfl) fun wf => ?_; simp only [S.wire_New]
  simp
  exact q
theorem left_ct {h : H} {i : Nat} {l : List UInt8} (r : h.get i = some (rdr l)) : Pure Try.prog 80 [.ptr i 2 0] h (.int .i64 l.length) := by
  refine pure_to Try.func80 S.wire_Reader_Left_code S.wire_Reader_Left_enter rfl (Nat.le_of_ble_eq_true rfl) fun wf => ?_; simp only [S.wire_Reader_Left]
  simp [cellsAt_of r, rdr, eqV]
theorem take_yes {h : H} {i : Nat} {l : List UInt8} (r : h.get i = some (rdr l)) {z : Int} (n : Nat) (ez : z = n) (hn : n ≤ l.length) {Q : V → H → Prop} (q : Q (.tup [.str (l.take n), .bool true]) (h.set i (rdr (l.drop n)))) : Acalls Try.prog 78 [.ptr i 2 0, .int .i64 z] h Q := by
  subst ez
  refine acalls_to Try.func78 S.wire_Reader_Take_code S.wire_Reader_Take_enter (Nat.le_of_ble_eq_true rfl) fun wf => ?_; simp only [S.wire_Reader_Take]
  have n0 : ¬ (n : Int) < 0 := by omega
  have n1 : ¬ (l.length : Int) < n := by omega
  have r' : h.get i = some (.row [.bool true, .str l]) := r
  simp [cellsAt_of r, r', rdr, eqV, n0, n1, hn]
  exact q
theorem take_no {h : H} {i : Nat} {l : List UInt8} (r : h.get i = some (rdr l)) {z : Int} (hz : z < 0 ∨ (l.length : Int) < z) : Pure Try.prog 78 [.ptr i 2 0, .int .i64 z] h (.tup [.str [], .bool false]) := by
  refine pure_to Try.func78 S.wire_Reader_Take_code S.wire_Reader_Take_enter rfl (Nat.le_of_ble_eq_true rfl) fun wf => ?_; simp only [S.wire_Reader_Take]
  have r' : h.get i = some (.row [.bool true, .str l]) := r
  by_cases h0 : z < 0
  · simp [cellsAt_of r, rdr, eqV, h0]
  · have h1 : (l.length : Int) < z := by omega
    simp [cellsAt_of r, rdr, eqV, h0, h1]
theorem rest_ct {h : H} {i : Nat} {l : List UInt8} (r : h.get i = some (rdr l)) {Q : V → H → Prop} (q : Q (.str l) (h.set i (rdr []))) : Acalls Try.prog 57 [.ptr i 2 0] h Q := by
  refine acalls_to Try.func57 S.wire_Reader_Rest_code S.wire_Reader_Rest_enter (Nat.le_of_ble_eq_true rfl) fun wf => ?_; simp only [S.wire_Reader_Rest]
  simp
  refine left_ct r _ ?_
  simp
  refine take_yes r l.length rfl (Nat.le_refl _) ?_
  simp
  exact q
theorem or_low : ∀ v b : Nat, b < 256 → v * 256 + b < 18446744073709551616 → (BitVec.ofInt 64 ((v * 256 : Nat) : Int) ||| BitVec.ofInt 64 (b : Int)).toNat = v * 256 + b := by
  intro v b hb hv
  have h1 : (BitVec.ofInt 64 ((v * 256 : Nat) : Int)).toNat = 2 ^ 8 * v := by simp [BitVec.toNat_ofInt]; omega
  have h2 : (BitVec.ofInt 64 (b : Int)).toNat = b := by simp; omega
  rw [BitVec.toNat_or, h1, h2, ← Nat.two_pow_add_eq_or_of_lt (by omega)]; omega
theorem u64_id {n : Nat} (h : n < 18446744073709551616) : IntKind.u64.wrap (n : Int) = n := by simp [IntKind.wrap, IntKind.bits, IntKind.signed]; omega
theorem more_ct {h : H} {j : Nat} {v : Nat} (r : h.get j = some (.row [.int .u64 v])) {b : UInt8} (hv : v * 256 + b.toNat < 18446744073709551616) {Q : V → H → Prop} (q : Q (.tup []) (h.set j (.row [.int .u64 ((v * 256 + b.toNat : Nat) : Int)]))) : Acalls Try.prog 91 [byteV b, .ptr j 1 0] h Q := by
  refine acalls_to Try.func91 S.wire_sum_1_code S.wire_sum_1_enter (Nat.le_of_ble_eq_true rfl) fun wf => ?_; simp only [S.wire_sum_1]
  have hb : b.toNat < 256 := b.toNat_lt
  have w1 : IntKind.u64.wrap ((v : Int) * 2 ^ min 8 IntKind.u64.bits) = ((v * 256 : Nat) : Int) := by simp [IntKind.wrap, IntKind.bits, IntKind.signed]; omega
  have w2 : IntKind.u64.wrap (b.toNat : Int) = (b.toNat : Int) := u64_id (by omega)
  have orb : intV .or .u64 ((v * 256 : Nat) : Int) (b.toNat : Int) = some (.int .u64 ((v * 256 + b.toNat : Nat) : Int)) := by
    show some (V.int .u64 (IntKind.u64.wrap ((BitVec.ofInt 64 ((v * 256 : Nat) : Int) ||| BitVec.ofInt 64 (b.toNat : Int)).toNat : Int))) = _
    rw [or_low v b.toNat hb hv, u64_id hv]
  simp only [byteV]
  simp [cellsAt_of r]
  rw [w1, w2, orb]
  simp [r]
  simpa using q
theorem value_ct {h : H} {j : Nat} {v : Int} (r : h.get j = some (.row [.int .u64 v])) : Pure Try.prog 92 [.ptr j 1 0] h (.int .u64 v) := by
  refine pure_to Try.func92 S.wire_sum_2_code S.wire_sum_2_enter rfl (Nat.le_of_ble_eq_true rfl) fun wf => ?_; simp only [S.wire_sum_2]
  simp [cellsAt_of r]
theorem sum_ct {h : H} {Q : V → H → Prop} (q : Q (.tup [.func (.func 91) [] [.ptr h.next 1 0], .func (.func 92) [] [.ptr h.next 1 0]]) (h.push (.row [.int .u64 0]))) : Acalls Try.prog 79 [] h Q := by
  refine acalls_to Try.func79 S.wire_sum_code S.wire_sum_enter (Nat.le_of_ble_eq_true rfl) fun wf => ?_; simp only [S.wire_sum]
  simp
  rw [H.push_set]; exact q

set_option maxRecDepth 100000
theorem number_yes {h : H} {i : Nat} {l : List UInt8} (r : h.get i = some (rdr l)) {z : Int} (n : Nat) (ez : z = n) (h1 : 1 ≤ n ∧ n ≤ 8) (hn : n ≤ l.length) {Q : V → H → Prop} (q : Q (.tup [.int .u64 (val (l.take n)), .bool true]) (h.set i (rdr (l.drop n)))) : Acalls Try.prog 56 [.ptr i 2 0, .int .i64 z] h Q := by
  subst ez
  refine Acalls.turn (i := i) (o' := rdr (l.drop n)) ⟨_, r⟩ rfl (fun wf => ?_) (by kernel_rfl)
  refine acalls_to Try.func56 S.wire_Reader_Number_code S.wire_Reader_Number_enter (Nat.le_of_ble_eq_true rfl) fun wf => ?_; simp only [S.wire_Reader_Number]
  have e1 : ¬ (n : Int) < 1 := by omega
  have e2 : ¬ (8 : Int) < n := by omega
  have hlt := wf.lt r
  simp [e1, e2]
  refine take_yes r n rfl hn ?_
  simp
  refine sum_ct ?_
  have hl : (l.take n).length = n := by rw [List.length_take]; omega
  simp [hl]
  obtain ⟨g, hg⟩ : ∃ g, g = h.set i (rdr (l.drop n)) := ⟨_, rfl⟩
  have gn : g.next = h.next := by rw [hg]; rfl
  rw [← hg, ← gn]
  refine loop_up (fun k t h' => (t 7 = .str (l.take n) ∧ t 8 = .bool true ∧ t 9 = .func (.func 91) [] [.ptr g.next 1 0] ∧ t 10 = .func (.func 92) [] [.ptr g.next 1 0] ∧ t 31 = .int .i64 n ∧ t 32 = .int .i64 k) ∧ g.push (.row [.int .u64 (val ((l.take n).take k))]) = h') n ⟨by simp, by simp [val]⟩ ?_
  rintro k t _ hk ⟨⟨t7, t8, t9, t10, t31, t32⟩, rfl⟩ K hK
  have r2 : (g.push (.row [.int .u64 (val ((l.take n).take k))])).get g.next = some (.row [.int .u64 (val ((l.take n).take k))]) := by simp
  by_cases hlt' : k < n
  · have hkl : k < (l.take n).length := by omega
    have hw := wrap_succ hlt' (by omega)
    have hlk : (l.take n)[k] = l[k] := List.getElem_take
    have hs : val ((l.take n).take (k + 1)) = val ((l.take n).take k) * 256 + (l[k]).toNat := by
      rw [← hlk, ← val_snoc, List.take_append_getElem hkl]
    have hv : val ((l.take n).take k) * 256 + (l[k]).toNat < 18446744073709551616 := by
      rw [← hs]; exact val_lt8 (by rw [List.length_take]; omega)
    have hix : l[k]? = some l[k] := List.getElem?_eq_getElem (by omega)
    simp [t7, t9, t31, t32, hlt', hl]
    refine more_ct (b := l[k]) r2 hv ?_
    rw [H.push_set, ← hs]
    simp [t32, hw]
    exact hK _ _ hlt' ⟨by simp [t7, t8, t9, t10, t31], rfl⟩
  · have hke : k = n := by omega
    subst hke
    simp [t10, t31, t32]
    refine value_ct r2 _ ?_
    simp [t8]
    rw [List.take_of_length_le (by omega)]
    exact ⟨rfl, by rw [hg]; exact q⟩
theorem number_no {h : H} {i : Nat} {l : List UInt8} (r : h.get i = some (rdr l)) {z : Int} (n : Nat) (ez : z = n) (h1 : 1 ≤ n ∧ n ≤ 8) (hn : l.length < n) : Pure Try.prog 56 [.ptr i 2 0, .int .i64 z] h (.tup [.int .u64 0, .bool false]) := by
  subst ez
  refine pure_to Try.func56 S.wire_Reader_Number_code S.wire_Reader_Number_enter rfl (Nat.le_of_ble_eq_true rfl) fun wf => ?_; simp only [S.wire_Reader_Number]
  have e1 : ¬ (n : Int) < 1 := by omega
  have e2 : ¬ (8 : Int) < n := by omega
  simp [e1, e2]
  refine take_no r (.inr (by omega)) _ ?_
  simp
  refine sum_ct ?_
  simp
  refine loop_up (fun k t h' => (t 8 = .bool false ∧ t 10 = .func (.func 92) [] [.ptr h.next 1 0] ∧ t 31 = .int .i64 0 ∧ t 32 = .int .i64 0) ∧ h.push (.row [.int .u64 0]) = h') 0 ⟨by simp, rfl⟩ ?_
  rintro k t _ hk ⟨⟨t8, t10, t31, t32⟩, rfl⟩ K hK
  simp [t31, t32, t10]
  refine value_ct (v := 0) (by simp) _ ?_
  simp [t8]
end Go.Am

/-
  Contracts: the family of a pair; a short list is sorted.
-/
namespace Go.Am
open Go.Proofs

theorem idxI_bd {α : Type} (p : α → Bool) : ∀ (l : List α) (i : Nat), -1 ≤ idxI p i l ∧ idxI p i l < i + l.length
  | [], i => by simp [idxI]; omega
  | x :: l, i => by
    have := idxI_bd p l (i + 1)
    rw [idxI]
    split
    · simp; omega
    · simp at this ⊢; omega
structure Rw where
  a : Int
  s : Int
  z : Int
  n : Int
def rwC (r : Rw) : List V := [.int .u16 r.a, .int .u8 r.s, .int .i64 r.z, .int .i64 r.n]
def rws : List Rw := [⟨1, 1, 0, 4⟩, ⟨2, 1, 0, 16⟩, ⟨1, 4, 0, 4⟩, ⟨1, 128, 8, 4⟩, ⟨2, 128, 8, 16⟩]
def famB (a b : Int) : Int := 1 + idxI (fun r : Rw => r.a == a && r.s == b) 0 rws
theorem famB_bd (a b : Int) : 0 ≤ famB a b ∧ famB a b ≤ 5 := by
  have := idxI_bd (fun r : Rw => r.a == a && r.s == b) rws 0
  unfold famB; simp [rws] at this ⊢; omega
theorem famB_afi {f : Int} (hf : fam5 f) : famB (afi f).1 (afi f).2 = f := by
  rcases hf with rfl | rfl | rfl | rfl | rfl <;> decide

theorem asks102 {h : H} {q q2 : Nat} {a b : Int} (hq : h.get q = some (.row [.int .u16 a])) (hq2 : h.get q2 = some (.row [.int .u8 b])) (hl : q < h.next) (hl2 : q2 < h.next) : Asks h (.func (.func 102) [] [.ptr q 1 0, .ptr q2 1 0]) (fun x => .agg (rwC x)) (fun r : Rw => r.a == a && r.s == b) := by
  intro x h' g Q k
  have hc : ∀ o, cellsAt (h'.push o).get q 1 = some [.int .u16 a] := fun o => by rw [cellsAt_push, if_neg (by have := g.1; omega), g.cells hl, cellsAt_of hq (by simp)]; rfl
  have hc2 : ∀ o, cellsAt (h'.push o).get q2 1 = some [.int .u8 b] := fun o => by rw [cellsAt_push, if_neg (by have := g.1; omega), g.cells hl2, cellsAt_of hq2 (by simp)]; rfl
  simp
  refine (?_ : Pure Try.prog 102 [.agg (rwC x), .ptr q 1 0, .ptr q2 1 0] h' (.bool (x.a == a && x.s == b))) Q k
  refine pure_to Try.func102 S.reach_Fam_1_code S.reach_Fam_1_enter rfl (Nat.le_of_ble_eq_true rfl) fun wf => ?_; simp only [S.reach_Fam_1]
  simp [rwC, hc]
  (first | refine guard_split ?_ ?_ | refine cond_split ?_ ?_ | refine sguard_split ?_ ?_) <;> intro e <;> (try simp only [Bool.not_true] at e) <;> simp [e, hc2]
  all_goals (simp at e; simp [e])
theorem indexRw_ct {h : H} {v fv : V} {l : List Rw} {p : Rw → Bool} {r : Int} (hs : Sls h.get 4 v (l.map rwC)) (hf : Asks h fv (fun x => .agg (rwC x)) p) (hr : r = idxI p 0 l) : Pure Try.prog 101 [v, fv] h (.int .i64 r) := by
  refine pure_to Try.func101 S.slices_IndexFunc_reach_row_reach_row_code S.slices_IndexFunc_reach_row_reach_row_enter rfl (Nat.le_of_ble_eq_true rfl) fun wf => ?_; simp only [S.slices_IndexFunc_reach_row_reach_row]
  have hb := hs.bound
  simp [hs.len]
  refine loop_up (fun i t h' => (t 0 = v ∧ t 1 = fv ∧ t 7 = .int .i64 l.length ∧ t 8 = .int .i64 i) ∧ Ge h h' ∧ r = idxI p i (l.drop i)) l.length (by simp [hr]) ?_
  rintro i t h' hi ⟨⟨h0, h1, h7, h8⟩, hg, ha⟩ K hK
  have hs' := hs.ge wf hg
  have hn := hg.1
  by_cases hlt : i < l.length
  · obtain ⟨q, q2, o, cs, e1, e2, e3, e4, _⟩ := hs'.at (k := i) (by simpa using hlt)
    rw [List.drop_eq_getElem_cons hlt, idxI] at ha
    simp [h0, h1, h7, h8, hlt, e1, e2, e3, e4]
    refine hf l[i] _ hg _ ?_
    simp
    have hw := wrap_succ hlt (by simpa using hb)
    (first | refine guard_split ?_ ?_ | refine cond_split ?_ ?_ | refine sguard_split ?_ ?_) <;> intro e <;> (try simp only [Bool.not_true, Bool.not_false] at e) <;> simp [e, h8]
    · simp [e] at ha
      simp [ha, hg]
    · simp [e] at ha
      refine hK _ _ hlt ⟨?_, hg, ha⟩
      simp [h0, h1, h7, hw]
  · simp [h7, h8, hlt, hg]
    rw [ha, List.drop_of_length_le (by omega)]; rfl
set_option maxRecDepth 100000
theorem fam_ct {h : H} {a b : Int} : Pure Try.prog 93 [.int .u16 a, .int .u8 b] h (.int .i64 (famB a b)) := by
  refine pure_to Try.func93 S.reach_Fam_code S.reach_Fam_enter rfl (Nat.le_of_ble_eq_true rfl) fun wf => ?_; simp only [S.reach_Fam]
  simp
  refine rows_ct _ ?_
  simp [rowsC]
  obtain ⟨hb, hhb⟩ : ∃ hb, hb = (((h.push (.row [.int .u16 a])).push (.row [.int .u8 b])).push (.row [.int .u16 0, .int .u8 0, .int .i64 0, .int .i64 0, .int .u16 0, .int .u8 0, .int .i64 0, .int .i64 0, .int .u16 0, .int .u8 0, .int .i64 0, .int .i64 0, .int .u16 0, .int .u8 0, .int .i64 0, .int .i64 0, .int .u16 0, .int .u8 0, .int .i64 0, .int .i64 0, .int .u16 0, .int .u8 0, .int .i64 0, .int .i64 0])).set (h.next + 1 + 1) (.row rowsC) := ⟨_, rfl⟩
  have gb : Ge h hb := by rw [hhb]; exact ((((Ge.refl _).push _).push _).push _).set (by omega) _
  have wb : hb.WF := by rw [hhb]; exact (((wf.push _).push _).push _).set (by simp) _
  have nb : hb.next = h.next + 3 := by rw [hhb]; rfl
  have a1 : ¬ h.next = h.next + 1 + 1 := by omega
  have x1 : hb.get h.next = some (.row [.int .u16 a]) := by rw [hhb]; simp [a1]
  have x2 : hb.get (h.next + 1) = some (.row [.int .u8 b]) := by rw [hhb]; simp
  have x3 : hb.get (h.next + 1 + 1) = some (.row rowsC) := by rw [hhb]; simp
  simp only [rowsC] at hhb
  rw [← hhb]
  refine indexRw_ct (l := rws) (p := fun r : Rw => r.a == a && r.s == b) ⟨.inr ⟨_, _, _, _, rfl⟩, by simp [rws, rwC], ?_, by simp [rws]⟩ (asks102 x1 x2 (by omega) (by omega)) rfl _ ?_
  · rw [elemsV_sl, if_neg (by simp [rws]), cellsAt_of x3 (by simp [rowsC])]
    simp [rws, rwC, rowsC]
  · have f0 := famB_bd a b
    have w1 : IntKind.i64.wrap (1 + idxI (fun r : Rw => r.a == a && r.s == b) 0 rws) = famB a b := wrap_i64_id (show _ ≤ famB a b by omega) (show famB a b ≤ _ by omega)
    simp [w1]
    exact ⟨fun h => by omega, gb⟩

/-! ### A short list is sorted -/
theorem isnan_ct {h : H} {x : Int} : Pure Try.prog 119 [.int .i64 x] h (.bool false) := by
  refine pure_to Try.func119 S.cmp_isNaN_int_code S.cmp_isNaN_int_enter rfl (Nat.le_of_ble_eq_true rfl) fun wf => ?_; simp only [S.cmp_isNaN_int]
  simp
theorem less_ct {h : H} {x y : Int} : Pure Try.prog 109 [.int .i64 x, .int .i64 y] h (.bool (decide (x < y))) := by
  refine pure_to Try.func109 S.cmp_Less_int_code S.cmp_Less_int_enter rfl (Nat.le_of_ble_eq_true rfl) fun wf => ?_; simp only [S.cmp_Less_int]
  simp
  refine isnan_ct _ ?_
  simp
theorem map_set {α : Type} (f : α → V) (l : List α) (k : Nat) (x : α) (hk : k < l.length) : putCells (l.map f) k [f x] = (l.set k x).map f := by
  rw [List.map_set, List.set_eq_take_append_cons_drop, if_pos (by simpa using hk)]; simp [putCells]
/-- Sorted but at 'k', up to 'i'. -/
structure Near (l cur : List Int) (i k : Nat) : Prop where
  perm : cur.Perm l
  ki : k ≤ i
  il : i < l.length
  st : ∀ p q (hp : p < cur.length) (hq : q < cur.length), p < q → q ≤ i → p ≠ k → q ≠ k → cur[p] ≤ cur[q]
  up : ∀ q (hk : k < cur.length) (hq : q < cur.length), k < q → q ≤ i → cur[k] ≤ cur[q]
theorem Near.swap {l cur : List Int} {i k : Nat} (n : Near l cur i k) (hk : 0 < k) (h1 : k < cur.length) (h2 : k - 1 < cur.length) (hlt : cur[k] < cur[k - 1]) : Near l ((cur.set k cur[k - 1]).set (k - 1) cur[k]) i (k - 1) := by
  obtain ⟨pm, ki, il, st, up⟩ := n
  refine ⟨(List.set_set_perm h1 h2).trans pm, by omega, il, fun p q hp hq hpq hqi hpk hqk => ?_, fun q hk' hq hkq hqi => ?_⟩
  · simp only [List.length_set] at hp hq
    simp only [List.getElem_set]
    rw [if_neg (show ¬ k - 1 = p by omega), if_neg (show ¬ k - 1 = q by omega)]
    by_cases e : k = p
    · rw [if_pos e, if_neg (show ¬ k = q by omega)]
      exact st (k - 1) q h2 hq (by omega) hqi (by omega) (by omega)
    · rw [if_neg e]
      by_cases e2 : k = q
      · rw [if_pos e2]
        exact st p (k - 1) hp h2 (by omega) (by omega) (by omega) (by omega)
      · rw [if_neg e2]
        exact st p q hp hq hpq hqi (by omega) (by omega)
  · simp only [List.length_set] at hk' hq
    simp only [List.getElem_set]
    rw [if_pos trivial, if_neg (show ¬ k - 1 = q by omega)]
    by_cases e : k = q
    · rw [if_pos e]; omega
    · rw [if_neg e]
      exact up q h1 hq (by omega) hqi
/-- Sorted below 'i'. -/
structure Upto (l cur : List Int) (i : Nat) : Prop where
  perm : cur.Perm l
  st : ∀ p q (hp : p < cur.length) (hq : q < cur.length), p < q → q < i → cur[p] ≤ cur[q]
theorem Upto.near {l cur : List Int} {i : Nat} (u : Upto l cur i) (hi : i < l.length) : Near l cur i i :=
  ⟨u.perm, Nat.le_refl _, hi, fun p q hp hq hpq hqi _ hne => u.st p q hp hq hpq (by omega), fun q _ _ h1 h2 => by omega⟩
theorem Near.done {l cur : List Int} {i k : Nat} (n : Near l cur i k) (hk : k = 0 ∨ ∃ (h1 : k < cur.length) (h2 : k - 1 < cur.length), ¬ cur[k] < cur[k - 1]) : Upto l cur (i + 1) := by
  obtain ⟨pm, ki, il, st, up⟩ := n
  refine ⟨pm, fun p q hp hq hpq hqi => ?_⟩
  by_cases e1 : p = k
  · subst e1; exact up q hp hq hpq (by omega)
  · by_cases e2 : q = k
    · subst e2
      rcases hk with rfl | ⟨h1, h2, hn⟩
      · omega
      · rcases Nat.lt_or_ge p (q - 1) with h | h
        · have := st p (q - 1) hp h2 h (by omega) (by omega) (by omega); omega
        · have : p = q - 1 := by omega
          subst this; omega
    · exact st p q hp hq hpq (by omega) e1 e2

theorem isort_ct {h : H} {j n : Nat} {l : List Int} (hj : h.get j = some (.grow 1 (l.map (.int .i64)))) (hn : l.length = n) (hb : n ≤ 1048576) {Q : V → H → Prop} (q : ∀ l' : List Int, l'.Perm l → l'.Pairwise (· ≤ ·) → Q (.tup []) (h.set j (.grow 1 (l'.map (.int .i64))))) :
    Acalls Try.prog 103 [.sl j n 0 n none, .int .i64 0, .int .i64 n] h Q := by
  refine acalls_to Try.func103 S.slices_insertionSortOrdered_int_code S.slices_insertionSortOrdered_int_enter (Nat.le_of_ble_eq_true rfl) fun wf => ?_; simp only [S.slices_insertionSortOrdered_int]
  have hlt := wf.lt hj
  have w01 : IntKind.i64.wrap (0 + 1) = 1 := by decide
  simp
  refine loop_up (fun i t h' => ∃ cur : List Int, (t 0 = .sl j n 0 n none ∧ t 1 = .int .i64 0 ∧ t 2 = .int .i64 n ∧ t 6 = .int .i64 ((i + 1 : Nat) : Int)) ∧ h.set j (.grow 1 (cur.map (.int .i64))) = h' ∧ Upto l cur (i + 1)) (n - 1) ⟨l, by simp [show IntKind.i64.wrap 1 = 1 by decide], H.ext' rfl fun k => ?_, List.Perm.refl _, fun p q _ _ h1 h2 => by omega⟩ ?_
  · rw [H.get_set]; split
    · rename_i e; rw [e, hj]
    · rfl
  rintro i t _ hi ⟨cur, ⟨t0, t1, t2, t6⟩, rfl, u⟩ K hK
  have hcl : cur.length = n := by rw [← hn]; exact u.perm.length_eq
  by_cases hlt' : i + 1 < n
  · have hc : ((i + 1 : Nat) : Int) < n := by omega
    have hw : IntKind.i64.wrap (((i + 1 : Nat) : Int) + 1) = ((i + 1 + 1 : Nat) : Int) := by rw [wrap_i64_id (by omega) (by omega)]; omega
    obtain ⟨fi, hfi⟩ : ∃ fi : Int, fi = ((i + 1 : Nat) : Int) := ⟨_, rfl⟩
    rw [← hfi] at t6 hc hw
    simp [t2, t6, hc]
    refine loop_up (fun m t h' => ∃ cur : List Int, (t 0 = .sl j n 0 n none ∧ t 1 = .int .i64 0 ∧ t 2 = .int .i64 n ∧ t 6 = .int .i64 fi ∧ t 7 = .int .i64 ((i + 1 - m : Nat) : Int)) ∧ h.set j (.grow 1 (cur.map (.int .i64))) = h' ∧ Near l cur (i + 1) (i + 1 - m)) (i + 1) ⟨cur, by simp [t0, t1, t2, t6, hfi], rfl, u.near (by omega)⟩ ?_
    clear t0 t1 t2 t6 u hcl cur
    rintro m t _ hm ⟨cur, ⟨t0, t1, t2, t6, t7⟩, rfl, u⟩ K2 hK2
    have hcl : cur.length = n := by rw [← hn]; exact u.perm.length_eq
    obtain ⟨k, hk⟩ : ∃ k, k = i + 1 - m := ⟨_, rfl⟩
    rw [← hk] at t7 u
    have w2 : (h.set j (.grow 1 (cur.map (.int .i64)))).WF := wf.set hlt _
    have hget : (h.set j (.grow 1 (cur.map (.int .i64)))).get j = some (.grow 1 (cur.map (.int .i64))) := by simp
    have hca : cellsAt (h.set j (.grow 1 (cur.map (.int .i64)))).get j n = some (cur.map (.int .i64)) := by rw [cellsAt_of hget (by simp [hcl])]; rfl
    obtain ⟨g, hg⟩ : ∃ g, g = h.set j (.grow 1 (cur.map (.int .i64))) := ⟨_, rfl⟩
    rw [← hg] at w2 hget hca
    rw [← hg]
    by_cases hk0 : 0 < k
    · have k1 : k < cur.length := by have := u.ki; omega
      have k2 : k - 1 < cur.length := by omega
      have c1 : (0 : Int) < k := by omega
      have wm : IntKind.i64.wrap ((k : Int) - 1) = ((k - 1 : Nat) : Int) := by rw [wrap_i64_id (by omega) (by omega)]; omega
      have ix : ∀ x : Nat, x < n → indexAddrV 1 (.sl j n 0 n none) (.int .i64 (x : Int)) = some (.ptr j n x) := fun x hx => by
        rw [indexAddrV_sl, if_pos (by omega)]; simp
      simp
      refine dreg_quiet w2 ?_
      simp [t0, t1, t7, hk0, wm, ix k (by omega), ix (k - 1) (by omega), hca, k1, k2]
      refine qcall_of (v := .bool (decide (cur[k] < cur[k - 1]))) rfl (fun h2 g => less_ct) ?_
      simp
      refine cond_split ?_ ?_
      · intro e
        simp only [decide_eq_true_eq] at e
        have ki := u.ki
        simp
        refine dreg_of ?_
        have ps : putCells (cur.map (V.int .i64)) k [.int .i64 cur[k - 1]] = (cur.set k cur[k - 1]).map (V.int .i64) := map_set _ _ _ _ k1
        have ps2 : putCells ((cur.set k cur[k - 1]).map (V.int .i64)) (k - 1) [.int .i64 cur[k]] = ((cur.set k cur[k - 1]).set (k - 1) cur[k]).map (V.int .i64) := map_set _ _ _ _ (by simpa using k2)
        simp [t0, t7, wm, ix k (by omega), ix (k - 1) (by omega), hca, hget, hcl, show k < n by omega, show k - 1 < n by omega, -putCells, -List.map_set, ps, ps2, show k + 1 ≤ n by omega, show k - 1 + 1 ≤ n by omega]
        refine hK2 _ _ (by omega) ⟨(cur.set k cur[k - 1]).set (k - 1) cur[k], by simp [t0, t1, t2, t6, show i + 1 - (m + 1) = k - 1 by omega], ?_, ?_⟩
        · rw [hg]; simp
        · rw [show i + 1 - (m + 1) = k - 1 by omega]
          exact u.swap hk0 k1 k2 e
      · intro e
        simp only [decide_eq_false_iff_not] at e
        simp [t6, hw]
        exact hK _ _ (by omega) ⟨cur, by simp [t0, t1, t2], hg.symm, u.done (.inr ⟨k1, k2, e⟩)⟩
    · have hk00 : k = 0 := by omega
      simp
      refine dreg_quiet w2 ?_
      simp [t1, t7, hk00, t6, hw]
      exact hK _ _ (by omega) ⟨cur, by simp [t0, t1, t2], hg.symm, u.done (.inl hk00)⟩
  · have hc : ¬ ((i : Int) + 1 < n) := by omega
    simp [t2, t6, hc]
    refine q cur u.perm ?_
    rw [List.pairwise_iff_getElem]
    intro a b ha hb' hab
    exact u.st a b ha hb' hab (by omega)
theorem sort_ct {h : H} {j n : Nat} {l : List Int} (hj : h.get j = some (.grow 1 (l.map (.int .i64)))) (hn : l.length = n) (hb : n ≤ 12) {Q : V → H → Prop} (q : ∀ l' : List Int, l'.Perm l → l'.Pairwise (· ≤ ·) → Q (.tup []) (h.set j (.grow 1 (l'.map (.int .i64))))) :
    Acalls Try.prog 82 [.sl j n 0 n none] h Q := by
  obtain ⟨m, hm, _, hl⟩ := len64_ct (v := n) (by omega)
  refine acalls_to Try.func82 S.slices_Sort_int_int_code S.slices_Sort_int_int_enter (Nat.le_of_ble_eq_true rfl) fun wf => ?_; simp only [S.slices_Sort_int_int]
  have w1 : IntKind.u64.wrap (n : Int) = n := by simp [IntKind.wrap, IntKind.bits, IntKind.signed]; omega
  have h12 : (n : Int) ≤ 12 := by omega
  have w0 : IntKind.i64.wrap ((n : Int) - 0) = n := by rw [wrap_i64_id (by omega) (by omega)]; omega
  simp [w1]
  refine (?_ : Pure Try.prog 95 [.int .u64 n] h (.int .i64 m)) _ ?_
  · refine pure_to Try.func95 S.math_bits_Len_code S.math_bits_Len_enter rfl (Nat.le_of_ble_eq_true rfl) fun wf => ?_; simp only [S.math_bits_Len]
    simp
    refine hl _ _ ?_
    simp
  simp
  refine (?_ : ∀ Q : V → H → Prop, (∀ l' : List Int, l'.Perm l → l'.Pairwise (· ≤ ·) → Q (.tup []) (h.set j (.grow 1 (l'.map (.int .i64))))) → Acalls Try.prog 94 [.sl j n 0 n none, .int .i64 0, .int .i64 n, .int .i64 m] h Q) _ fun l' h1 h2 => ?_
  · intro Q q
    refine acalls_to Try.func94 S.slices_pdqsortOrdered_int_code S.slices_pdqsortOrdered_int_enter (Nat.le_of_ble_eq_true rfl) fun wf => ?_; simp only [S.slices_pdqsortOrdered_int]
    simp
    refine loop_up (fun i t h' => (t 0 = .sl j n 0 n none ∧ t 1 = .int .i64 0 ∧ t 2 = .int .i64 n) ∧ h = h') 0 ⟨by simp, rfl⟩ ?_
    rintro i t _ _ ⟨⟨t0, t1, t2⟩, rfl⟩ K _
    simp [t0, t1, t2, wrap_nat (n := n) (by omega), h12]
    refine isort_ct hj hn (by omega) fun l' h1 h2 => ?_
    simp
    exact q l' h1 h2
  · simp
    exact q l' h1 h2
end Go.Am

/-
  Contracts: the entries of a capability.
-/
namespace Go.Am
open Go.Proofs

set_option maxRecDepth 100000
theorem val_lt1 {l : List UInt8} (h : l.length ≤ 1) : val l < 256 := Nat.lt_of_lt_of_le (val_lt _ l rfl) (by
  have := Nat.pow_le_pow_right (show 0 < 256 by omega) h; simpa using this)
theorem val_lt2 {l : List UInt8} (h : l.length ≤ 2) : val l < 65536 := Nat.lt_of_lt_of_le (val_lt _ l rfl) (by
  have := Nat.pow_le_pow_right (show 0 < 256 by omega) h; simpa using this)
theorem val_lt4 {l : List UInt8} (h : l.length ≤ 4) : val l < 4294967296 := Nat.lt_of_lt_of_le (val_lt _ l rfl) (by
  have := Nat.pow_le_pow_right (show 0 < 256 by omega) h; simpa using this)
theorem u16_id {n : Nat} (h : n < 65536) : IntKind.u16.wrap (n : Int) = n := by simp [IntKind.wrap, IntKind.bits, IntKind.signed]; omega
theorem u8_id {n : Nat} (h : n < 256) : IntKind.u8.wrap (n : Int) = n := by simp [IntKind.wrap, IntKind.bits, IntKind.signed]; omega
theorem u32_id {n : Nat} (h : n < 4294967296) : IntKind.u32.wrap (n : Int) = n := by simp [IntKind.wrap, IntKind.bits, IntKind.signed]; omega
/-- The family of three bytes. -/
def fam3 (l : List UInt8) : Int := famB (val (l.take 2)) (val ((l.drop 2).take 1))
theorem famOf_ct {h : H} {i : Nat} {l : List UInt8} (r : h.get i = some (rdr l)) (hl : 3 ≤ l.length) {Q : V → H → Prop} (q : Q (.int .i64 (fam3 l)) (h.set i (rdr (l.drop 3)))) : Acalls Try.prog 81 [.ptr i 2 0] h Q := by
  refine acalls_to Try.func81 S.open_famOf_code S.open_famOf_enter (Nat.le_of_ble_eq_true rfl) fun wf => ?_; simp only [S.open_famOf]
  have w1 := u16_id (val_lt2 (l := l.take 2) (by simp; omega))
  have w2 := u8_id (val_lt1 (l := (l.drop 2).take 1) (by simp; omega))
  simp
  refine number_yes r 2 rfl (by omega) (by omega) ?_
  simp
  refine number_yes (l := l.drop 2) (by simp) 1 rfl (by omega) (by simp; omega) ?_
  simp [w1, w2]
  refine fam_ct _ ?_
  simp
  exact q
/-- What is told of entries: an object of six cells is turned. -/
def Tells (fv : V) (j : Nat) (step : List V → Int → Nat → List V) : Prop := ∀ h f b cs, h.get j = some (.row cs) → cs.length = 6 → 1 ≤ f → f ≤ 5 → b < 256 → ∀ Q : V → H → Prop, Q (.tup []) (h.set j (.row (step cs f b))) → callK Try.prog fv [.int .i64 f, .int .u64 (b : Nat)] h Q
def step64 (cs : List V) (f : Int) (b : Nat) : List V := cs.set f.toNat (.int .i64 ((1 + b / 128 : Nat) : Int))
def step69 (cs : List V) (f : Int) (b : Nat) : List V := if 1 ≤ b ∧ b ≤ 3 then cs.set f.toNat (.int .u64 (b : Nat)) else cs
theorem put_one (cs : List V) (k : Nat) (x : V) (hk : k < cs.length) : putCells cs k [x] = cs.set k x := by
  rw [List.set_eq_take_append_cons_drop, if_pos hk]; simp [putCells]
theorem tells64 (j : Nat) : Tells (.func (.func 84) [] [.ptr j 6 0]) j step64 := by
  intro h f b cs hj hc h1 h5 hb Q q
  simp
  refine (?_ : Acalls Try.prog 84 [.int .i64 f, .int .u64 (b : Nat), .ptr j 6 0] h Q)
  refine acalls_to Try.func84 S.open_capability_1_code S.open_capability_1_enter (Nat.le_of_ble_eq_true rfl) fun wf => ?_; simp only [S.open_capability_1]
  obtain ⟨k, rfl⟩ : ∃ k : Nat, f = k := ⟨f.toNat, by omega⟩
  have sh : ((b : Int).fdiv (2 ^ min 7 IntKind.u64.bits)) = ((b / 128 : Nat) : Int) := by
    have := shr_n b 7 (by omega); simpa using this
  have w1 : IntKind.i64.wrap ((b / 128 : Nat) : Int) = ((b / 128 : Nat) : Int) := wrap_nat (by omega)
  have w2 : IntKind.i64.wrap (1 + ((b / 128 : Nat) : Int)) = ((1 + b / 128 : Nat) : Int) := by rw [wrap_i64_id (by omega) (by omega)]; omega
  have k6 : (k : Int) < 6 := by omega
  have k6' : k < 6 := by omega
  simp only [step64, Int.toNat_natCast] at q
  have k5 : k ≤ 5 := by omega
  simp [sh, k6, k6', k5, hj, hc, put_one, -putCells]
  have w3 : IntKind.i64.wrap (1 + (b : Int) / 128) = 1 + (b : Int) / 128 := wrap_i64_id (by omega) (by omega)
  have q' : Q (.tup []) (h.set j (.row (cs.set k (.int .i64 (1 + (b : Int) / 128))))) := by simpa using q
  have w4 : IntKind.i64.wrap ((b : Int) / 128) = (b : Int) / 128 := wrap_i64_id (by omega) (by omega)
  rw [w4, w3]; exact q'
theorem tells69 (j : Nat) : Tells (.func (.func 85) [] [.ptr j 6 0]) j step69 := by
  intro h f b cs hj hc h1 h5 hb Q q
  simp
  refine (?_ : Acalls Try.prog 85 [.int .i64 f, .int .u64 (b : Nat), .ptr j 6 0] h Q)
  refine acalls_to Try.func85 S.open_capability_2_code S.open_capability_2_enter (Nat.le_of_ble_eq_true rfl) fun wf => ?_; simp only [S.open_capability_2]
  obtain ⟨k, rfl⟩ : ∃ k : Nat, f = k := ⟨f.toNat, by omega⟩
  have k6 : (k : Int) < 6 := by omega
  have k6' : k < 6 := by omega
  have k5 : k ≤ 5 := by omega
  simp only [step69, Int.toNat_natCast] at q
  have self : h.set j (.row cs) = h := H.ext' rfl fun i => by
    rw [H.get_set]; split
    · rename_i e; rw [e, hj]
    · rfl
  by_cases b1 : 1 ≤ b
  · by_cases b3 : b ≤ 3
    · rw [if_pos ⟨b1, b3⟩] at q
      simp [show (1 : Int) ≤ b by omega, show (b : Int) ≤ 3 by omega, k6, k6', k5, hj, hc, put_one, -putCells]
      exact q
    · rw [if_neg (by omega), self] at q
      simp [show (1 : Int) ≤ b by omega, show ¬ (b : Int) ≤ 3 by omega]
      exact q
  · rw [if_neg (by omega), self] at q
    simp [show ¬ (1 : Int) ≤ b by omega]
    exact q

/-- The entries of families that there are. -/
def ents : List UInt8 → List (Int × Nat)
  | a :: b :: c :: d :: l => if 0 < fam3 [a, b, c] then (fam3 [a, b, c], d.toNat) :: ents l else ents l
  | _ => []
theorem fam3_take (l : List UInt8) : fam3 (l.take 3) = fam3 l := by
  match l with
  | [] => rfl
  | [a] => rfl
  | [a, b] => rfl
  | a :: b :: c :: l => rfl
theorem entries_ct {h : H} {i j : Nat} {l : List UInt8} {cs : List V} {fv : V} {step : List V → Int → Nat → List V} (r : h.get i = some (rdr l)) (hj : h.get j = some (.row cs)) (hij : i ≠ j) (hc : cs.length = 6) (hstep : ∀ cs f b, (step cs f b).length = cs.length) (ht : Tells fv j step) (hl : l.length % 4 = 0) {Q : V → H → Prop}
    (q : Q (.tup []) ((h.set i (rdr [])).set j (.row ((ents l).foldl (fun cs x => step cs x.1 x.2) cs)))) : Acalls Try.prog 83 [.ptr i 2 0, fv] h Q := by
  refine acalls_to Try.func83 S.open_entries_code S.open_entries_enter (Nat.le_of_ble_eq_true rfl) fun wf => ?_; simp only [S.open_entries]
  have hli := wf.lt r
  have hlj := wf.lt hj
  simp
  refine loopA_of (fun k t h' => ∃ l' cs', l'.length = k ∧ l'.length % 4 = 0 ∧ cs'.length = 6 ∧ (t 0 = .ptr i 2 0 ∧ t 1 = fv) ∧ (h.set i (rdr l')).set j (.row cs') = h' ∧ (ents l').foldl (fun cs x => step cs x.1 x.2) cs' = (ents l).foldl (fun cs x => step cs x.1 x.2) cs) (n := l.length) ⟨l, cs, rfl, hl, hc, by simp, H.ext' rfl fun k => ?_, rfl⟩ ?_
  · rw [H.get_set, H.get_set]; split
    · rename_i e; rw [e, hj]
    · split
      · rename_i e; rw [e, r]
      · rfl
  rintro k t _ ⟨l', cs', hk, h4, hc', ⟨t0, t1⟩, rfl, hac⟩ N hN
  have r' : ((h.set i (rdr l')).set j (.row cs')).get i = some (rdr l') := by simp [hij]
  simp [t0]
  refine left_ct r' _ ?_
  match l', h4, hk with
  | [], _, _ =>
    simp
    simp only [ents, List.foldl_nil] at hac
    subst hac
    exact q
  | a :: b :: c :: d :: l2, h4, hk =>
    have hp : (0 : Int) < ((a :: b :: c :: d :: l2).length : Int) := by simp; omega
    have h4' : l2.length % 4 = 0 := by simp at h4; omega
    have hp' : (0 : Int) < (l2.length : Int) + 1 + 1 + 1 + 1 := by omega
    simp [hp', t0]
    refine famOf_ct r' (by simp) ?_
    have f3 : fam3 (a :: b :: c :: d :: l2) = fam3 [a, b, c] := by rw [← fam3_take]; rfl
    have dd : (a :: b :: c :: d :: l2).drop 3 = d :: l2 := rfl
    have hs : ((h.set i (rdr (a :: b :: c :: d :: l2))).set j (.row cs')).set i (rdr (d :: l2)) = (h.set i (rdr (d :: l2))).set j (.row cs') := H.ext' rfl fun k => by
      simp only [H.get_set]; split <;> split <;> simp_all
    rw [f3, dd, hs]
    simp [t0]
    refine number_yes (l := d :: l2) (by simp [hij]) 1 rfl (by omega) (by simp) ?_
    have hs2 : ((h.set i (rdr (d :: l2))).set j (.row cs')).set i (rdr l2) = (h.set i (rdr l2)).set j (.row cs') := H.ext' rfl fun k => by
      simp only [H.get_set]; split <;> split <;> simp_all
    have d1 : (d :: l2).drop 1 = l2 := rfl
    have v1 : val ((d :: l2).take 1) = d.toNat := by simp [val]
    rw [d1, hs2, v1]
    have bd := famB_bd (val ([a, b, c].take 2)) (val (([a, b, c].drop 2).take 1))
    simp
    by_cases hf : 0 < fam3 [a, b, c]
    · simp [hf, t1]
      refine ht _ _ _ cs' (by simp) hc' (by omega) (by unfold fam3; omega) (d.toNat_lt) _ ?_
      simp
      refine hN (l2.length) _ _ (by simp at hk; omega) ⟨l2, step cs' (fam3 [a, b, c]) d.toNat, rfl, h4', by rw [hstep, hc'], by simp [t0, t1], rfl, ?_⟩
      rw [← hac]; simp only [ents]; rw [if_pos hf]; rfl
    · simp [hf]
      refine hN (l2.length) _ _ (by simp at hk; omega) ⟨l2, cs', rfl, h4', hc', by simp [t0, t1], rfl, ?_⟩
      rw [← hac]; simp only [ents]; rw [if_neg hf]
  | [_], h4, _ => simp at h4
  | [_, _], h4, _ => simp at h4
  | [_, _, _], h4, _ => simp at h4
end Go.Am

/-
  Plain facts of rising lists; the program's reset.
-/
namespace Go.Am
open Go.Proofs

theorem rising_len : ∀ (l : List Int) (last : Int), rising last l = true → last ≤ 5 → (l.length : Int) + last ≤ 5
  | [], last, _, h5 => by simpa using h5
  | f :: l, last, h, _ => by
    simp [rising] at h
    have := rising_len l f h.2 (by omega)
    simp; omega
theorem Gl.lower {h : H} {lo lo' sz : Nat} {v : V} {es : List (List V)} (g : Gl h lo sz v es) (hl : lo' ≤ lo) : Gl h lo' sz v es := by
  rcases g with g | ⟨a, j, b, g⟩
  · exact .inl g
  · exact .inr ⟨a, j, by omega, g⟩
theorem rising_mem : ∀ (l : List Int) (last : Int), rising last l = true → ∀ x ∈ l, last < x
  | [], _, _, x, hx => by cases hx
  | f :: l, last, h, x, hx => by
    simp [rising] at h
    rcases List.mem_cons.1 hx with rfl | hx
    · exact h.1.1
    · have := rising_mem l f h.2 x hx; omega
theorem rising_pair : ∀ (l : List Int) (last : Int), rising last l = true → l.Pairwise (· < ·)
  | [], _, _ => .nil
  | f :: l, last, h => by
    simp [rising] at h
    exact .cons (fun x hx => rising_mem l f h.2 x hx) (rising_pair l f h.2)
theorem pair_ext : ∀ (a b : List Int), a.Pairwise (· < ·) → b.Pairwise (· < ·) → (∀ x, x ∈ a ↔ x ∈ b) → a = b
  | [], [], _, _, _ => rfl
  | [], y :: b, _, _, e => by have := (e y).2 (by simp); cases this
  | x :: a, [], _, _, e => by have := (e x).1 (by simp); cases this
  | x :: a, y :: b, ha, hb, e => by
    cases ha with
    | cons ha1 ha2 =>
      cases hb with
      | cons hb1 hb2 =>
        have hxy : x = y := by
          have h1 := (e x).1 (by simp)
          have h2 := (e y).2 (by simp)
          rcases List.mem_cons.1 h1 with h1 | h1
          · exact h1
          · rcases List.mem_cons.1 h2 with h2 | h2
            · exact h2.symm
            · have := hb1 x h1; have := ha1 y h2; omega
        subst hxy
        refine congrArg (x :: ·) (pair_ext a b ha2 hb2 fun z => ⟨fun hz => ?_, fun hz => ?_⟩)
        · rcases List.mem_cons.1 ((e z).1 (by simp [hz])) with rfl | h
          · exact absurd (ha1 z hz) (by omega)
          · exact h
        · rcases List.mem_cons.1 ((e z).2 (by simp [hz])) with rfl | h
          · exact absurd (hb1 z hz) (by omega)
          · exact h
def fr (i : Nat) : List Int := (List.range i).map fun k => ((k + 1 : Nat) : Int)
theorem fr_succ (i : Nat) : fr (i + 1) = fr i ++ [((i + 1 : Nat) : Int)] := by simp [fr, List.range_succ]
theorem mem_fr {i : Nat} {x : Int} : x ∈ fr i ↔ 1 ≤ x ∧ x ≤ i := by
  simp only [fr, List.mem_map, List.mem_range]
  constructor
  · rintro ⟨k, hk, rfl⟩; omega
  · rintro ⟨h1, h2⟩; exact ⟨x.toNat - 1, by omega, by omega⟩
theorem fr_pair (i : Nat) : (fr i).Pairwise (· < ·) := by
  induction i with
  | zero => simp [fr]
  | succ i ih =>
    rw [fr_succ, List.pairwise_append]
    refine ⟨ih, by simp, fun x hx y hy => ?_⟩
    have := (mem_fr.1 hx).2
    simp at hy; omega
theorem rising_le : ∀ (l : List Int) (last : Int), rising last l = true → ∀ x ∈ l, x ≤ 5
  | [], _, _, x, hx => by cases hx
  | f :: l, last, h, x, hx => by
    simp [rising] at h
    rcases List.mem_cons.1 hx with rfl | hx
    · exact h.1.2
    · exact rising_le l f h.2 x hx
theorem reset_ct {h : H} {s : Int} : Pure Try.prog 58 [.int .u8 s] h (.agg [.int .i64 3, .int .u8 2, .int .u8 s]) := by
  refine pure_to Try.func58 S.open_reset_code S.open_reset_enter rfl (Nat.le_of_ble_eq_true rfl) fun wf => ?_; simp only [S.open_reset]
  simp
theorem rreset_ct {h : H} {s : Int} : Pure Try.prog 63 [.int .u8 s] h (.agg [.int .i64 3, .int .u8 2, .int .u8 s]) := by
  refine pure_to Try.func63 S.Href10_reset_code S.Href10_reset_enter rfl (Nat.le_of_ble_eq_true rfl) fun wf => ?_; simp only [S.Href10_reset]
  simp
end Go.Am

/-
  Contracts: a capability, put into an open.
-/
namespace Go.Am
open Go.Proofs

set_option maxRecDepth 100000
def withB (l : List Int) (f : Int) : List Int := (fr 5).filter fun x => x == f || l.contains x
def FamOk (l : List Int) : Prop := l.Pairwise (· < ·) ∧ ∀ x ∈ l, 1 ≤ x ∧ x ≤ 5
theorem withB_ok (l : List Int) (f : Int) : FamOk (withB l f) := ⟨(fr_pair 5).filter _, fun x hx => by
  have := (List.mem_filter.1 hx).1; have := mem_fr.1 this; omega⟩
theorem withB_has {l : List Int} (h : FamOk l) {f : Int} (hf : l.contains f = true) : withB l f = l := by
  refine pair_ext _ _ ((fr_pair 5).filter _) h.1 fun x => ?_
  simp only [withB, List.mem_filter, mem_fr, Bool.or_eq_true, beq_iff_eq, List.contains_iff_mem] at hf ⊢
  constructor
  · rintro ⟨_, rfl | hx⟩
    · exact hf
    · exact hx
  · intro hx
    have := h.2 x hx
    exact ⟨⟨by omega, by omega⟩, .inr hx⟩
theorem withB_sort {l : List Int} (h : FamOk l) {f : Int} (h1 : 1 ≤ f) (h5 : f ≤ 5) (hf : l.contains f = false) {l' : List Int} (hp : l'.Perm (l ++ [f])) (hs : l'.Pairwise (· ≤ ·)) : l' = withB l f := by
  have hn : f ∉ l := by simpa using hf
  have nd : l'.Nodup := by
    refine hp.nodup_iff.2 ?_
    rw [List.nodup_append]
    refine ⟨h.1.imp (fun {a b} hab => by omega), by simp, fun a ha b hb e => ?_⟩
    simp at hb; subst hb; subst e; exact hn ha
  refine pair_ext _ _ ?_ ((fr_pair 5).filter _) fun x => ?_
  · exact (List.pairwise_and_iff.2 ⟨hs, nd⟩).imp fun {a b} ⟨h1, h2⟩ => by omega
  · rw [hp.mem_iff]
    simp only [withB, List.mem_filter, mem_fr, Bool.or_eq_true, beq_iff_eq, List.contains_iff_mem, List.mem_append, List.mem_singleton]
    constructor
    · rintro (hx | rfl)
      · have := h.2 x hx; exact ⟨⟨by omega, by omega⟩, .inr hx⟩
      · exact ⟨⟨by omega, by omega⟩, .inl rfl⟩
    · rintro ⟨_, rfl | hx⟩
      · exact .inr rfl
      · exact .inl hx
theorem FamOk.len {l : List Int} (h : FamOk l) : l.length ≤ 5 := by
  have e : l = (fr 5).filter (fun x => l.contains x) := by
    refine pair_ext _ _ h.1 ((fr_pair 5).filter _) fun x => ?_
    simp only [List.mem_filter, mem_fr, List.contains_iff_mem]
    constructor
    · intro hx; have := h.2 x hx; exact ⟨⟨by omega, by omega⟩, hx⟩
    · exact fun hx => hx.2
  rw [e]
  exact Nat.le_trans (List.length_filter_le _ _) (by simp [fr])

/-- Six numbers, of the entries. -/
def arrB (w : Nat → Option Nat) (es : List (Int × Nat)) : List Nat := es.foldl (fun ks x => match w x.2 with | some v => ks.set x.1.toNat v | none => ks) [0, 0, 0, 0, 0, 0]
def w64 (b : Nat) : Option Nat := some (1 + b / 128)
def w69 (b : Nat) : Option Nat := if 1 ≤ b ∧ b ≤ 3 then some b else none
def keptOf (ks : List Nat) (n : Nat) : List Rest := (List.range n).filterMap fun i => if 0 < ks.getD i 0 then some ⟨(i : Int), ks.getD i 0 == 2⟩ else none
def addsOf (ks : List Nat) (n : Nat) : List Add := (List.range n).filterMap fun i => if 0 < ks.getD i 0 then some ⟨(i : Int), ks.getD i 0 &&& 2 != 0, ks.getD i 0 &&& 1 != 0⟩ else none
def capS (o : Opn) (code : Nat) (s : List UInt8) : Except Nat Opn :=
  if code = 1 then
    if s.length = 4 then .ok (if 0 < fam3 (s.take 2 ++ s.drop 3) then { o with fams := withB o.fams (fam3 (s.take 2 ++ s.drop 3)) } else o) else .error 0
  else if code = 2 then .ok { o with refresh := true }
  else if code = 64 then
    if s.length < 2 ∨ s.length % 4 ≠ 2 then .error 0
    else .ok { o with hasgr := true, again := decide (32768 ≤ val (s.take 2)), time := ((val (s.take 2) % 4096 : Nat) : Int), kept := keptOf (arrB w64 (ents (s.drop 2))) 6 }
  else if code = 65 then
    if s.length = 4 then (if val s = 0 then .error 2 else .ok { o with four := true, asn := (val s : Nat) }) else .error 0
  else if code = 69 then
    if s.length % 4 = 0 then .ok { o with adds := addsOf (arrB w69 (ents s)) 6 } else .error 0
  else .ok o

def oR (o : Opn) : List V → List V
  | [f, a, k] => opnC o f a k
  | _ => []
def oL (o : Opn) (f a k : V) : List (Nat × V × List (List V)) := [(1, f, o.fams.map fun x => [.int .i64 x]), (3, a, o.adds.map addC), (2, k, o.kept.map restC)]
def fineV : V := .agg [.int .i64 0, .int .u8 0, .int .u8 0]
def badV (e : Nat) : V := .agg [.int .i64 3, .int .u8 2, .int .u8 (e : Nat)]
/-- What a call may turn. -/
structure Keeps (h h' : H) (own own' : Nat → Prop) : Prop where
  wf : h'.WF
  next : h.next ≤ h'.next
  old : ∀ j, j < h.next → ¬ own j → h'.get j = h.get j
  own : ∀ j, own' j → own j ∨ h.next ≤ j
def owns (q : Nat) (f a k : V) (j : Nat) : Prop := j = q ∨ j ∈ f.ids ∨ j ∈ a.ids ∨ j ∈ k.ids
theorem Rws.put {base h : H} {s lo : Nat} {r r' : List V → List V} {ls ls' : List (Nat × V × List (List V))} (X : Rws base h s lo r ls) (hs : s < lo) (hlo : lo = base.next) (gl : ∀ x ∈ ls', Gl h lo x.1 x.2.1 x.2.2) (dj : ls'.Pairwise fun a b => ∀ j ∈ a.2.1.ids, j ∉ b.2.1.ids) :
    Rws base (h.set s (.row (r' (ls'.map fun x => x.2.1)))) s lo r' ls' := by
  have hn := X.ge.1
  simp only [H.next_set] at hn
  exact ⟨X.ge.set_same, X.wf.set (by omega) _, fun x hx => (gl x hx).keep (by simp) (fun j hj => by rw [H.get_set, if_neg (by have := ((gl x hx).lo j hj).1; omega)]), dj⟩
theorem Rws.gl3 {base h : H} {q lo : Nat} {r : List V → List V} {o : Opn} {f a k : V} (X : Rws base h q lo r (oL o f a k)) : Gl h lo 1 f (o.fams.map fun x => [.int .i64 x]) ∧ Gl h lo 3 a (o.adds.map addC) ∧ Gl h lo 2 k (o.kept.map restC) ∧ (∀ j ∈ f.ids, j ∉ a.ids) ∧ (∀ j ∈ f.ids, j ∉ k.ids) ∧ (∀ j ∈ a.ids, j ∉ k.ids) := by
  have d := X.dj
  simp only [oL, List.pairwise_cons, List.mem_cons, List.not_mem_nil, or_false, forall_eq_or_imp, forall_eq] at d
  exact ⟨X.gl (1, f, _) (by simp [oL]), X.gl (3, a, _) (by simp [oL]), X.gl (2, k, _) (by simp [oL]), d.1.1, d.1.2, d.2.1⟩
theorem Rws.mk3 {base h : H} {q lo : Nat} {o : Opn} {f a k : V} (ge : Ge (base.set q (.row (opnC o f a k))) h) (wf : h.WF) (g1 : Gl h lo 1 f (o.fams.map fun x => [.int .i64 x])) (g2 : Gl h lo 3 a (o.adds.map addC)) (g3 : Gl h lo 2 k (o.kept.map restC))
    (d1 : ∀ j ∈ f.ids, j ∉ a.ids) (d2 : ∀ j ∈ f.ids, j ∉ k.ids) (d3 : ∀ j ∈ a.ids, j ∉ k.ids) : Rws base h q lo (oR o) (oL o f a k) := by
  refine ⟨ge, wf, fun x hx => ?_, ?_⟩
  · simp only [oL, List.mem_cons, List.not_mem_nil, or_false] at hx
    rcases hx with rfl | rfl | rfl
    · exact g1
    · exact g2
    · exact g3
  · simp only [oL, List.pairwise_cons, List.mem_cons, List.not_mem_nil, or_false, forall_eq_or_imp, forall_eq]
    exact ⟨⟨d1, d2⟩, d3, fun _ h => absurd h (by simp), List.Pairwise.nil⟩
/-- The open's object. -/
theorem Rws.at3 {base h : H} {q lo : Nat} {o : Opn} {f a k : V} (X : Rws base h q lo (oR o) (oL o f a k)) (hq : q < base.next) : h.get q = some (.row (opnC o f a k)) := X.ge.get_set hq

/-- Another object is turned. -/
theorem Rws.turn {base h : H} {s lo : Nat} {r : List V → List V} {ls : List (Nat × V × List (List V))} (X : Rws base h s lo r ls) {i : Nat} (h1 : base.next ≤ i) (h2 : i < h.next) (h3 : i ≠ s) (h4 : ∀ x ∈ ls, i ∉ x.2.1.ids) (ob : O) : Rws base (h.set i ob) s lo r ls :=
  ⟨X.ge.set (by simpa using h1) ob, X.wf.set h2 _, fun x hx => (X.gl x hx).keep (by simp) (fun j hj => by rw [H.get_set, if_neg (fun e => h4 x hx (by rw [← e]; exact hj))]), X.dj⟩
/-- A list of it is sorted. -/
theorem Rws.sorted {base h : H} {q lo : Nat} {o : Opn} {f a k : V} {F l' : List Int} (X : Rws base h q lo (oR o) [(1, f, F.map fun x => [.int .i64 x]), (3, a, o.adds.map addC), (2, k, o.kept.map restC)]) (hq : q < lo) (hlo : lo = base.next) (hp : l'.Perm F) (hF : F ≠ []) :
    ∃ j, f = .sl j F.length 0 F.length none ∧ h.get j = some (.grow 1 (F.map (.int .i64))) ∧ lo ≤ j ∧ j < h.next ∧ Rws base (h.set j (.grow 1 (l'.map (.int .i64)))) q lo (oR { o with fams := l' }) (oL { o with fams := l' } f a k) := by
  have Y : Rws base h q lo (oR { o with fams := F }) (oL { o with fams := F } f a k) := X
  obtain ⟨g1, g2, g3, d1, d2, d3⟩ := Y.gl3
  rcases g1 with ⟨e, _⟩ | ⟨hne, j, b1, b2, rfl, b3⟩
  · exact absurd (by simpa using e) hF
  · have hl := hp.length_eq
    rw [flat_ints] at b3
    refine ⟨j, by simp [flat_ints], b3, b1, b2, Rws.mk3 ?_ (X.wf.set b2 _) (.inr ⟨?_, j, b1, by simpa using b2, by simp [flat_ints, hl], by simp [flat_ints]⟩) (g2.keep (by simp) (fun i hi => ?_)) (g3.keep (by simp) (fun i hi => ?_)) d1 d2 d3⟩
    · have : Ge (base.set q (.row (opnC o (.sl j (F.map fun x => [V.int .i64 x]).flatten.length 0 (F.map fun x => [V.int .i64 x]).length none) a k))) h := X.ge
      refine ⟨by simpa using this.1, fun i hi => ?_⟩
      simp only [H.next_set] at hi
      rw [H.get_set, if_neg (by omega)]
      exact this.2 i hi
    · intro e
      have : l' = [] := by simpa using e
      rw [this] at hl
      exact hF (List.length_eq_zero_iff.1 hl.symm)
    · rw [H.get_set, if_neg (fun e => d1 j (by simp [V.ids]) (by rw [← e]; exact hi))]
    · rw [H.get_set, if_neg (fun e => d2 j (by simp [V.ids]) (by rw [← e]; exact hi))]
theorem not_owns {base h : H} {q lo : Nat} {r : List V → List V} {o : Opn} {f a k : V} (X : Rws base h q lo r (oL o f a k)) (hq : q < h.next) {i : Nat} (hi : h.next ≤ i) : ¬ owns q f a k i := by
  obtain ⟨g1, g2, g3, _⟩ := X.gl3
  rintro (rfl | h | h | h)
  · omega
  · have := (g1.lo i h).2; omega
  · have := (g2.lo i h).2; omega
  · have := (g3.lo i h).2; omega
theorem oL_ids {o : Opn} {f a k : V} {q i : Nat} (h : ¬ owns q f a k i) : ∀ x ∈ oL o f a k, i ∉ x.2.1.ids := by
  intro x hx hi
  simp only [oL, List.mem_cons, List.not_mem_nil, or_false] at hx
  rcases hx with rfl | rfl | rfl
  · exact h (.inr (.inl hi))
  · exact h (.inr (.inr (.inl hi)))
  · exact h (.inr (.inr (.inr hi)))
theorem and_15 {n : Nat} (h : n < 65536) : intV .and .u64 (n : Int) 32768 = some (.int .u64 (if 32768 ≤ n then 32768 else 0)) := by
  show some (V.int .u64 (IntKind.u64.wrap ((BitVec.ofInt 64 (n : Int) &&& BitVec.ofInt 64 32768).toNat : Int))) = _
  have h1 : (BitVec.ofInt 64 (n : Int)).toNat = n := by simp; omega
  have h2 : (BitVec.ofInt 64 32768).toNat = 2 ^ 15 := by decide
  have tb : n.testBit 15 = decide (32768 ≤ n) := by
    rw [Nat.testBit_eq_decide_div_mod_eq]
    by_cases e : 32768 ≤ n
    · have : n / 2 ^ 15 % 2 = 1 := by omega
      simp [this, e]
    · have : n / 2 ^ 15 % 2 = 0 := by omega
      simp [this, e]
  have key : n &&& 2 ^ 15 = if 32768 ≤ n then 2 ^ 15 else 0 := by
    apply Nat.eq_of_testBit_eq
    intro i
    rw [Nat.testBit_and, Nat.testBit_two_pow]
    by_cases hi : 15 = i
    · subst hi
      rw [tb]
      split
      · rename_i e; rw [Nat.testBit_two_pow]; simp [e]
      · rename_i e; simp [e]
    · split
      · rw [Nat.testBit_two_pow]; simp [hi]
      · simp [hi]
  rw [BitVec.toNat_and, h1, h2, key]
  split
  · rw [u64_id (by decide)]; rfl
  · rw [u64_id (by decide)]; rfl
theorem and_12 {n : Nat} (h : n < 65536) : intV .and .u64 (n : Int) 4095 = some (.int .u64 ((n % 4096 : Nat) : Int)) := by
  show some (V.int .u64 (IntKind.u64.wrap ((BitVec.ofInt 64 (n : Int) &&& BitVec.ofInt 64 4095).toNat : Int))) = _
  have h1 : (BitVec.ofInt 64 (n : Int)).toNat = n := by simp; omega
  have h2 : (BitVec.ofInt 64 4095).toNat = 2 ^ 12 - 1 := by decide
  rw [BitVec.toNat_and, h1, h2, Nat.and_two_pow_sub_one_eq_mod, u64_id (by omega)]
theorem fold64 : ∀ (es : List (Int × Nat)) (ks : List Nat), es.foldl (fun cs x => step64 cs x.1 x.2) (ks.map fun v => V.int .i64 (v : Nat)) = (es.foldl (fun ks x => match w64 x.2 with | some v => ks.set x.1.toNat v | none => ks) ks).map fun v => V.int .i64 (v : Nat)
  | [], _ => rfl
  | x :: es, ks => by
    rw [List.foldl_cons, List.foldl_cons, ← fold64 es]
    congr 1
    simp [step64, w64, List.map_set]
theorem fold69 : ∀ (es : List (Int × Nat)) (ks : List Nat), es.foldl (fun cs x => step69 cs x.1 x.2) (ks.map fun v => V.int .u64 (v : Nat)) = (es.foldl (fun ks x => match w69 x.2 with | some v => ks.set x.1.toNat v | none => ks) ks).map fun v => V.int .u64 (v : Nat)
  | [], _ => rfl
  | x :: es, ks => by
    rw [List.foldl_cons, List.foldl_cons, ← fold69 es]
    congr 1
    unfold step69 w69
    split <;> simp [List.map_set]
theorem arr_len (w : Nat → Option Nat) (es : List (Int × Nat)) : (arrB w es).length = 6 := by
  have : ∀ (es : List (Int × Nat)) (ks : List Nat), (es.foldl (fun ks x => match w x.2 with | some v => ks.set x.1.toNat v | none => ks) ks).length = ks.length := by
    intro es
    induction es with
    | nil => intro ks; rfl
    | cons x es ih => intro ks; rw [List.foldl_cons, ih]; split <;> simp
  exact this es _
theorem arr_le (w : Nat → Option Nat) (m : Nat) (hw : ∀ b v, w b = some v → b < 256 → v ≤ m) : ∀ (es : List (Int × Nat)) (ks : List Nat), (∀ x ∈ es, x.2 < 256) → (∀ k ∈ ks, k ≤ m) → ∀ k ∈ es.foldl (fun ks x => match w x.2 with | some v => ks.set x.1.toNat v | none => ks) ks, k ≤ m
  | [], ks, _, h => h
  | x :: es, ks, he, h => by
    rw [List.foldl_cons]
    refine arr_le w m hw es _ (fun y hy => he y (by simp [hy])) ?_
    split
    · rename_i v hv
      intro k hk
      rcases List.mem_or_eq_of_mem_set hk with h1 | rfl
      · exact h k h1
      · exact hw _ _ hv (he x (by simp))
    · exact h
theorem ents_lt : ∀ (l : List UInt8), ∀ x ∈ ents l, x.2 < 256 ∧ 1 ≤ x.1 ∧ x.1 ≤ 5
  | a :: b :: c :: d :: l, x, hx => by
    have bd := famB_bd (val ([a, b, c].take 2)) (val (([a, b, c].drop 2).take 1))
    simp only [ents] at hx
    split at hx
    · rename_i h
      rcases List.mem_cons.1 hx with rfl | hx
      · refine ⟨d.toNat_lt, ?_, ?_⟩
        · simp only; omega
        · simp only; unfold fam3; omega
      · exact ents_lt l x hx
    · exact ents_lt l x hx
  | [], x, hx => by simp [ents] at hx
  | [_], x, hx => by simp [ents] at hx
  | [_, _], x, hx => by simp [ents] at hx
  | [_, _, _], x, hx => by simp [ents] at hx
theorem keptOf_succ (ks : List Nat) (i : Nat) : keptOf ks (i + 1) = if 0 < ks.getD i 0 then keptOf ks i ++ [⟨(i : Int), ks.getD i 0 == 2⟩] else keptOf ks i := by
  unfold keptOf
  rw [List.range_succ, List.filterMap_append]
  split <;> rename_i h <;> simp only [List.filterMap_cons, List.filterMap_nil, h] <;> simp
theorem addsOf_succ (ks : List Nat) (i : Nat) : addsOf ks (i + 1) = if 0 < ks.getD i 0 then addsOf ks i ++ [⟨(i : Int), ks.getD i 0 &&& 2 != 0, ks.getD i 0 &&& 1 != 0⟩] else addsOf ks i := by
  unfold addsOf
  rw [List.range_succ, List.filterMap_append]
  split <;> rename_i h <;> simp only [List.filterMap_cons, List.filterMap_nil, h] <;> simp
theorem keptOf_len (ks : List Nat) (i : Nat) : (keptOf ks i).length ≤ i := by
  have := List.length_filterMap_le (fun i => if 0 < ks.getD i 0 then some (Rest.mk (i : Int) (ks.getD i 0 == 2)) else none) (List.range i)
  simpa [keptOf] using this
theorem addsOf_len (ks : List Nat) (i : Nat) : (addsOf ks i).length ≤ i := by
  have := List.length_filterMap_le (fun i => if 0 < ks.getD i 0 then some (Add.mk (i : Int) (ks.getD i 0 &&& 2 != 0) (ks.getD i 0 &&& 1 != 0)) else none) (List.range i)
  simpa [addsOf] using this
theorem and_2 {n : Nat} (h : n < 256) : intV .and .u64 (n : Int) 2 = some (.int .u64 ((n &&& 2 : Nat) : Int)) := by
  show some (V.int .u64 (IntKind.u64.wrap ((BitVec.ofInt 64 (n : Int) &&& BitVec.ofInt 64 2).toNat : Int))) = _
  have h1 : (BitVec.ofInt 64 (n : Int)).toNat = n := by simp; omega
  have h2 : (BitVec.ofInt 64 2).toNat = 2 := by decide
  have h3 : n &&& 2 ≤ n := Nat.and_le_left
  rw [BitVec.toNat_and, h1, h2, u64_id (by omega)]
theorem and_1 {n : Nat} (h : n < 256) : intV .and .u64 (n : Int) 1 = some (.int .u64 ((n &&& 1 : Nat) : Int)) := by
  show some (V.int .u64 (IntKind.u64.wrap ((BitVec.ofInt 64 (n : Int) &&& BitVec.ofInt 64 1).toNat : Int))) = _
  have h1 : (BitVec.ofInt 64 (n : Int)).toNat = n := by simp; omega
  have h2 : (BitVec.ofInt 64 1).toNat = 1 := by decide
  have h3 : n &&& 1 ≤ n := Nat.and_le_left
  rw [BitVec.toNat_and, h1, h2, u64_id (by omega)]
theorem cap_ct {base h : H} {q lo : Nat} {o : Opn} {f a k : V} (X : Rws base h q lo (oR o) (oL o f a k)) (hq : q < lo) (hlo : lo = base.next) (hF : FamOk o.fams) {code : Nat} (hcode : code < 256) {s : List UInt8} (hs : s.length < 256) {Q : V → H → Prop}
    (qe : ∀ e, capS o code s = .error e → ∀ h', Ge h h' → h'.WF → Q (badV e) h')
    (qo : ∀ o', capS o code s = .ok o' → ∀ f' a' k' h', Rws base h' q lo (oR o') (oL o' f' a' k') → Keeps h h' (owns q f a k) (owns q f' a' k') → Q fineV h') : Acalls Try.prog 62 [.ptr q 11 0, .int .u64 code, .str s] h Q := by
  refine acalls_to Try.func62 S.open_capability_code S.open_capability_enter (Nat.le_of_ble_eq_true rfl) fun wf => ?_; simp only [S.open_capability]
  have hn := X.ge.1
  simp only [H.next_set] at hn
  have hqn : q < h.next := by omega
  have xq := X.at3 (by omega)
  simp
  refine new_ct ?_
  simp
  obtain ⟨h1, hh1⟩ : ∃ h1, h1 = (h.push (.row [.int .i64 0, .int .u8 0, .int .u8 0])).push (rdr s) := ⟨_, rfl⟩
  have g1 : Ge h h1 := by rw [hh1]; exact ((Ge.refl _).push _).push _
  have w1 : h1.WF := by rw [hh1]; exact (wf.push _).push _
  have n1 : h1.next = h.next + 2 := by rw [hh1]; rfl
  have xr : h1.get h.next = some (.row [.int .i64 0, .int .u8 0, .int .u8 0]) := by rw [hh1]; simp
  have xd : h1.get (h.next + 1) = some (rdr s) := by rw [hh1]; simp
  rw [← hh1]
  have X1 := X.step g1 w1
  have kpg : ∀ {h2 : H}, Ge h h2 → h2.WF → Keeps h h2 (owns q f a k) (owns q f a k) := fun g w => ⟨w, g.1, fun j hj _ => g.2 j hj, fun j hj => .inl hj⟩
  have no : ¬ owns q f a k h.next := not_owns X hqn (Nat.le_refl _)
  have no1 : ¬ owns q f a k (h.next + 1) := not_owns X hqn (by omega)
  have fin : ∀ o' f' a' k' h2, capS o code s = .ok o' → Rws base h2 q lo (oR o') (oL o' f' a' k') → Keeps h h2 (owns q f a k) (owns q f' a' k') → ¬ owns q f' a' k' h.next → h.next < h2.next → Q fineV (h2.set h.next (.row [.int .i64 0, .int .u8 0, .int .u8 0])) := by
    intro o' f' a' k' h2 hc X2 kp no' hn2
    refine qo o' hc f' a' k' _ (X2.turn (by omega) (by omega) (by omega) (oL_ids no') _) ⟨kp.wf.set (by omega) _, by simp; omega, fun j hj hno => ?_, kp.own⟩
    rw [H.get_set, if_neg (by omega), kp.old j hj hno]
  by_cases e1 : code = 1
  · subst e1
    simp
    cases hL : ((s.length : Int) != 4) with
    | true =>
      simp
      refine reset_ct _ ?_
      simp [xr]
      refine qe 0 ?_ _ (g1.set (by omega) _) (w1.set (by omega) _)
      have : ¬ s.length = 4 := by intro e; simp [e] at hL
      simp [capS, this]
    | false =>
      have hl4 : s.length = 4 := by simp at hL; omega
      obtain ⟨a0, b0, c0, d0, rfl⟩ : ∃ a b c d, s = [a, b, c, d] := by
        match s, hl4 with
        | [a, b, c, d], _ => exact ⟨a, b, c, d, rfl⟩
      have hcap : capS o 1 [a0, b0, c0, d0] = .ok (if 0 < fam3 [a0, b0, d0] then { o with fams := withB o.fams (fam3 [a0, b0, d0]) } else o) := rfl
      obtain ⟨fm, hfm⟩ : ∃ fm, fm = fam3 [a0, b0, d0] := ⟨_, rfl⟩
      have fbd : 0 ≤ fm ∧ fm ≤ 5 := by rw [hfm]; exact famB_bd _ _
      rw [← hfm] at hcap
      simp
      refine dreg_of ?_
      simp
      refine scall_of (fun Q q => new_ct q) ?_
      simp
      refine scall_of (fun Q q => famOf_ct (l := [a0, b0, d0]) (by simp) (by simp) q) ?_
      rw [← hfm]
      simp
      obtain ⟨h2, hh2⟩ : ∃ h2, h2 = (h1.push (rdr [a0, b0, d0])).set h1.next (rdr []) := ⟨_, rfl⟩
      have g2 : Ge h1 h2 := by rw [hh2]; exact ((Ge.refl _).push _).set (Nat.le_refl _) _
      have w2 : h2.WF := by rw [hh2]; exact (w1.push _).set (by simp) _
      rw [← hh2]
      have X2 := X1.step g2 w2
      have xr2 : h2.get h.next = some (.row [.int .i64 0, .int .u8 0, .int .u8 0]) := by rw [g2.2 _ (by omega), xr]
      have x2 := X2.at3 (by omega)
      have c2 : cellsAt h2.get q 11 = some (opnC o f a k) := by rw [cellsAt_of x2 (by simp [opnC])]; rfl
      by_cases hf : 0 < fm
      · rw [if_pos hf] at hcap
        obtain ⟨gf, ga, gk, d1, d2, d3⟩ := X2.gl3
        simp only [opnC] at c2
        simp [hf, c2]
        have hl5 := hF.len
        refine contains_ct (gf.sls (by simp) (by simp; omega)) rfl _ ?_
        simp
        cases hc : decide (fm ∈ o.fams) with
        | true =>
          have hcon : o.fams.contains fm = true := by simpa using hc
          rw [withB_has hF hcon] at hcap
          simp [xr2]
          exact fin o f a k h2 hcap X2 (kpg (g1.trans g2) w2) no (by have := g2.1; omega)
        | false =>
          have hcon : o.fams.contains fm = false := by simpa using hc
          obtain ⟨v2, d, ea, v2o, x4, X3, fr3, id3⟩ := X2.addF (bytes := 8) hq hlo 0 (show (oL o f a k)[0]? = some (1, f, o.fams.map fun x => [.int .i64 x]) from rfl) (e := [.int .i64 fm]) rfl rfl (by simp) (by simp) (by simp; omega) (by simp; omega)
          simp only [oL, List.map_cons, List.map_nil, oR, opnC] at x4
          simp [c2]
          rw [ea]
          simp [x4, cells_of_one v2o, solid_of_one v2o]
          obtain ⟨h3, hh3⟩ : ∃ h3, h3 = ((h2.push (.row [.int .i64 fm])).app d).set q (.row (opnC o v2 a k)) := ⟨_, rfl⟩
          simp only [oL, List.set_cons_zero, List.map_cons, List.map_nil, oR] at X3 fr3
          rw [← hh3] at X3 fr3
          simp only [opnC] at hh3
          rw [← hh3]
          have X3' : Rws base h3 q lo (oR o) [(1, v2, (o.fams ++ [fm]).map fun x => [.int .i64 x]), (3, a, o.adds.map addC), (2, k, o.kept.map restC)] := by
            rw [List.map_append]; exact X3
          have n23 : h2.next ≤ h3.next := by
            rw [hh3]; simp only [H.next_set]
            have : (h2.push (.row [.int .i64 fm])).next ≤ ((h2.push (.row [.int .i64 fm])).app d).next := by
              cases d <;> simp
            simp at this; omega
          obtain ⟨j, ev, gj, j1, j2, _⟩ := X3'.sorted hq hlo (List.Perm.refl _) (by simp)
          rw [ev]
          refine sort_ct gj rfl (by simp; omega) fun l' hp hs' => ?_
          obtain ⟨j', ev', _, _, _, X4⟩ := X3'.sorted hq hlo hp (by simp)
          have ejj : j' = j := by rw [ev] at ev'; injection ev' with e1; exact e1.symm
          subst ejj
          have hl' := withB_sort hF (by omega) fbd.2 hcon hp hs'
          subst hl'
          simp
          have gg := g1.trans g2
          have gn := gg.1
          have idf : ∀ i ∈ v2.ids, i ∈ f.ids ∨ h2.next ≤ i := id3
          have hne : ¬ h.next = j' := by
            intro e
            rcases idf j' (by rw [ev]; simp [V.ids]) with hh | hh
            · have := (X.gl3.1.lo j' hh).2; omega
            · have := g2.1; omega
          have no' : ¬ owns q v2 a k h.next := by
            rintro (e | h | h | h)
            · omega
            · rcases idf _ h with h | h
              · exact no (.inr (.inl h))
              · have := g2.1; omega
            · exact no (.inr (.inr (.inl h)))
            · exact no (.inr (.inr (.inr h)))
          have kp4 : Keeps h (h3.set j' (.grow 1 ((withB o.fams fm).map (.int .i64)))) (owns q f a k) (owns q v2 a k) := by
            refine ⟨X4.wf, by simp; omega, fun i hi hno => ?_, fun i hi => ?_⟩
            · have hij : i ≠ j' := by
                intro e; subst e
                rcases idf i (by rw [ev]; simp [V.ids]) with h | h
                · exact hno (.inr (.inl h))
                · omega
              rw [H.get_set, if_neg hij, fr3 i (by omega) (fun e => hno (.inl e)) (fun e => hno (.inr (.inl e))), gg.2 i hi]
            · rcases hi with rfl | h | h | h
              · exact .inl (.inl rfl)
              · rcases idf i h with h | h
                · exact .inl (.inr (.inl h))
                · exact .inr (by omega)
              · exact .inl (.inr (.inr (.inl h)))
              · exact .inl (.inr (.inr (.inr h)))
          have xr3 : h3.get h.next = some (.row [.int .i64 0, .int .u8 0, .int .u8 0]) := by
            rw [fr3 _ (by have := g2.1; omega) (by omega) (fun hh => no (.inr (.inl hh))), xr2]
          simp [hne, xr3]
          exact fin _ _ _ _ _ hcap X4 kp4 no' (by simp; have := g2.1; omega)
      · rw [if_neg hf] at hcap
        simp [hf, xr2]
        exact fin o f a k h2 hcap X2 (kpg (g1.trans g2) w2) no (by have := g2.1; omega)
  by_cases e2 : code = 65
  · subst e2
    simp
    cases hL : ((s.length : Int) != 4) with
    | true =>
      simp
      refine reset_ct _ ?_
      simp [xr]
      refine qe 0 ?_ _ (g1.set (by omega) _) (w1.set (by omega) _)
      have : ¬ s.length = 4 := by intro e; simp [e] at hL
      simp [capS, this]
    | false =>
      have hl4 : s.length = 4 := by simp at hL; omega
      simp
      refine number_yes xd 4 rfl (by omega) (by omega) ?_
      have hv4 := val_lt4 (l := s.take 4) (by simp; omega)
      rw [List.take_of_length_le (by omega)] at hv4 ⊢
      obtain ⟨h2, hh2⟩ : ∃ h2, h2 = h1.set (h.next + 1) (rdr (s.drop 4)) := ⟨_, rfl⟩
      have g2 : Ge h h2 := by rw [hh2]; exact g1.set (by omega) _
      have w2 : h2.WF := by rw [hh2]; exact w1.set (by omega) _
      have X2 : Rws base h2 q lo (oR o) (oL o f a k) := by
        rw [hh2]; exact X1.turn (by omega) (by omega) (by omega) (oL_ids (not_owns X hqn (by omega))) _
      have x2 := X2.at3 (by omega)
      have xr2 : h2.get h.next = some (.row [.int .i64 0, .int .u8 0, .int .u8 0]) := by rw [hh2, H.get_set, if_neg (by omega), xr]
      rw [← hh2]
      simp
      by_cases hv : val s = 0
      · simp [hv]
        refine reset_ct _ ?_
        simp [xr2]
        exact qe 2 (by simp [capS, hl4, hv]) _ (g2.set (by omega) _) (w2.set (by rw [hh2]; simp; omega) _)
      · have hcap : capS o 65 s = .ok { o with four := true, asn := (val s : Nat) } := by simp [capS, hl4, hv]
        have hv0 : ((val s : Int) == 0) = false := by simp; omega
        have w4 := u32_id hv4
        simp only [opnC] at x2
        simp [hv0, x2, w4]
        have X3 := X2.put (r' := oR { o with four := true, asn := (val s : Nat) }) (ls' := oL { o with four := true, asn := (val s : Nat) } f a k) hq hlo X2.gl X2.dj
        have kp3 : Keeps h (h2.set q (.row (opnC { o with four := true, asn := (val s : Nat) } f a k))) (owns q f a k) (owns q f a k) := by
          refine ⟨X3.wf, by simp; exact g2.1, fun j hj hno => ?_, fun j hj => .inl hj⟩
          rw [H.get_set, if_neg (fun e => hno (.inl e)), g2.2 j hj]
        have hne : ¬ h.next = q := by omega
        simp [hne, xr2]
        exact fin _ _ _ _ _ hcap X3 kp3 no (by rw [hh2]; simp; omega)
  have rem4 : ∀ n : Nat, intV .rem .i64 (n : Int) 4 = some (.int .i64 ((n % 4 : Nat) : Int)) := fun n => by
    show (if (4 : Int) = 0 then none else some (V.int .i64 ((n : Int).tmod 4))) = _
    rw [if_neg (by decide), Int.tmod_eq_emod_of_nonneg (by omega)]; rfl
  have r5 : intV .rem .i64 5 3 = some (.int .i64 2) := rfl
  have r0 : intV .rem .i64 0 3 = some (.int .i64 0) := rfl
  have i5 : IntKind.i64.wrap 5 = 5 := by decide
  have u5 : IntKind.u64.wrap 5 = 5 := by decide
  have i0 : IntKind.i64.wrap 0 = 0 := by decide
  have u0 : IntKind.u64.wrap 0 = 0 := by decide
  by_cases e3 : code = 64
  · subst e3
    simp
    cases hL : decide ((s.length : Int) < 2) with
    | true =>
      simp
      refine reset_ct _ ?_
      simp [xr]
      refine qe 0 ?_ _ (g1.set (by omega) _) (w1.set (by omega) _)
      have : s.length < 2 := by simp at hL; omega
      simp [capS, this]
    | false =>
      have hl2 : ¬ s.length < 2 := by simp at hL; omega
      simp [rem4, r5, i5, u5]
      cases hM : ((s.length : Int) % 4 != 2) with
      | true =>
        simp
        refine reset_ct _ ?_
        simp [xr]
        refine qe 0 ?_ _ (g1.set (by omega) _) (w1.set (by omega) _)
        have : ¬ s.length % 4 = 2 := by simp at hM; omega
        simp [capS, this]
      | false =>
        have hm2 : s.length % 4 = 2 := by simp at hM; omega
        have hcap : capS o 64 s = .ok { o with hasgr := true, again := decide (32768 ≤ val (s.take 2)), time := ((val (s.take 2) % 4096 : Nat) : Int), kept := keptOf (arrB w64 (ents (s.drop 2))) 6 } := by simp [capS, hl2, hm2]
        simp
        refine number_yes xd 2 rfl (by omega) (by omega) ?_
        obtain ⟨nv, hnv⟩ : ∃ n, n = val (s.take 2) := ⟨_, rfl⟩
        have hn2 : nv < 65536 := by rw [hnv]; exact val_lt2 (by simp; omega)
        rw [← hnv] at hcap ⊢
        simp
        obtain ⟨h3, hh3⟩ : ∃ h3, h3 = (h1.set (h.next + 1) (rdr (s.drop 2))).push (.row [.int .i64 0, .int .i64 0, .int .i64 0, .int .i64 0, .int .i64 0, .int .i64 0]) := ⟨_, rfl⟩
        have x31 : h3.get (h.next + 1) = some (rdr (s.drop 2)) := by rw [hh3]; simp [n1]
        have x32 : h3.get h1.next = some (.row [.int .i64 0, .int .i64 0, .int .i64 0, .int .i64 0, .int .i64 0, .int .i64 0]) := by rw [hh3]; simp
        rw [← hh3]
        have zs : ([0, 0, 0, 0, 0, 0] : List Nat).map (fun v => V.int .i64 (v : Nat)) = [.int .i64 0, .int .i64 0, .int .i64 0, .int .i64 0, .int .i64 0, .int .i64 0] := rfl
        refine entries_ct x31 x32 (by omega) rfl (fun cs f b => by simp [step64]) (tells64 _) (by simp; omega) ?_
        rw [← zs, fold64]
        have har : (ents (s.drop 2)).foldl (fun ks x => match w64 x.2 with | some v => ks.set x.1.toNat v | none => ks) [0, 0, 0, 0, 0, 0] = arrB w64 (ents (s.drop 2)) := rfl
        rw [har]
        obtain ⟨ks, hks⟩ : ∃ ks, ks = arrB w64 (ents (s.drop 2)) := ⟨_, rfl⟩
        have ksl : ks.length = 6 := by rw [hks]; exact arr_len _ _
        rw [← hks] at hcap ⊢
        obtain ⟨h4, hh4⟩ : ∃ h4, h4 = (h3.set (h.next + 1) (rdr [])).set h1.next (.row (ks.map fun v => .int .i64 (v : Nat))) := ⟨_, rfl⟩
        rw [← hh4]
        have g4 : Ge h h4 := by rw [hh4, hh3]; exact (((g1.set (by omega) _).push _).set (by omega) _).set (by omega) _
        have n4 : h4.next = h.next + 3 := by rw [hh4, hh3]; simp; omega
        have w4 : h4.WF := by
          rw [hh4, hh3]
          exact (((w1.set (by omega) _).push _).set (by simp; omega) _).set (by simp) _
        have X4 : Rws base h4 q lo (oR o) (oL o f a k) := X.step g4 w4
        have x4 := X4.at3 (by omega)
        have xr4 : h4.get h.next = some (.row [.int .i64 0, .int .u8 0, .int .u8 0]) := by
          rw [hh4, hh3]; simp [xr, show ¬ h.next = h1.next by omega]
        have xa4 : h4.get h1.next = some (.row (ks.map fun v => .int .i64 (v : Nat))) := by rw [hh4]; simp
        have hq1 : ¬ h1.next = q := by omega
        have tm : IntKind.i64.wrap ((nv % 4096 : Nat) : Int) = ((nv % 4096 : Nat) : Int) := wrap_nat (by omega)
        simp only [opnC] at x4
        have ca4 : cellsAt h4.get h1.next 6 = some (ks.map fun v => .int .i64 (v : Nat)) := by rw [cellsAt_of xa4 (by simp [ksl])]; rfl
        have tk6 : (ks.map fun v => V.int .i64 (v : Nat)).take 6 = ks.map fun v => V.int .i64 (v : Nat) := List.take_of_length_le (by simp [ksl])
        have tm2 : IntKind.i64.wrap ((nv : Int) % 4096) = (nv : Int) % 4096 := wrap_i64_id (by omega) (by omega)
        have hag : ((if 32768 ≤ nv then (32768 : Int) else 0) != 0) = decide (32768 ≤ nv) := by split <;> simp_all
        obtain ⟨ksc, hksc⟩ : ∃ l : List V, l = ks.map fun v => .int .i64 (v : Nat) := ⟨_, rfl⟩
        have kcl : ksc.length = 6 := by rw [hksc]; simp [ksl]
        rw [← hksc] at ca4 tk6
        simp [and_15 hn2, and_12 hn2, x4, ca4, hq1, kcl, tk6, tm2, hag]
        obtain ⟨o2, ho2⟩ : ∃ o2 : Opn, o2 = { o with hasgr := true, again := decide (32768 ≤ nv), time := ((nv % 4096 : Nat) : Int), kept := [] } := ⟨_, rfl⟩
        obtain ⟨gf4, ga4, gk4, d1, d2, d3⟩ := X4.gl3
        obtain ⟨h5, hh5⟩ : ∃ h5, h5 = h4.set q (.row (opnC o2 f a .nilsl)) := ⟨_, rfl⟩
        have X5 : Rws base h5 q lo (oR o2) (oL o2 f a .nilsl) := by
          rw [hh5]
          refine X4.put (r' := oR o2) (ls' := oL o2 f a .nilsl) hq hlo (fun x hx => ?_) ?_
          · simp only [oL, List.mem_cons, List.not_mem_nil, or_false] at hx
            rcases hx with rfl | rfl | rfl
            · rw [ho2]; exact gf4
            · rw [ho2]; exact ga4
            · rw [ho2]; exact Gl.nil _ _ _
          · simp only [oL, List.pairwise_cons, List.mem_cons, List.not_mem_nil, or_false, forall_eq_or_imp, forall_eq]
            exact ⟨⟨d1, by simp [V.ids]⟩, by simp [V.ids], fun _ h => absurd h (by simp), List.Pairwise.nil⟩
        have hh5' : h5 = h4.set q (.row [.int .u32 o.asn, .int .i64 o.hold, .int .u32 o.id, f, .bool o.four, .bool o.refresh, a, .bool true, .bool (decide (32768 ≤ nv)), .int .i64 ((nv : Int) % 4096), .nilsl]) := by
          rw [hh5, ho2]; simp [opnC]
        have n5 : h5.next = h.next + 3 := by rw [hh5]; simp [n4]
        have w5 : h5.WF := X5.wf
        have g45 : ∀ j, j ≠ q → h5.get j = h4.get j := fun j hj => by rw [hh5, H.get_set, if_neg hj]
        have x5 : h5.get q = some (.row (opnC o2 f a .nilsl)) := by rw [hh5]; simp
        have fo := gf4.one
        have ao := ga4.one
        rw [← hh5']
        have rk : ∃ r : List V → List V, ∀ kv, r [kv] = opnC o2 f a kv := ⟨fun l => opnC o2 f a (l.headD .nilsl), fun _ => rfl⟩
        obtain ⟨r, hr⟩ := rk
        have hself : h5.set q (.row (opnC o2 f a .nilsl)) = h5 := H.ext' rfl fun j => by
          rw [H.get_set]; split
          · rename_i e; rw [e, x5]
          · rfl
        refine loop_up (fun i t h' => ∃ kv : V, (t 0 = .ptr q 11 0 ∧ t 6 = .ptr h.next 3 0 ∧ t 119 = .agg ksc ∧ t 120 = .int .i64 i) ∧ Rws h5 h' q h5.next r [(2, kv, (keptOf ks i).map restC)]) 6 ⟨.nilsl, by simp, ⟨by simp [hr, hself], w5, fun x hx => ?_, by simp⟩⟩ ?_
        · simp only [keptOf, List.range_zero, List.filterMap_nil, List.map_nil, List.mem_cons, List.not_mem_nil, or_false] at hx
          subst hx; exact Gl.nil _ _ _
        rintro i t h6 hi ⟨kv, ⟨t0, t6, t119, t120⟩, Y⟩ K hK
        by_cases hlt : i < 6
        · have hlt' : (i : Int) < 6 := by omega
          have hw := wrap_succ hlt (by omega)
          have hki : ksc[i]? = some (.int .i64 (ks.getD i 0 : Nat)) := by
            rw [hksc, List.getElem?_map, List.getD_eq_getElem?_getD, List.getElem?_eq_getElem (by omega)]; rfl
          obtain ⟨kn, hkn⟩ : ∃ kn : Nat, kn = ks.getD i 0 := ⟨_, rfl⟩
          rw [← hkn] at hki
          have hke : ((kn : Int) == 2) = (kn == 2) := by
            cases h : (kn == 2) <;> simp_all <;> omega
          have xk := Y.ge.get_set (by omega : q < h5.next)
          simp only [List.map_cons, List.map_nil, hr] at xk
          have ck : cellsAt h6.get q 11 = some (opnC o2 f a kv) := by rw [cellsAt_of xk (by simp [opnC])]; rfl
          have lk := keptOf_len ks i
          simp [t119, t120, hlt', hki]
          by_cases hk0 : 0 < kn
          · obtain ⟨v2, d, ea, v2o, y4, Y2, _, _⟩ := Y.addF (bytes := 16) (by omega) rfl 0 (show [(2, kv, (keptOf ks i).map restC)][0]? = some (2, kv, (keptOf ks i).map restC) from rfl) (e := restC ⟨(i : Int), kn == 2⟩) rfl rfl (by simp) (fun x hx => by obtain ⟨y, _, rfl⟩ := List.mem_map.1 hx; rfl) (by rw [List.length_map]; omega) (by rw [List.length_map]; omega)
            simp only [List.map_cons, List.map_nil, hr, opnC, restC] at y4
            simp only [opnC] at ck
            simp only [restC] at ea
            have hk0' : (0 : Int) < kn := by omega
            simp [hk0, t0, ck, hke]
            rw [ea]
            simp [y4, cells_of_one v2o, solid_of_one v2o, t120, hw]
            refine hK _ _ hlt ⟨v2, by simp [t0, t6, t119], ?_⟩
            simp only [List.set_cons_zero, List.map_cons, List.map_nil, hr, opnC, restC] at Y2
            rw [keptOf_succ, ← hkn, if_pos hk0, List.map_append]
            simpa using Y2
          · have hk0' : ¬ (0 : Int) < kn := by omega
            simp [hk0, t120, hw]
            refine hK _ _ hlt ⟨kv, by simp [t0, t6, t119], ?_⟩
            rw [keptOf_succ, ← hkn, if_neg hk0]
            exact Y
        · have h6i : i = 6 := by omega
          subst h6i
          have xk := Y.ge.get_set (by omega : q < h5.next)
          simp only [List.map_cons, List.map_nil, hr] at xk
          have n6 := Y.ge.1
          simp only [H.next_set] at n6
          have gkv : Gl h6 h5.next 2 kv ((keptOf ks 6).map restC) := Y.gl (2, kv, _) (by simp)
          obtain ⟨gf5, ga5, _, _, _, _⟩ := X5.gl3
          have k56 : ∀ j, j < h5.next → j ≠ q → h6.get j = h5.get j := fun j hj hne => Y.ge.get_ne hj hne
          obtain ⟨o3, ho3⟩ : ∃ o3 : Opn, o3 = { o with hasgr := true, again := decide (32768 ≤ nv), time := ((nv % 4096 : Nat) : Int), kept := keptOf ks 6 } := ⟨_, rfl⟩
          have eo : ∀ kv, opnC o3 f a kv = opnC o2 f a kv := fun kv => by rw [ho3, ho2]; rfl
          have X6 : Rws base h6 q lo (oR o3) (oL o3 f a kv) := by
            refine Rws.mk3 ⟨by simp; omega, fun j hj => ?_⟩ Y.wf ?_ ?_ ?_ d1 (fun j h1 h2 => ?_) (fun j h1 h2 => ?_)
            · simp only [H.next_set] at hj
              rw [H.get_set]
              split
              · rename_i e; rw [e, xk, eo]
              · rename_i e; rw [k56 j (by omega) e, X5.ge.get_ne hj e]
            · rw [ho3]; rw [ho2] at gf5
              exact gf5.keep n6 (fun j hj => k56 j (gf5.lo j hj).2 (by have := (gf5.lo j hj).1; omega))
            · rw [ho3]; rw [ho2] at ga5
              exact ga5.keep n6 (fun j hj => k56 j (ga5.lo j hj).2 (by have := (ga5.lo j hj).1; omega))
            · rw [ho3]; exact gkv.lower (by omega)
            · have := (gf5.lo j h1).2; have := (gkv.lo j h2).1; omega
            · have := (ga5.lo j h1).2; have := (gkv.lo j h2).1; omega
          have own : ∀ j, owns q f a kv j → owns q f a k j ∨ h5.next ≤ j := fun j hj => by
            rcases hj with h | h | h | h
            · exact .inl (.inl h)
            · exact .inl (.inr (.inl h))
            · exact .inl (.inr (.inr (.inl h)))
            · exact .inr (gkv.lo j h).1
          rw [← ho3] at hcap
          have xr6 : h6.get h.next = some (.row [.int .i64 0, .int .u8 0, .int .u8 0]) := by rw [k56 _ (by omega) (by omega), g45 _ (by omega), xr4]
          simp [t120, t6, xr6]
          refine fin _ _ _ _ _ hcap X6 ⟨Y.wf, by omega, fun j hj hno => ?_, fun j hj => (own j hj).imp id (fun h => by omega)⟩ (fun hh => (own _ hh).elim no (fun h => by omega)) (by omega)
          rw [k56 j (by omega) (fun e => hno (.inl e)), g45 j (fun e => hno (.inl e)), g4.2 j hj]
  by_cases e4 : code = 69
  · subst e4
    simp [rem4, r0, i0, u0]
    cases hM : ((s.length : Int) % 4 != 0) with
    | true =>
      simp
      refine reset_ct _ ?_
      simp [xr]
      refine qe 0 ?_ _ (g1.set (by omega) _) (w1.set (by omega) _)
      have : ¬ s.length % 4 = 0 := by simp at hM; omega
      simp [capS, this]
    | false =>
      have hm0 : s.length % 4 = 0 := by simp at hM; omega
      have hcap : capS o 69 s = .ok { o with adds := addsOf (arrB w69 (ents s)) 6 } := by simp [capS, hm0]
      simp
      obtain ⟨h3, hh3⟩ : ∃ h3, h3 = h1.push (.row [.int .u64 0, .int .u64 0, .int .u64 0, .int .u64 0, .int .u64 0, .int .u64 0]) := ⟨_, rfl⟩
      have x31 : h3.get (h.next + 1) = some (rdr s) := by rw [hh3]; simp [n1, xd]
      have x32 : h3.get h1.next = some (.row [.int .u64 0, .int .u64 0, .int .u64 0, .int .u64 0, .int .u64 0, .int .u64 0]) := by rw [hh3]; simp
      rw [← hh3]
      have zs : ([0, 0, 0, 0, 0, 0] : List Nat).map (fun v => V.int .u64 (v : Nat)) = [.int .u64 0, .int .u64 0, .int .u64 0, .int .u64 0, .int .u64 0, .int .u64 0] := rfl
      refine entries_ct x31 x32 (by omega) rfl (fun cs f b => by unfold step69; split <;> simp) (tells69 _) hm0 ?_
      rw [← zs, fold69]
      have har : (ents s).foldl (fun ks x => match w69 x.2 with | some v => ks.set x.1.toNat v | none => ks) [0, 0, 0, 0, 0, 0] = arrB w69 (ents s) := rfl
      rw [har]
      obtain ⟨ks, hks⟩ : ∃ ks, ks = arrB w69 (ents s) := ⟨_, rfl⟩
      have ksl : ks.length = 6 := by rw [hks]; exact arr_len _ _
      rw [← hks] at hcap ⊢
      obtain ⟨h4, hh4⟩ : ∃ h4, h4 = (h3.set (h.next + 1) (rdr [])).set h1.next (.row (ks.map fun v => .int .u64 (v : Nat))) := ⟨_, rfl⟩
      rw [← hh4]
      have g4 : Ge h h4 := by rw [hh4, hh3]; exact ((g1.push _).set (by omega) _).set (by omega) _
      have n4 : h4.next = h.next + 3 := by rw [hh4, hh3]; simp; omega
      have w4 : h4.WF := by
        rw [hh4, hh3]
        exact ((w1.push _).set (by simp; omega) _).set (by simp) _
      have X4 : Rws base h4 q lo (oR o) (oL o f a k) := X.step g4 w4
      have x4 := X4.at3 (by omega)
      have xr4 : h4.get h.next = some (.row [.int .i64 0, .int .u8 0, .int .u8 0]) := by
        rw [hh4, hh3]; simp [xr, show ¬ h.next = h1.next by omega]
      have xa4 : h4.get h1.next = some (.row (ks.map fun v => .int .u64 (v : Nat))) := by rw [hh4]; simp
      have hq1 : ¬ h1.next = q := by omega
      simp only [opnC] at x4
      have ca4 : cellsAt h4.get h1.next 6 = some (ks.map fun v => .int .u64 (v : Nat)) := by rw [cellsAt_of xa4 (by simp [ksl])]; rfl
      have tk6 : (ks.map fun v => V.int .u64 (v : Nat)).take 6 = ks.map fun v => V.int .u64 (v : Nat) := List.take_of_length_le (by simp [ksl])
      have kle : ∀ i, ks.getD i 0 ≤ 3 := fun i => by
        rw [List.getD_eq_getElem?_getD]
        rcases Nat.lt_or_ge i ks.length with h | h
        · rw [List.getElem?_eq_getElem h]
          have := arr_le w69 3 (fun b v hv _ => by unfold w69 at hv; split at hv <;> simp at hv; omega) (ents s) [0, 0, 0, 0, 0, 0] (fun x hx => (ents_lt s x hx).1) (by simp) ks[i] (by rw [har, ← hks]; exact List.getElem_mem h)
          simpa using this
        · rw [List.getElem?_eq_none h]; simp
      obtain ⟨ksc, hksc⟩ : ∃ l : List V, l = ks.map fun v => .int .u64 (v : Nat) := ⟨_, rfl⟩
      have kcl : ksc.length = 6 := by rw [hksc]; simp [ksl]
      rw [← hksc] at ca4 tk6
      simp [x4, ca4, hq1, kcl, tk6]
      obtain ⟨o2, ho2⟩ : ∃ o2 : Opn, o2 = { o with adds := [] } := ⟨_, rfl⟩
      obtain ⟨gf4, ga4, gk4, d1, d2, d3⟩ := X4.gl3
      obtain ⟨h5, hh5⟩ : ∃ h5, h5 = h4.set q (.row (opnC o2 f .nilsl k)) := ⟨_, rfl⟩
      have X5 : Rws base h5 q lo (oR o2) (oL o2 f .nilsl k) := by
        rw [hh5]
        refine X4.put (r' := oR o2) (ls' := oL o2 f .nilsl k) hq hlo (fun x hx => ?_) ?_
        · simp only [oL, List.mem_cons, List.not_mem_nil, or_false] at hx
          rcases hx with rfl | rfl | rfl
          · rw [ho2]; exact gf4
          · rw [ho2]; exact Gl.nil _ _ _
          · rw [ho2]; exact gk4
        · simp only [oL, List.pairwise_cons, List.mem_cons, List.not_mem_nil, or_false, forall_eq_or_imp, forall_eq]
          exact ⟨⟨by simp [V.ids], d2⟩, by simp [V.ids], fun _ h => absurd h (by simp), List.Pairwise.nil⟩
      have hh5' : h5 = h4.set q (.row [.int .u32 o.asn, .int .i64 o.hold, .int .u32 o.id, f, .bool o.four, .bool o.refresh, .nilsl, .bool o.hasgr, .bool o.again, .int .i64 o.time, k]) := by
        rw [hh5, ho2]; simp [opnC]
      have n5 : h5.next = h.next + 3 := by rw [hh5]; simp [n4]
      have w5 : h5.WF := X5.wf
      have g45 : ∀ j, j ≠ q → h5.get j = h4.get j := fun j hj => by rw [hh5, H.get_set, if_neg hj]
      have x5 : h5.get q = some (.row (opnC o2 f .nilsl k)) := by rw [hh5]; simp
      have fo := gf4.one
      have ao := gk4.one
      rw [← hh5']
      have rk : ∃ r : List V → List V, ∀ kv, r [kv] = opnC o2 f kv k := ⟨fun l => opnC o2 f (l.headD .nilsl) k, fun _ => rfl⟩
      obtain ⟨r, hr⟩ := rk
      have hself : h5.set q (.row (opnC o2 f .nilsl k)) = h5 := H.ext' rfl fun j => by
        rw [H.get_set]; split
        · rename_i e; rw [e, x5]
        · rfl
      refine loop_up (fun i t h' => ∃ kv : V, (t 0 = .ptr q 11 0 ∧ t 6 = .ptr h.next 3 0 ∧ t 166 = .agg ksc ∧ t 167 = .int .i64 i) ∧ Rws h5 h' q h5.next r [(3, kv, (addsOf ks i).map addC)]) 6 ⟨.nilsl, by simp, ⟨by simp [hr, hself], w5, fun x hx => ?_, by simp⟩⟩ ?_
      · simp only [addsOf, List.range_zero, List.filterMap_nil, List.map_nil, List.mem_cons, List.not_mem_nil, or_false] at hx
        subst hx; exact Gl.nil _ _ _
      rintro i t h6 hi ⟨kv, ⟨t0, t6, t166, t167⟩, Y⟩ K hK
      by_cases hlt : i < 6
      · have hlt' : (i : Int) < 6 := by omega
        have hw := wrap_succ hlt (by omega)
        have hki : ksc[i]? = some (.int .u64 (ks.getD i 0 : Nat)) := by
          rw [hksc, List.getElem?_map, List.getD_eq_getElem?_getD, List.getElem?_eq_getElem (by omega)]; rfl
        obtain ⟨kn, hkn⟩ : ∃ kn : Nat, kn = ks.getD i 0 := ⟨_, rfl⟩
        rw [← hkn] at hki
        have hk3 : kn ≤ 3 := by rw [hkn]; exact kle i
        have kcs : kn = 0 ∨ kn = 1 ∨ kn = 2 ∨ kn = 3 := by omega
        obtain ⟨b2, hb2⟩ : ∃ b, b = (kn &&& 2 != 0) := ⟨_, rfl⟩
        obtain ⟨b1, hb1⟩ : ∃ b, b = (kn &&& 1 != 0) := ⟨_, rfl⟩
        have hk2 : (((kn &&& 2 : Nat) : Int) != 0) = b2 := by rw [hb2]; rcases kcs with e | e | e | e <;> rw [e] <;> rfl
        have hk1 : ((kn : Int) % 2 != 0) = b1 := by rw [hb1]; rcases kcs with e | e | e | e <;> rw [e] <;> rfl
        have xk := Y.ge.get_set (by omega : q < h5.next)
        simp only [List.map_cons, List.map_nil, hr] at xk
        have ck : cellsAt h6.get q 11 = some (opnC o2 f kv k) := by rw [cellsAt_of xk (by simp [opnC])]; rfl
        have lk := addsOf_len ks i
        simp [t166, t167, hlt', hki]
        by_cases hk0 : 0 < kn
        · obtain ⟨v2, d, ea, v2o, y4, Y2, _, _⟩ := Y.addF (bytes := 16) (by omega) rfl 0 (show [(3, kv, (addsOf ks i).map addC)][0]? = some (3, kv, (addsOf ks i).map addC) from rfl) (e := addC ⟨(i : Int), b2, b1⟩) rfl rfl (by simp) (fun x hx => by obtain ⟨y, _, rfl⟩ := List.mem_map.1 hx; rfl) (by rw [List.length_map]; omega) (by rw [List.length_map]; omega)
          simp only [List.map_cons, List.map_nil, hr, opnC, addC] at y4
          simp only [opnC] at ck
          simp only [addC] at ea
          have hk0' : (0 : Int) < kn := by omega
          simp [hk0, t0, ck, and_2 (show kn < 256 by omega), and_1 (show kn < 256 by omega)]
          simp only [hk2, hk1]
          rw [ea]
          simp [y4, cells_of_one v2o, solid_of_one v2o, t167, hw]
          refine hK _ _ hlt ⟨v2, by simp [t0, t6, t166], ?_⟩
          simp only [List.set_cons_zero, List.map_cons, List.map_nil, hr, opnC, addC] at Y2
          rw [addsOf_succ, ← hkn, ← hb2, ← hb1, if_pos hk0, List.map_append]
          simpa using Y2
        · have hk0' : ¬ (0 : Int) < kn := by omega
          simp [hk0, t167, hw]
          refine hK _ _ hlt ⟨kv, by simp [t0, t6, t166], ?_⟩
          rw [addsOf_succ, ← hkn, if_neg hk0]
          exact Y
      · have h6i : i = 6 := by omega
        subst h6i
        have xk := Y.ge.get_set (by omega : q < h5.next)
        simp only [List.map_cons, List.map_nil, hr] at xk
        have n6 := Y.ge.1
        simp only [H.next_set] at n6
        have gkv : Gl h6 h5.next 3 kv ((addsOf ks 6).map addC) := Y.gl (3, kv, _) (by simp)
        obtain ⟨gf5, _, ga5, _, _, _⟩ := X5.gl3
        have k56 : ∀ j, j < h5.next → j ≠ q → h6.get j = h5.get j := fun j hj hne => Y.ge.get_ne hj hne
        obtain ⟨o3, ho3⟩ : ∃ o3 : Opn, o3 = { o with adds := addsOf ks 6 } := ⟨_, rfl⟩
        have eo : ∀ kv, opnC o3 f kv k = opnC o2 f kv k := fun kv => by rw [ho3, ho2]; rfl
        have X6 : Rws base h6 q lo (oR o3) (oL o3 f kv k) := by
          refine Rws.mk3 ⟨by simp; omega, fun j hj => ?_⟩ Y.wf ?_ ?_ ?_ (fun j h1 h2 => ?_) d2 (fun j h1 h2 => ?_)
          · simp only [H.next_set] at hj
            rw [H.get_set]
            split
            · rename_i e; rw [e, xk, eo]
            · rename_i e; rw [k56 j (by omega) e, X5.ge.get_ne hj e]
          · rw [ho3]; rw [ho2] at gf5
            exact gf5.keep n6 (fun j hj => k56 j (gf5.lo j hj).2 (by have := (gf5.lo j hj).1; omega))
          · rw [ho3]; exact gkv.lower (by omega)
          · rw [ho3]; rw [ho2] at ga5
            exact ga5.keep n6 (fun j hj => k56 j (ga5.lo j hj).2 (by have := (ga5.lo j hj).1; omega))
          · have := (gf5.lo j h1).2; have := (gkv.lo j h2).1; omega
          · have := (ga5.lo j h2).2; have := (gkv.lo j h1).1; omega
        have own : ∀ j, owns q f kv k j → owns q f a k j ∨ h5.next ≤ j := fun j hj => by
          rcases hj with h | h | h | h
          · exact .inl (.inl h)
          · exact .inl (.inr (.inl h))
          · exact .inr (gkv.lo j h).1
          · exact .inl (.inr (.inr (.inr h)))
        rw [← ho3] at hcap
        have xr6 : h6.get h.next = some (.row [.int .i64 0, .int .u8 0, .int .u8 0]) := by rw [k56 _ (by omega) (by omega), g45 _ (by omega), xr4]
        simp [t167, t6, xr6]
        refine fin _ _ _ _ _ hcap X6 ⟨Y.wf, by omega, fun j hj hno => ?_, fun j hj => (own j hj).imp id (fun h => by omega)⟩ (fun hh => (own _ hh).elim no (fun h => by omega)) (by omega)
        rw [k56 j (by omega) (fun e => hno (.inl e)), g45 j (fun e => hno (.inl e)), g4.2 j hj]
  by_cases e5 : code = 2
  · subst e5
    have hcap : capS o 2 s = .ok { o with refresh := true } := by simp [capS]
    have x1 := X1.at3 (by omega)
    have X3 := X1.put (r' := oR { o with refresh := true }) (ls' := oL { o with refresh := true } f a k) hq hlo X1.gl X1.dj
    have hne : ¬ h.next = q := by omega
    simp only [opnC] at x1
    simp [x1, hne, xr]
    refine fin _ _ _ _ _ hcap X3 ⟨X3.wf, by simp; exact g1.1, fun j hj hno => ?_, fun j hj => .inl hj⟩ no (by simp; omega)
    rw [H.get_set, if_neg (fun e => hno (.inl e)), g1.2 j hj]
  have hcap : capS o code s = .ok o := by simp [capS, e1, e2, e3, e4, e5]
  have c1 : ((code : Int) == 1) = false := by simp; omega
  have c2 : ((code : Int) == 65) = false := by simp; omega
  have c3 : ((code : Int) == 64) = false := by simp; omega
  have c4 : ((code : Int) == 69) = false := by simp; omega
  have c5 : ((code : Int) == 2) = false := by simp; omega
  simp [c1, c2, c3, c4, c5, xr]
  exact fin o f a k h1 hcap X1 (kpg g1 w1) no (by omega)
end Go.Am

/-
  Contracts: each (codes with so many bytes each), for any function that is told of them.
-/
namespace Go.Am
open Go.Proofs

set_option maxRecDepth 100000
/-- A state in the heap. -/
structure Tale {σ : Type} (I : σ → H → (Nat → Prop) → Prop) (low : Nat) : Prop where
  mono : ∀ st h own h', I st h own → h.next ≤ h'.next → h'.WF → (∀ j, j < h.next → j < low ∨ own j → h'.get j = h.get j) → I st h' own
  lt : ∀ st h own j, I st h own → own j → j < h.next
  low : ∀ st h own, I st h own → low ≤ h.next
def TellE {σ : Type} (fv : V) (I : σ → H → (Nat → Prop) → Prop) (step : σ → Nat → List UInt8 → Except Nat σ) : Prop :=
  ∀ st h own code bytes, h.WF → I st h own → code < 256 → bytes.length < 256 → ∀ Q : V → H → Prop, (∀ e, step st code bytes = .error e → ∀ h', Keeps h h' own (fun _ => False) → Q (badV e) h') →
    (∀ st', step st code bytes = .ok st' → ∀ h' own', I st' h' own' → Keeps h h' own own' → Q fineV h') → callK Try.prog fv [.int .u64 (code : Nat), .str bytes] h Q
def eachB {σ : Type} (step : σ → Nat → List UInt8 → Except Nat σ) (st : σ) (l : List UInt8) : Except Nat σ :=
  match l with
  | [] => .ok st
  | [_] => .error 0
  | c :: n :: l => if n.toNat ≤ l.length then (match step st c.toNat (l.take n.toNat) with | .ok st' => eachB step st' (l.drop n.toNat) | .error e => .error e) else .error 0
termination_by l.length
decreasing_by simp; omega
theorem each_ct {σ : Type} {I : σ → H → (Nat → Prop) → Prop} {low : Nat} {step : σ → Nat → List UInt8 → Except Nat σ} {fv : V} (T : Tale I low) (ht : TellE fv I step) {h : H} {st : σ} {own : Nat → Prop} (hi : I st h own) {s : List UInt8} (hs : s.length ≤ 1000000000) {Q : V → H → Prop}
    (qe : ∀ e, eachB step st s = .error e → ∀ h', Keeps h h' own (fun _ => False) → Q (badV e) h')
    (qo : ∀ st', eachB step st s = .ok st' → ∀ h' own', I st' h' own' → Keeps h h' own own' → Q fineV h') : Acalls Try.prog 59 [.str s, fv] h Q := by
  refine acalls_to Try.func59 S.open_each_code S.open_each_enter (Nat.le_of_ble_eq_true rfl) fun wf => ?_; simp only [S.open_each]
  have hlow := T.low _ _ _ hi
  have hown := fun j => T.lt _ _ _ j hi
  simp
  refine new_ct ?_
  simp
  obtain ⟨h1, hh1⟩ : ∃ h1, h1 = (h.push (.row [.int .i64 0, .int .u8 0, .int .u8 0])).push (rdr s) := ⟨_, rfl⟩
  have g1 : Ge h h1 := by rw [hh1]; exact ((Ge.refl _).push _).push _
  have w1 : h1.WF := by rw [hh1]; exact (wf.push _).push _
  have n1 : h1.next = h.next + 2 := by rw [hh1]; rfl
  have xr : h1.get h.next = some (.row [.int .i64 0, .int .u8 0, .int .u8 0]) := by rw [hh1]; simp
  have xd : h1.get (h.next + 1) = some (rdr s) := by rw [hh1]; simp
  rw [← hh1]
  refine loopA_of (fun k t h' => ∃ st' l own', l.length = k ∧ l.length ≤ s.length ∧ eachB step st s = eachB step st' l ∧ I st' h' own' ∧ (t 1 = fv ∧ t 4 = .ptr h.next 3 0 ∧ t 5 = .ptr (h.next + 1) 2 0) ∧ h'.get (h.next + 1) = some (rdr l) ∧ h'.get h.next = some (.row [.int .i64 0, .int .u8 0, .int .u8 0]) ∧
    h'.WF ∧ h.next + 2 ≤ h'.next ∧ (∀ j, j < h.next → ¬ own j → h'.get j = h.get j) ∧ ∀ j, own' j → own j ∨ h.next + 2 ≤ j) (n := s.length) ⟨st, s, own, rfl, Nat.le_refl _, rfl, T.mono _ _ _ _ hi g1.1 w1 (fun j hj _ => g1.2 j hj), by simp, xd, xr, w1, by omega, fun j hj _ => g1.2 j hj, fun j hj => .inl hj⟩ ?_
  rintro k t h2 ⟨st', l, own', hk, hle, hev, hI, ⟨t1, t4, t5⟩, xd, xr, w2, n2, fr, ow⟩ N hN
  have no1 : ¬ own' (h.next + 1) := fun hh => (ow _ hh).elim (fun h1 => by have := hown _ h1; omega) (fun h1 => by omega)
  have no0 : ¬ own' h.next := fun hh => (ow _ hh).elim (fun h1 => by have := hown _ h1; omega) (fun h1 => by omega)
  have err : ∀ e (g : H), eachB step st s = .error e → g.WF → h.next + 2 ≤ g.next → (∀ j, j < h.next → ¬ own j → g.get j = h.get j) → Q (badV e) (g.set h.next (.row [.int .i64 3, .int .u8 2, .int .u8 (e : Nat)])) := fun e g he wg ng fg => by
    refine qe e he _ ⟨wg.set (by omega) _, by simp; omega, fun j hj hno => ?_, fun _ h => h.elim⟩
    rw [H.get_set, if_neg (by omega), fg j hj hno]
  simp [t5]
  refine left_ct xd _ ?_
  match l, hk, hle, hev, xd with
  | [], hk, hle, hev, xd =>
    have hend : eachB step st s = .ok st' := by rw [hev]; simp [eachB]
    simp [t4, xr]
    refine qo st' hend _ own' (T.mono _ _ _ _ hI (by simp) (w2.set (by omega) _) (fun j hj hno => ?_)) ⟨w2.set (by omega) _, by simp; omega, fun j hj hno => ?_, fun j hj => (ow j hj).imp id (fun h => by omega)⟩
    · rw [H.get_set, if_neg]
      rintro rfl
      rcases hno with h | h
      · omega
      · exact no0 h
    · rw [H.get_set, if_neg (by omega), fr j hj hno]
  | [c], hk, hle, hev, xd =>
    have hend : eachB step st s = .error 0 := by rw [hev]; simp [eachB]
    simp [t5]
    refine number_yes xd 1 rfl (by omega) (by simp) ?_
    simp [t5]
    refine number_no (l := []) (by simp) 1 rfl (by omega) (by simp) _ ?_
    simp [t5]
    refine take_yes (l := []) (by simp) 0 (by decide) (by simp) ?_
    simp
    refine reset_ct _ ?_
    simp [t4, xr]
    have := err 0 (h2.set (h.next + 1) (rdr [])) hend (w2.set (by omega) _) (by simp; omega) (fun j hj hno => by rw [H.get_set, if_neg (by omega), fr j hj hno])
    exact this
  | c :: n :: l, hk, hle, hev, xd =>
    have hp : (0 : Int) < (l.length : Int) + 1 + 1 := by omega
    simp [t5, hp]
    refine number_yes xd 1 rfl (by omega) (by simp) ?_
    simp [t5]
    refine number_yes (l := n :: l) (by simp) 1 rfl (by omega) (by simp) ?_
    have vn : val [n] = n.toNat := by simp [val]
    have vc : val [c] = c.toNat := by simp [val]
    have hnl : n.toNat < 256 := n.toNat_lt
    have hcl : c.toNat < 256 := c.toNat_lt
    have wn : IntKind.i64.wrap (n.toNat : Int) = (n.toNat : Int) := wrap_nat (by omega)
    simp [t5, vn, vc, wn]
    by_cases hnn : n.toNat ≤ l.length
    · have hev' : eachB step st s = (match step st' c.toNat (l.take n.toNat) with | .ok st' => eachB step st' (l.drop n.toNat) | .error e => .error e) := by
        rw [hev, eachB, if_pos hnn]
      refine take_yes (l := l) (by simp) n.toNat rfl hnn ?_
      obtain ⟨g, hg⟩ : ∃ g, g = h2.set (h.next + 1) (rdr (l.drop n.toNat)) := ⟨_, rfl⟩
      have ng : g.next = h2.next := by rw [hg]; rfl
      have wg : g.WF := by rw [hg]; exact w2.set (by omega) _
      have gd : g.get (h.next + 1) = some (rdr (l.drop n.toNat)) := by rw [hg]; simp
      have gr : g.get h.next = some (.row [.int .i64 0, .int .u8 0, .int .u8 0]) := by rw [hg, H.get_set, if_neg (by omega), xr]
      have gf : ∀ j, j < h.next → ¬ own j → g.get j = h.get j := fun j hj hno => by rw [hg, H.get_set, if_neg (by omega), fr j hj hno]
      have hIg : I st' g own' := T.mono _ _ _ _ hI (by omega) wg (fun j hj hno => by
        rw [hg, H.get_set, if_neg]
        rintro rfl
        rcases hno with h | h
        · omega
        · exact no1 h)
      have hsg : (h2.set (h.next + 1) (rdr l)).set (h.next + 1) (rdr (l.drop n.toNat)) = g := by rw [hg]; simp
      rw [hsg]
      simp [t1]
      refine ht st' g own' c.toNat (l.take n.toNat) wg hIg hcl (by simp; omega) _ (fun e he h3 kp => ?_) (fun st2 he h3 own2 hI3 kp => ?_)
      · rw [he] at hev'
        have n3 := kp.next
        have r3 : h3.get h.next = some (.row [.int .i64 0, .int .u8 0, .int .u8 0]) := by rw [kp.old _ (by omega) no0, gr]
        simp [badV, t4, r3, show ¬ h.next = h3.next by omega]
        refine qe e hev' _ ⟨?_, by simp; omega, fun j hj hno => ?_, fun _ h => h.elim⟩
        · exact ((kp.wf.push _).set (by simp) _).set (by simp; omega) _
        · rw [H.get_set, if_neg (by omega), H.get_set, if_neg (by omega), H.get_push, if_neg (by omega), kp.old j (by omega) (fun h => (ow j h).elim hno (fun h => by omega)), gf j hj hno]
      · rw [he] at hev'
        have n3 := kp.next
        have r3 : h3.get h.next = some (.row [.int .i64 0, .int .u8 0, .int .u8 0]) := by rw [kp.old _ (by omega) no0, gr]
        have d3 : h3.get (h.next + 1) = some (rdr (l.drop n.toNat)) := by rw [kp.old _ (by omega) no1, gd]
        simp [fineV]
        have ow3 : ∀ j, own2 j → own j ∨ h.next + 2 ≤ j := fun j hj => (kp.own j hj).elim (ow j) (fun h => .inr (by omega))
        have g45 : Ge h3 ((h3.push (.row [.int .i64 0, .int .u8 0, .int .u8 0])).set h3.next (.row [.int .i64 0, .int .u8 0, .int .u8 0])) := ((Ge.refl _).push _).set (Nat.le_refl _) _
        have w45 : ((h3.push (.row [.int .i64 0, .int .u8 0, .int .u8 0])).set h3.next (.row [.int .i64 0, .int .u8 0, .int .u8 0])).WF := (kp.wf.push _).set (by simp) _
        refine hN ((l.drop n.toNat).length) _ _ (by simp at hk ⊢; omega) ⟨st2, l.drop n.toNat, own2, rfl, by simp at hle ⊢; omega, hev', T.mono _ _ _ _ hI3 g45.1 w45 (fun j hj _ => g45.2 j hj), by simp [t1, t4, t5], ?_, ?_, w45, by simp; omega, fun j hj hno => ?_, ow3⟩
        · rw [g45.2 _ (by omega), d3]
        · rw [g45.2 _ (by omega), r3]
        · rw [g45.2 _ (by omega), kp.old j (by omega) (fun h => (ow j h).elim hno (fun h => by omega)), gf j hj hno]
    · have hend : eachB step st s = .error 0 := by rw [hev, eachB, if_neg hnn]
      refine take_no (l := l) (by simp) (.inr (by omega)) _ ?_
      simp
      refine reset_ct _ ?_
      simp [t4, xr]
      have := err 0 (h2.set (h.next + 1) (rdr l)) hend (w2.set (by omega) _) (by simp; omega) (fun j hj hno => by rw [H.get_set, if_neg (by omega), fr j hj hno])
      exact this

/-! ### The open in the making -/
def IO (base : H) (q : Nat) (o : Opn) (h : H) (own : Nat → Prop) : Prop := FamOk o.fams ∧ q < base.next ∧ ∃ f a k, Rws base h q base.next (oR o) (oL o f a k) ∧ own = owns q f a k
theorem owns_lt {base h : H} {q lo : Nat} {r : List V → List V} {o : Opn} {f a k : V} (X : Rws base h q lo r (oL o f a k)) (hq : q < h.next) {j : Nat} (hj : owns q f a k j) : j < h.next := by
  rcases Nat.lt_or_ge j h.next with h1 | h1
  · exact h1
  · exact absurd hj (not_owns X hq h1)
theorem tale {base : H} {q : Nat} : Tale (IO base q) base.next where
  mono := by
    rintro o h own h' ⟨hF, hq, f, a, k, X, rfl⟩ hn hw hk
    have hn0 := X.ge.1
    simp only [H.next_set] at hn0
    obtain ⟨g1, g2, g3, d1, d2, d3⟩ := X.gl3
    refine ⟨hF, hq, f, a, k, Rws.mk3 ⟨by simp; omega, fun j hj => ?_⟩ hw (g1.keep hn fun j hj => hk j (g1.lo j hj).2 (.inr (.inr (.inl hj)))) (g2.keep hn fun j hj => hk j (g2.lo j hj).2 (.inr (.inr (.inr (.inl hj))))) (g3.keep hn fun j hj => hk j (g3.lo j hj).2 (.inr (.inr (.inr (.inr hj))))) d1 d2 d3, rfl⟩
    simp only [H.next_set] at hj
    rw [hk j (by omega) (.inl hj)]
    exact X.ge.2 j hj
  lt := by
    rintro o h own j ⟨hF, hq, f, a, k, X, rfl⟩ hj
    have hn0 := X.ge.1
    simp only [H.next_set] at hn0
    exact owns_lt X (by omega) hj
  low := by
    rintro o h own ⟨hF, hq, f, a, k, X, rfl⟩
    have hn0 := X.ge.1
    simpa using hn0
theorem capS_fam {o o' : Opn} {code : Nat} {s : List UInt8} (h : FamOk o.fams) (e : capS o code s = .ok o') : FamOk o'.fams := by
  unfold capS at e
  repeat' split at e
  all_goals first | (cases e; done) | (cases e; first | exact h | (simp only; exact withB_ok _ _))
theorem tell61 {base : H} {q : Nat} : TellE (.func (.func 61) [] [.ptr q 11 0]) (IO base q) capS := by
  rintro o h own code bytes wf0 ⟨hF, hq, f, a, k, X, rfl⟩ hc hb Q qe qo
  simp
  refine (?_ : Acalls Try.prog 61 [.int .u64 (code : Nat), .str bytes, .ptr q 11 0] h Q)
  refine acalls_to Try.func61 S.open_Decode_1_1_code S.open_Decode_1_1_enter (Nat.le_of_ble_eq_true rfl) fun wf => ?_; simp only [S.open_Decode_1_1]
  have hn0 := X.ge.1
  simp only [H.next_set] at hn0
  simp
  have g1 : Ge h (h.push (.row [.int .i64 0, .int .u8 0, .int .u8 0])) := (Ge.refl _).push _
  have X1 := X.step g1 (wf.push _)
  have no : ¬ owns q f a k h.next := not_owns X (by omega) (Nat.le_refl _)
  refine cap_ct X1 hq rfl hF hc hb (fun e he h2 g2 w2 => ?_) (fun o' he f' a' k' h2 X2 kp => ?_)
  · have r2 : h2.get h.next = some (.row [.int .i64 0, .int .u8 0, .int .u8 0]) := by rw [g2.2 _ (by simp)]; simp
    have n2 := g2.1
    simp at n2
    simp [badV, r2]
    refine qe e he _ ⟨w2.set (by omega) _, by simp; omega, fun j hj hno => ?_, fun _ h => h.elim⟩
    rw [H.get_set, if_neg (by omega), g2.2 _ (by simp; omega), H.get_push, if_neg (by omega)]
  · have n2 := kp.next
    simp at n2
    have r2 : h2.get h.next = some (.row [.int .i64 0, .int .u8 0, .int .u8 0]) := by rw [kp.old _ (by simp) no]; simp
    have no' : ¬ owns q f' a' k' h.next := fun hh => (kp.own _ hh).elim no (fun h => by simp at h; omega)
    simp [fineV, r2]
    refine qo o' he _ (owns q f' a' k') ⟨capS_fam hF he, hq, f', a', k', X2.turn (by omega) (by omega) (by omega) (oL_ids no') _, rfl⟩ ⟨kp.wf.set (by omega) _, by simp; omega, fun j hj hno => ?_, fun j hj => ?_⟩
    · rw [H.get_set, if_neg (by omega), kp.old _ (by simp; omega) hno, H.get_push, if_neg (by omega)]
    · exact (kp.own j hj).imp id (fun h => by simp at h; omega)
end Go.Am

/-
  Contracts: Decode.
-/
namespace Go.Am
open Go.Proofs

set_option maxRecDepth 100000
def numV (n : Nat) (l : List UInt8) : Nat := if n ≤ l.length then val (l.take n) else 0
def numR (n : Nat) (l : List UInt8) : List UInt8 := if n ≤ l.length then l.drop n else l
theorem number_any {h : H} {i : Nat} {l : List UInt8} (r : h.get i = some (rdr l)) {z : Int} (n : Nat) (ez : z = n) (h1 : 1 ≤ n ∧ n ≤ 8) {Q : V → H → Prop} (q : Q (.tup [.int .u64 (numV n l), .bool (decide (n ≤ l.length))]) (h.set i (rdr (numR n l)))) : Acalls Try.prog 56 [.ptr i 2 0, .int .i64 z] h Q := by
  unfold numV numR at q
  by_cases hn : n ≤ l.length
  · rw [if_pos hn, if_pos hn, decide_eq_true hn] at q
    exact number_yes r n ez h1 hn q
  · rw [if_neg hn, if_neg hn, decide_eq_false hn] at q
    have hs : h.set i (rdr l) = h := H.ext' rfl fun j => by
      rw [H.get_set]; split
      · rename_i e; rw [e, r]
      · rfl
    rw [hs] at q
    exact number_no r n ez h1 (by omega) Q q
def step1 (o : Opn) (kind : Nat) (s : List UInt8) : Except Nat Opn := if kind = 2 then eachB capS o s else .error 4
theorem tell60 {base : H} {q : Nat} : TellE (.func (.func 60) [] [.ptr q 11 0]) (IO base q) step1 := by
  rintro o h own code bytes wf0 hI hc hb Q qe qo
  simp
  refine (?_ : Acalls Try.prog 60 [.int .u64 (code : Nat), .str bytes, .ptr q 11 0] h Q)
  refine acalls_to Try.func60 S.open_Decode_1_code S.open_Decode_1_enter (Nat.le_of_ble_eq_true rfl) fun wf => ?_; simp only [S.open_Decode_1]
  have hlt := fun j => tale.lt _ _ _ j hI
  have hlow := tale.low _ _ _ hI
  have no : ¬ own h.next := fun hh => by have := hlt _ hh; omega
  simp
  cases hL : ((code : Int) != 2) with
  | true =>
    have hk : ¬ code = 2 := by intro e; simp [e] at hL
    simp
    refine reset_ct _ ?_
    simp
    refine qe 4 (by simp [step1, hk]) _ ⟨(wf.push _).set (by simp) _, by simp, fun j hj hno => ?_, fun _ h => h.elim⟩
    rw [H.get_set, if_neg (by omega), H.get_push, if_neg (by omega)]
  | false =>
    have hk : code = 2 := by simp at hL; omega
    have hst : step1 o code bytes = eachB capS o bytes := by simp [step1, hk]
    simp
    have g1 : Ge h (h.push (.row [.int .i64 0, .int .u8 0, .int .u8 0])) := (Ge.refl _).push _
    refine each_ct tale tell61 (tale.mono _ _ _ _ hI g1.1 (wf.push _) (fun j hj _ => g1.2 j hj)) (by omega) (fun e he h2 kp => ?_) (fun o' he h2 own2 hI2 kp => ?_)
    · have n2 := kp.next
      simp at n2
      have r2 : h2.get h.next = some (.row [.int .i64 0, .int .u8 0, .int .u8 0]) := by rw [kp.old _ (by simp) no]; simp
      simp [badV, r2]
      refine qe e (by rw [hst, he]) _ ⟨kp.wf.set (by omega) _, by simp; omega, fun j hj hno => ?_, fun _ h => h.elim⟩
      rw [H.get_set, if_neg (by omega), kp.old _ (by simp; omega) hno, H.get_push, if_neg (by omega)]
    · have n2 := kp.next
      simp at n2
      have r2 : h2.get h.next = some (.row [.int .i64 0, .int .u8 0, .int .u8 0]) := by rw [kp.old _ (by simp) no]; simp
      have no2 : ¬ own2 h.next := fun hh => (kp.own _ hh).elim no (fun h => by simp at h; omega)
      simp [fineV, r2]
      refine qo o' (by rw [hst, he]) _ own2 (tale.mono _ _ _ _ hI2 (by simp) (kp.wf.set (by omega) _) (fun j hj hno => ?_)) ⟨kp.wf.set (by omega) _, by simp; omega, fun j hj hno => ?_, fun j hj => (kp.own j hj).imp id (fun h => by simp at h; omega)⟩
      · rw [H.get_set, if_neg]
        rintro rfl
        rcases hno with h | h
        · omega
        · exact no2 h
      · rw [H.get_set, if_neg (by omega), kp.old _ (by simp; omega) hno, H.get_push, if_neg (by omega)]

def decB (s : List UInt8) : Except Nat Opn :=
  if s.length < 10 then .error 0
  else if val (s.take 1) ≠ 4 then .error 1
  else if val ((s.drop 1).take 2) = 0 then .error 2
  else if val ((s.drop 3).take 2) = 1 ∨ val ((s.drop 3).take 2) = 2 then .error 6
  else if val ((s.drop 5).take 4) = 0 then .error 3
  else if (s.drop 10).length ≠ val ((s.drop 9).take 1) then .error 0
  else match eachB step1 ⟨val ((s.drop 1).take 2), val ((s.drop 3).take 2), val ((s.drop 5).take 4), [], false, false, [], false, false, 0, []⟩ (s.drop 10) with
    | .error e => .error e
    | .ok o => .ok (if o.fams.isEmpty then { o with fams := [1] } else o)
def zeroV : V := .agg [.int .u32 0, .int .i64 0, .int .u32 0, .nilsl, .bool false, .bool false, .nilsl, .bool false, .bool false, .int .i64 0, .nilsl]
structure DecAt (h h2 : H) (o : Opn) (f a k : V) : Prop where
  fams : Gl h2 h.next 1 f (o.fams.map fun x => [.int .i64 x]) ∨ (o.fams = [1] ∧ ∃ j, h.next ≤ j ∧ j < h2.next ∧ f = .sl j 1 0 1 (some 1) ∧ h2.get j = some (.row [.int .i64 1]))
  adds : Gl h2 h.next 3 a (o.adds.map addC)
  kept : Gl h2 h.next 2 k (o.kept.map restC)
theorem decode_ct {h : H} {s : List UInt8} {Q : V → H → Prop}
    (qe : ∀ e, decB s = .error e → ∀ h2, Ge h h2 → h2.WF → Q (.tup [zeroV, badV e]) h2)
    (qo : ∀ o, decB s = .ok o → ∀ f a k h2, Ge h h2 → h2.WF → DecAt h h2 o f a k → Q (.tup [opnV o f a k, fineV]) h2) : Acalls Try.prog 18 [.str s] h Q := by
  refine acalls_to Try.func18 S.open_Decode_code S.open_Decode_enter (Nat.le_of_ble_eq_true rfl) fun wf => ?_; simp only [S.open_Decode]
  simp
  refine new_ct ?_
  obtain ⟨h1, hh1⟩ : ∃ h1, h1 = (h.push (.row [.int .u32 0, .int .i64 0, .int .u32 0, .nilsl, .bool false, .bool false, .nilsl, .bool false, .bool false, .int .i64 0, .nilsl])).push (.row [.int .i64 0, .int .u8 0, .int .u8 0]) := ⟨_, rfl⟩
  have n1 : h1.next = h.next + 2 := by rw [hh1]; rfl
  have g1 : Ge h h1 := by rw [hh1]; exact ((Ge.refl _).push _).push _
  have w1 : h1.WF := by rw [hh1]; exact (wf.push _).push _
  rw [← hh1]
  simp
  have rd : ∀ l, (h1.push (rdr l)).get h1.next = some (rdr l) := fun l => by simp
  obtain ⟨v0, hv0⟩ : ∃ v, v = numV 1 s := ⟨_, rfl⟩
  obtain ⟨l1, hl1⟩ : ∃ l, l = numR 1 s := ⟨_, rfl⟩
  obtain ⟨v1, hv1⟩ : ∃ v, v = numV 2 l1 := ⟨_, rfl⟩
  obtain ⟨l2, hl2⟩ : ∃ l, l = numR 2 l1 := ⟨_, rfl⟩
  obtain ⟨v2, hv2⟩ : ∃ v, v = numV 2 l2 := ⟨_, rfl⟩
  obtain ⟨l3, hl3⟩ : ∃ l, l = numR 2 l2 := ⟨_, rfl⟩
  obtain ⟨v3, hv3⟩ : ∃ v, v = numV 4 l3 := ⟨_, rfl⟩
  obtain ⟨l4, hl4⟩ : ∃ l, l = numR 4 l3 := ⟨_, rfl⟩
  obtain ⟨v4, hv4⟩ : ∃ v, v = numV 1 l4 := ⟨_, rfl⟩
  obtain ⟨l5, hl5⟩ : ∃ l, l = numR 1 l4 := ⟨_, rfl⟩
  refine number_any (rd s) 1 rfl (by omega) ?_
  rw [H.push_set, ← hv0, ← hl1]
  simp
  refine number_any (rd l1) 2 rfl (by omega) ?_
  rw [H.push_set, ← hv1, ← hl2]
  simp
  refine number_any (rd l2) 2 rfl (by omega) ?_
  rw [H.push_set, ← hv2, ← hl3]
  simp
  refine number_any (rd l3) 4 rfl (by omega) ?_
  rw [H.push_set, ← hv3, ← hl4]
  simp
  refine number_any (rd l4) 1 rfl (by omega) ?_
  rw [H.push_set, ← hv4, ← hl5]
  obtain ⟨ib, hib⟩ : ∃ b, b = decide (1 ≤ l4.length) := ⟨_, rfl⟩
  rw [← hib]
  simp
  refine rest_ct (rd l5) ?_
  rw [H.push_set]
  have lt1 : v1 < 65536 := by rw [hv1]; unfold numV; split; exact val_lt2 (by simp; omega); omega
  have lt2 : v2 < 65536 := by rw [hv2]; unfold numV; split; exact val_lt2 (by simp; omega); omega
  have lt3 : v3 < 4294967296 := by rw [hv3]; unfold numV; split; exact val_lt4 (by simp; omega); omega
  have lt4 : v4 < 256 := by rw [hv4]; unfold numV; split; exact val_lt1 (by simp; omega); omega
  have c1 := u32_id (n := v1) (by omega)
  have c2 : IntKind.i64.wrap (v2 : Int) = v2 := wrap_nat (by omega)
  have c3 := u32_id (n := v3) lt3
  have c4 : IntKind.i64.wrap (v4 : Int) = v4 := wrap_nat (by omega)
  simp [c1, c2, c3]
  obtain ⟨o0, ho0⟩ : ∃ o : Opn, o = ⟨v1, v2, v3, [], false, false, [], false, false, 0, []⟩ := ⟨_, rfl⟩
  obtain ⟨b, hb⟩ : ∃ b, b = ((h1.push (rdr [])).push (.row [.int .u32 0, .int .i64 0, .int .u32 0, .nilsl, .bool false, .bool false, .nilsl, .bool false, .bool false, .int .i64 0, .nilsl])).set (h1.next + 1) (.row [.int .u32 v1, .int .i64 v2, .int .u32 v3, .nilsl, .bool false, .bool false, .nilsl, .bool false, .bool false, .int .i64 0, .nilsl]) := ⟨_, rfl⟩
  have gb : Ge h b := by rw [hb]; exact ((g1.push _).push _).set (by omega) _
  have wb : b.WF := by rw [hb]; exact ((w1.push _).push _).set (by simp) _
  have nb : b.next = h.next + 4 := by rw [hb]; simp [n1]
  have xo : b.get (h1.next + 1) = some (.row (opnC o0 .nilsl .nilsl .nilsl)) := by rw [hb, ho0]; simp [opnC]
  have x0 : b.get h.next = some (.row [.int .u32 0, .int .i64 0, .int .u32 0, .nilsl, .bool false, .bool false, .nilsl, .bool false, .bool false, .int .i64 0, .nilsl]) := by
    rw [hb, H.get_set, if_neg (by omega), H.get_push, if_neg (by simp; omega), H.get_push, if_neg (by omega), hh1]; simp
  have x1 : b.get (h.next + 1) = some (.row [.int .i64 0, .int .u8 0, .int .u8 0]) := by
    rw [hb, H.get_set, if_neg (by omega), H.get_push, if_neg (by simp; omega), H.get_push, if_neg (by omega), hh1]; simp
  rw [← hb]
  have bad : ∀ e, decB s = .error e → Q (.tup [zeroV, badV e]) ((b.set h.next (.row [.int .u32 0, .int .i64 0, .int .u32 0, .nilsl, .bool false, .bool false, .nilsl, .bool false, .bool false, .int .i64 0, .nilsl])).set (h.next + 1) (.row [.int .i64 3, .int .u8 2, .int .u8 (e : Nat)])) := fun e he =>
    qe e he _ ((gb.set (Nat.le_refl _) _).set (by omega) _) ((wb.set (by omega) _).set (by simp; omega) _)
  by_cases hlen : s.length < 10
  · have hd : decB s = .error 0 := by simp [decB, hlen]
    have := bad 0 hd
    have hlen' : (s.length : Int) < 10 := by omega
    cases ib <;> simp [hlen'] <;> refine reset_ct _ ?_ <;> simp [x0, x1] <;> exact this
  have e1 : l1 = s.drop 1 := by rw [hl1]; unfold numR; rw [if_pos (by omega)]
  have e2 : l2 = s.drop 3 := by rw [hl2, e1]; unfold numR; rw [if_pos (by simp; omega)]; simp
  have e3 : l3 = s.drop 5 := by rw [hl3, e2]; unfold numR; rw [if_pos (by simp; omega)]; simp
  have e4 : l4 = s.drop 9 := by rw [hl4, e3]; unfold numR; rw [if_pos (by simp; omega)]; simp
  have e5 : l5 = s.drop 10 := by rw [hl5, e4]; unfold numR; rw [if_pos (by simp; omega)]; simp
  have w0 : v0 = val (s.take 1) := by rw [hv0]; unfold numV; rw [if_pos (by omega)]
  have w1' : v1 = val ((s.drop 1).take 2) := by rw [hv1, e1]; unfold numV; rw [if_pos (by simp; omega)]
  have w2 : v2 = val ((s.drop 3).take 2) := by rw [hv2, e2]; unfold numV; rw [if_pos (by simp; omega)]
  have w3 : v3 = val ((s.drop 5).take 4) := by rw [hv3, e3]; unfold numV; rw [if_pos (by simp; omega)]
  have w4 : v4 = val ((s.drop 9).take 1) := by rw [hv4, e4]; unfold numV; rw [if_pos (by simp; omega)]
  have hibt : ib = true := by rw [hib, e4]; simp; omega
  have hd : decB s = (if v0 ≠ 4 then .error 1 else if v1 = 0 then .error 2 else if v2 = 1 ∨ v2 = 2 then .error 6 else if v3 = 0 then .error 3 else if l5.length ≠ v4 then .error 0
      else match eachB step1 o0 l5 with | .error e => .error e | .ok o => .ok (if o.fams.isEmpty then { o with fams := [1] } else o)) := by
    unfold decB
    rw [if_neg hlen, ← w0, ← w1', ← w2, ← w3, ← w4, ← e5, ← ho0]
  have hlen' : ¬ (s.length : Int) < 10 := by omega
  simp [hibt, hlen']
  cases q0 : ((v0 : Int) != 4) with
  | true =>
    have z : v0 ≠ 4 := by intro e; simp [e] at q0
    have := bad 1 (by rw [hd, if_pos z])
    simp
    refine reset_ct _ ?_
    simp [x0, x1]
    exact this
  | false =>
    have z : ¬ v0 ≠ 4 := by simp at q0; omega
    rw [if_neg z] at hd
    simp
    cases q1 : ((v1 : Int) == 0) with
    | true =>
      have z : v1 = 0 := by simp at q1; omega
      have := bad 2 (by rw [hd, if_pos z])
      simp
      refine reset_ct _ ?_
      simp [x0, x1]
      exact this
    | false =>
      have z : ¬ v1 = 0 := by intro e; simp [e] at q1
      rw [if_neg z] at hd
      simp
      cases q2 : ((v2 : Int) == 1) with
      | true =>
        have z : v2 = 1 := by simp at q2; omega
        have := bad 6 (by rw [hd, if_pos (.inl z)])
        simp
        refine reset_ct _ ?_
        simp [x0, x1]
        exact this
      | false =>
        have za : ¬ v2 = 1 := by intro e; simp [e] at q2
        simp
        cases q3 : ((v2 : Int) == 2) with
        | true =>
          have z : v2 = 2 := by simp at q3; omega
          have := bad 6 (by rw [hd, if_pos (.inr z)])
          simp
          refine reset_ct _ ?_
          simp [x0, x1]
          exact this
        | false =>
          have zb : ¬ v2 = 2 := by intro e; simp [e] at q3
          rw [if_neg (by omega)] at hd
          simp
          cases q4 : ((v3 : Int) == 0) with
          | true =>
            have z : v3 = 0 := by simp at q4; omega
            have := bad 3 (by rw [hd, if_pos z])
            simp
            refine reset_ct _ ?_
            simp [x0, x1]
            exact this
          | false =>
            have z : ¬ v3 = 0 := by intro e; simp [e] at q4
            rw [if_neg z] at hd
            simp [c4]
            cases q5 : ((l5.length : Int) != (v4 : Int)) with
            | true =>
              have z : l5.length ≠ v4 := by intro e; simp [e] at q5
              have := bad 0 (by rw [hd, if_pos z])
              simp
              refine reset_ct _ ?_
              simp [x0, x1]
              exact this
            | false =>
              have z : ¬ l5.length ≠ v4 := by simp at q5; omega
              rw [if_neg z] at hd
              simp
              have hself : b.set (h1.next + 1) (.row (opnC o0 .nilsl .nilsl .nilsl)) = b := H.ext' rfl fun j => by
                rw [H.get_set]; split
                · rename_i e; rw [e, xo]
                · rfl
              have hfo : o0.fams = [] := by rw [ho0]
              have hao : o0.adds = [] := by rw [ho0]
              have hko : o0.kept = [] := by rw [ho0]
              have X0 : Rws b b (h1.next + 1) b.next (oR o0) (oL o0 .nilsl .nilsl .nilsl) := Rws.mk3 (by rw [hself]; exact Ge.refl _) wb (by rw [hfo]; exact Gl.nil _ _ _) (by rw [hao]; exact Gl.nil _ _ _) (by rw [hko]; exact Gl.nil _ _ _) (by simp [V.ids]) (by simp [V.ids]) (by simp [V.ids])
              have I0 : IO b (h1.next + 1) o0 b (owns (h1.next + 1) .nilsl .nilsl .nilsl) := ⟨by rw [hfo]; exact ⟨.nil, by simp⟩, by omega, .nilsl, .nilsl, .nilsl, X0, rfl⟩
              have ow0 : ∀ j, owns (h1.next + 1) .nilsl .nilsl .nilsl j → j = h1.next + 1 := fun j hj => by
                rcases hj with h | h | h | h
                · exact h
                all_goals simp [V.ids] at h
              refine each_ct tale tell60 I0 (by omega) (fun e he h2 kp => ?_) (fun o' he h2 own2 hI2 kp => ?_)
              · rw [he] at hd
                have n2 := kp.next
                have y0 : h2.get h.next = _ := (kp.old h.next (by omega) (fun hh => by have := ow0 _ hh; omega)).trans x0
                have y1 : h2.get (h.next + 1) = _ := (kp.old (h.next + 1) (by omega) (fun hh => by have := ow0 _ hh; omega)).trans x1
                have r1 : ¬ h.next = h2.next := by omega
                have r2 : ¬ h.next + 1 = h2.next := by omega
                simp [badV]
                obtain ⟨h3, hh3⟩ : ∃ h3, h3 = (h2.push (.row [.int .i64 0, .int .u8 0, .int .u8 0])).set h2.next (.row [.int .i64 3, .int .u8 2, .int .u8 (e : Nat)]) := ⟨_, rfl⟩
                have g3 : Ge h2 h3 := by rw [hh3]; exact ((Ge.refl _).push _).set (Nat.le_refl _) _
                have w3 : h3.WF := by rw [hh3]; exact (kp.wf.push _).set (by simp) _
                have n3 : h3.next = h2.next + 1 := by rw [hh3]; rfl
                have x17 : cellsAt h3.get h2.next 3 = some [.int .i64 3, .int .u8 2, .int .u8 (e : Nat)] := by rw [hh3]; simp
                have z0 := (g3.2 h.next (by omega)).trans y0
                have z1 := (g3.2 (h.next + 1) (by omega)).trans y1
                rw [← hh3]
                refine dreg_dwp ?_
                simp [x17, z0, z1, upds_one]
                refine dwp_end ?_ ?_
                · intro q hq
                  simp only [List.mem_cons, List.not_mem_nil, or_false] at hq
                  subst hq
                  simp [evAt, apart, I.foot, refOf]
                  omega
                · have hr : room = 16 := rfl
                  simp
                  refine qe e hd _ ⟨by simp; omega, fun j hj => ?_⟩ (fun j hj => ?_)
                  · simp only
                    rw [upds_one, if_neg (by omega), upds_one, if_neg (by omega), g3.2 j (by omega), kp.old j (by omega) (fun hh => by have := ow0 _ hh; omega), gb.2 j hj]
                  · simp only at hj ⊢
                    rw [upds_one, if_neg (by omega), upds_one, if_neg (by omega), w3 j (by omega)]
              · rw [he] at hd
                simp only at hd
                obtain ⟨hF2, _, f, a, k, X2, rfl⟩ := hI2
                have n2 := kp.next
                have y0 : h2.get h.next = _ := (kp.old h.next (by omega) (fun hh => by have := ow0 _ hh; omega)).trans x0
                have y1 : h2.get (h.next + 1) = _ := (kp.old (h.next + 1) (by omega) (fun hh => by have := ow0 _ hh; omega)).trans x1
                obtain ⟨h3, hh3⟩ : ∃ h3, h3 = (h2.push (.row [.int .i64 0, .int .u8 0, .int .u8 0])).set h2.next (.row [.int .i64 0, .int .u8 0, .int .u8 0]) := ⟨_, rfl⟩
                have g3 : Ge h2 h3 := by rw [hh3]; exact ((Ge.refl _).push _).set (Nat.le_refl _) _
                have w3 : h3.WF := by rw [hh3]; exact (kp.wf.push _).set (by simp) _
                have n3 : h3.next = h2.next + 1 := by rw [hh3]; rfl
                have x17 : cellsAt h3.get h2.next 3 = some [.int .i64 0, .int .u8 0, .int .u8 0] := by rw [hh3]; simp
                have z0 := (g3.2 h.next (by omega)).trans y0
                have z1 := (g3.2 (h.next + 1) (by omega)).trans y1
                have x216 := X2.at3 (by omega)
                have c216 : cellsAt h2.get (h1.next + 1) 11 = some (opnC o' f a k) := by rw [cellsAt_of x216 (by simp [opnC])]; rfl
                have qq : ¬ h1.next + 1 = h2.next := by omega
                have X3 := X2.step g3 w3
                have x16 := X3.at3 (by omega)
                obtain ⟨gf, ga, gk, d1, d2, d3⟩ := X3.gl3
                have fo := gf.one
                have ao := ga.one
                have ko := gk.one
                have c16 : cellsAt h3.get (h1.next + 1) 11 = some (opnC o' f a k) := by rw [cellsAt_of x16 (by simp [opnC])]; rfl
                have hr : room = 16 := rfl
                have q1 : ¬ h2.next = h1.next + 1 := by omega
                have gh3 : ∀ j, j < h.next → h3.get j = h.get j := fun j hj => by rw [g3.2 j (by omega), kp.old j (by omega) (fun hh => by have := ow0 _ hh; omega), gb.2 j hj]
                simp only [opnC] at c16 x16 c216
                cases hfe : o'.fams with
                | nil =>
                  have hfn : f = .nilsl := by
                    rcases gf with ⟨_, e⟩ | ⟨e, _⟩
                    · exact e
                    · rw [hfe] at e; exact absurd rfl e
                  have hd' : decB s = .ok { o' with fams := [1] } := by rw [hd, hfe]; rfl
                  subst hfn
                  have q2 : ¬ h1.next + 1 = h3.next := by omega
                  have q3 : ¬ h2.next = h3.next := by omega
                  have q4 : ¬ h.next = h3.next := by omega
                  have q5 : ¬ h.next + 1 = h3.next := by omega
                  simp only [opnC] at x216
                  simp [fineV, c216, x216, qq, show ¬ h1.next = h2.next by omega, show (V.sl (h2.next + 1) 1 0 1 (some 1)).solid = true from rfl]
                  rw [← hh3]
                  refine dreg_dwp ?_
                  have q6 : ¬ h.next = h1.next + 1 := by omega
                  have q7 : ¬ h.next = h1.next := by omega
                  simp [x17, z0, z1, q1, q3, q4, q5, q6, q7, upds_one, ao, ko]
                  refine dwp_end ?_ ?_
                  · intro q hq
                    simp only [List.mem_cons, List.not_mem_nil, or_false] at hq
                    subst hq
                    simp [evAt, apart, I.foot, refOf]
                    omega
                  · simp
                    obtain ⟨vf, hvf⟩ : ∃ v, v = V.sl (h2.next + 1) 1 0 1 (some 1) := ⟨_, rfl⟩
                    rw [← hvf]
                    obtain ⟨H4, hH4⟩ : ∃ H4 : H, H4 = ⟨h3.next + 1 + 4 * room, upds (upds ((h3.push (.row [.int .i64 1])).set (h1.next + 1) (.row [.int .u32 o'.asn, .int .i64 o'.hold, .int .u32 o'.id, vf, .bool o'.four, .bool o'.refresh, a, .bool o'.hasgr, .bool o'.again, .int .i64 o'.time, k])).get [(h.next, .row [.int .u32 o'.asn, .int .i64 o'.hold, .int .u32 o'.id, vf, .bool o'.four, .bool o'.refresh, a, .bool o'.hasgr, .bool o'.again, .int .i64 o'.time, k])]) [(h.next + 1, .row [.int .i64 0, .int .u8 0, .int .u8 0])]⟩ := ⟨_, rfl⟩
                    rw [← hH4]
                    have m4 : ∀ j, j ≠ h.next → j ≠ h.next + 1 → j ≠ h1.next + 1 → j ≠ h3.next → H4.get j = h3.get j := fun j a1 a2 a3 a4 => by
                      rw [hH4]; simp only; rw [upds_one, if_neg a2, upds_one, if_neg a1, H.get_set, if_neg a3, H.get_push, if_neg a4]
                    have m5 : H4.get (h2.next + 1) = some (.row [.int .i64 1]) := by
                      rw [hH4]; simp only; rw [upds_one, if_neg (by omega), upds_one, if_neg (by omega), H.get_set, if_neg (by omega), H.get_push, if_pos (by omega)]
                    have n4 : h3.next + 1 ≤ H4.next := by rw [hH4]; simp
                    refine qo { o' with fams := [1] } hd' vf a k H4 ⟨by omega, fun j hj => by rw [m4 j (by omega) (by omega) (by omega) (by omega), gh3 j hj]⟩ (fun j hj => ?_) ⟨.inr ⟨rfl, h2.next + 1, by omega, by omega, hvf, m5⟩, (ga.keep (by omega) (fun j hj => ?_)).lower (by omega), (gk.keep (by omega) (fun j hj => ?_)).lower (by omega)⟩
                    · rw [m4 j (by omega) (by omega) (by omega) (by omega), w3 j (by omega)]
                    · have := ga.lo j hj; rw [m4 j (by omega) (by omega) (by omega) (by omega)]
                    · have := gk.lo j hj; rw [m4 j (by omega) (by omega) (by omega) (by omega)]
                | cons f0 fl =>
                  have hlen := (gf.sls (by simp) (by simp; have := hF2.len; omega)).len
                  have hln : ∀ g : Nat → Option O, lenV 1 g f = some (.int .i64 ((o'.fams.length : Nat) : Int)) := fun g => by
                    rcases gf with ⟨e, _⟩ | ⟨_, j, _, _, e, _⟩
                    · rw [hfe] at e; cases e
                    · rw [e]; simp [lenV]
                  have hne0 : (((o'.fams.length : Nat) : Int) == 0) = false := by rw [hfe]; simp; omega
                  simp [fineV, c216, qq, hln, hne0]
                  rw [← hh3]
                  refine dreg_dwp ?_
                  simp [c16, x17, z0, z1, upds_one, fo, ao, ko]
                  refine dwp_end ?_ ?_
                  · intro q hq
                    simp only [List.mem_cons, List.not_mem_nil, or_false] at hq
                    subst hq
                    simp [evAt, apart, I.foot, refOf]
                    omega
                  · simp
                    have hd' : decB s = .ok o' := by rw [hd, hfe]; rfl
                    obtain ⟨H4, hH4⟩ : ∃ H4 : H, H4 = ⟨h3.next + 4 * room, upds (upds h3.get [(h.next, .row [.int .u32 o'.asn, .int .i64 o'.hold, .int .u32 o'.id, f, .bool o'.four, .bool o'.refresh, a, .bool o'.hasgr, .bool o'.again, .int .i64 o'.time, k])]) [(h.next + 1, .row [.int .i64 0, .int .u8 0, .int .u8 0])]⟩ := ⟨_, rfl⟩
                    rw [← hH4]
                    have m4 : ∀ j, j ≠ h.next → j ≠ h.next + 1 → H4.get j = h3.get j := fun j a1 a2 => by rw [hH4]; simp only; rw [upds_one, if_neg a2, upds_one, if_neg a1]
                    have n4 : h3.next ≤ H4.next := by rw [hH4]; simp
                    refine qo o' hd' f a k H4 ⟨by omega, fun j hj => by rw [m4 j (by omega) (by omega), gh3 j hj]⟩ (fun j hj => ?_) ⟨.inl ((gf.keep n4 (fun j hj => ?_)).lower (by omega)), (ga.keep n4 (fun j hj => ?_)).lower (by omega), (gk.keep n4 (fun j hj => ?_)).lower (by omega)⟩
                    · rw [m4 j (by omega) (by omega), w3 j (by omega)]
                    · have := (gf.lo j hj).1; rw [m4 j (by omega) (by omega)]
                    · have := (ga.lo j hj).1; rw [m4 j (by omega) (by omega)]
                    · have := (gk.lo j hj).1; rw [m4 j (by omega) (by omega)]
end Go.Am
