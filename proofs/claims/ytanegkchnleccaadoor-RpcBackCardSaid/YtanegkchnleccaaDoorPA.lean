/-
  N0, WN, N1, N2, N3, N4, N5, T0, T1, in one text.
-/
import Derived.Test.YtanegkchnleccaaDoorAm30
import Derived.Test.YtanegkchnleccaaDoorSkP
import Derived.Test.YtanegkchnleccaaDoorAm31
import Derived.Test.YtanegkchnleccaaDoorAm35
import Derived.Lib.Bytealg
/-
  Numbers and their bytes; a call that turns one object.
-/
namespace Go.Am

/-- A call that turns one object, and whose other makings are let go. -/
theorem Acalls.turn {P : Program} {f : FuncId} {args : List V} {h : H} {i : Nat} {o' : O} {Q : V → H → Prop} (hi : ∃ o, h.get i = some o) (ho : o'.ids = [])
    (c : h.WF → Acalls P f args h fun v h1 => Ge (h.set i o') h1 ∧ v.ids = [] ∧ Q v (h.set i o')) (he : enterable P f = true) : Acalls P f args h Q := by
  refine Acalls.cl he fun wf cl => Acalls.rename ((c wf).mono ?_)
  rintro v h1 ⟨hg, hv, hq⟩
  obtain ⟨oi, hoi⟩ := hi
  have hlt := wf.lt hoi
  have w2 : (h.set i o').WF := wf.set hlt _
  have liv : ∀ k, (∃ o, h.get k = some o) → ∃ o, (h.set i o').get k = some o := fun k ⟨o, hk⟩ => by
    rw [H.get_set]; split
    · exact ⟨_, rfl⟩
    · exact ⟨o, hk⟩
  refine ⟨id, v, h.set i o', (V.ren_id (σ := id) v (fun _ _ => rfl)).symm, ⟨fun k o hk => by rw [show o.ren id = o from O.ren_id (σ := id) o (fun _ _ => rfl)]; exact hg.keeps w2 k o hk, fun _ _ _ _ _ _ e => e, fun k o hk j hj => ?_, w2⟩, fun k hk => (by rw [hv] at hk; cases hk), fun k o hk => ⟨rfl, liv k ⟨o, hk⟩⟩, hq⟩
  rw [H.get_set] at hk
  split at hk
  · cases hk
    rw [ho] at hj; cases hj
  · exact liv j (cl k o hk j hj)

theorem H.push_set (h : H) (o o' : O) : (h.push o).set h.next o' = h.push o' := H.ext' rfl fun j => by
  rw [H.get_set, H.get_push, H.get_push]; split <;> simp_all
/-- A reader. -/
def rdr (l : List UInt8) : O := .row [.bool true, .str l]
def val (l : List UInt8) : Nat := l.foldl (fun a b => a * 256 + b.toNat) 0
theorem val_snoc (l : List UInt8) (b : UInt8) : val (l ++ [b]) = val l * 256 + b.toNat := by simp [val]
theorem val_lt : ∀ (n : Nat) (l : List UInt8), l.length = n → val l < 256 ^ n := by
  intro n
  induction n with
  | zero => intro l hl; have : l = [] := List.length_eq_zero_iff.1 hl; subst this; simp [val]
  | succ n ih =>
    intro l hl
    have hne : l ≠ [] := by intro e; subst e; simp at hl
    have h1 := ih l.dropLast (by simp [hl])
    rw [← List.dropLast_concat_getLast hne, val_snoc]
    have := (l.getLast hne).toNat_lt
    rw [Nat.pow_succ]; omega
theorem val_lt8 {l : List UInt8} (hl : l.length ≤ 8) : val l < 18446744073709551616 :=
  Nat.lt_of_lt_of_le (val_lt _ l rfl) (by
    have := Nat.pow_le_pow_right (show 0 < 256 by omega) hl
    have e : 256 ^ 8 = 18446744073709551616 := by decide
    omega)

theorem u64_id {n : Nat} (h : n < 18446744073709551616) : IntKind.u64.wrap (n : Int) = n := by simp [IntKind.wrap, IntKind.bits, IntKind.signed]; omega
/-- A number's bytes, the highest one first. -/
def be : Nat → Nat → List UInt8
  | 0, _ => []
  | n + 1, v => UInt8.ofNat (v / 256 ^ n) :: be n v
theorem be_len : ∀ n v, (be n v).length = n
  | 0, _ => rfl
  | n + 1, v => by rw [be, List.length_cons, be_len n v]

theorem foldl_val : ∀ (l : List UInt8) (a : Nat), l.foldl (fun a b => a * 256 + b.toNat) a = a * 256 ^ l.length + val l
  | [], a => by simp [val]
  | x :: l, a => by
    have h0 := foldl_val l x.toNat
    have h1 := foldl_val l (a * 256 + x.toNat)
    have e : val (x :: l) = l.foldl (fun a b => a * 256 + b.toNat) x.toNat := by simp [val]
    rw [List.foldl_cons, h1, e, h0, List.length_cons, Nat.pow_succ, Nat.add_mul, Nat.mul_assoc, Nat.mul_comm 256]; omega
theorem val_cons (x : UInt8) (l : List UInt8) : val (x :: l) = x.toNat * 256 ^ l.length + val l := by
  have := foldl_val l x.toNat
  simpa [val] using this
theorem val_be : ∀ n v : Nat, val (be n v) = v % 256 ^ n
  | 0, v => by simp [be, val, Nat.mod_one]
  | n + 1, v => by
    rw [be, val_cons, val_be n v, be_len, Nat.pow_succ, Nat.mod_mul]
    have : (UInt8.ofNat (v / 256 ^ n)).toNat = v / 256 ^ n % 256 := by simp
    rw [this, Nat.mul_comm]; omega
theorem val_be_lt {n v : Nat} (h : v < 256 ^ n) : val (be n v) = v := by rw [val_be, Nat.mod_eq_of_lt h]

end Go.Am

/-
  Contracts of the layer of bytes: readers, Put.
-/
namespace Go.Am
open Go.Proofs

theorem new_ct {h : H} {l : List UInt8} {Q : V → H → Prop} (q : Q (.ptr h.next 2 0) (h.push (rdr l))) : Acalls Tryd.prog 23 [.str l] h Q := by
  refine acalls_to Tryd.func23 S.wire_New_code S.wire_New_enter (Nat.le_of_ble_eq_true rfl) fun wf => ?_; simp only [S.wire_New]
  simp
  exact q
theorem left_ct {h : H} {i : Nat} {l : List UInt8} (r : h.get i = some (rdr l)) : Pure Tryd.prog 29 [.ptr i 2 0] h (.int .i64 l.length) := by
  refine pure_to Tryd.func29 S.wire_Reader_Left_code S.wire_Reader_Left_enter rfl (Nat.le_of_ble_eq_true rfl) fun wf => ?_; simp only [S.wire_Reader_Left]
  simp [cellsAt_of r, rdr, eqV]
theorem take_yes {h : H} {i : Nat} {l : List UInt8} (r : h.get i = some (rdr l)) {z : Int} (n : Nat) (ez : z = n) (hn : n ≤ l.length) {Q : V → H → Prop} (q : Q (.tup [.str (l.take n), .bool true]) (h.set i (rdr (l.drop n)))) : Acalls Tryd.prog 27 [.ptr i 2 0, .int .i64 z] h Q := by
  subst ez
  refine acalls_to Tryd.func27 S.wire_Reader_Take_code S.wire_Reader_Take_enter (Nat.le_of_ble_eq_true rfl) fun wf => ?_; simp only [S.wire_Reader_Take]
  have n0 : ¬ (n : Int) < 0 := by omega
  have n1 : ¬ (l.length : Int) < n := by omega
  have r' : h.get i = some (.row [.bool true, .str l]) := r
  simp [cellsAt_of r, r', rdr, eqV, n0, n1, hn]
  exact q
theorem take_no {h : H} {i : Nat} {l : List UInt8} (r : h.get i = some (rdr l)) {z : Int} (hz : z < 0 ∨ (l.length : Int) < z) : Pure Tryd.prog 27 [.ptr i 2 0, .int .i64 z] h (.tup [.str [], .bool false]) := by
  refine pure_to Tryd.func27 S.wire_Reader_Take_code S.wire_Reader_Take_enter rfl (Nat.le_of_ble_eq_true rfl) fun wf => ?_; simp only [S.wire_Reader_Take]
  have r' : h.get i = some (.row [.bool true, .str l]) := r
  by_cases h0 : z < 0
  · simp [cellsAt_of r, rdr, eqV, h0]
  · have h1 : (l.length : Int) < z := by omega
    simp [cellsAt_of r, rdr, eqV, h0, h1]
theorem or_low : ∀ v b : Nat, b < 256 → v * 256 + b < 18446744073709551616 → (BitVec.ofInt 64 ((v * 256 : Nat) : Int) ||| BitVec.ofInt 64 (b : Int)).toNat = v * 256 + b := by
  intro v b hb hv
  have h1 : (BitVec.ofInt 64 ((v * 256 : Nat) : Int)).toNat = 2 ^ 8 * v := by simp [BitVec.toNat_ofInt]; omega
  have h2 : (BitVec.ofInt 64 (b : Int)).toNat = b := by simp; omega
  rw [BitVec.toNat_or, h1, h2, ← Nat.two_pow_add_eq_or_of_lt (by omega)]; omega
theorem more_ct {h : H} {j : Nat} {v : Nat} (r : h.get j = some (.row [.int .u64 v])) {b : UInt8} (hv : v * 256 + b.toNat < 18446744073709551616) {Q : V → H → Prop} (q : Q (.tup []) (h.set j (.row [.int .u64 ((v * 256 + b.toNat : Nat) : Int)]))) : Acalls Tryd.prog 44 [byteV b, .ptr j 1 0] h Q := by
  refine acalls_to Tryd.func44 S.wire_sum_1_code S.wire_sum_1_enter (Nat.le_of_ble_eq_true rfl) fun wf => ?_; simp only [S.wire_sum_1]
  have hb : b.toNat < 256 := b.toNat_lt
  have w1 : IntKind.u64.wrap ((v : Int) * 2 ^ min 8 IntKind.u64.bits) = ((v * 256 : Nat) : Int) := by simp [IntKind.wrap, IntKind.bits, IntKind.signed]; omega
  have w2 : IntKind.u64.wrap (b.toNat : Int) = (b.toNat : Int) := u64_id (by omega)
  have orb : intV .or .u64 ((v * 256 : Nat) : Int) (b.toNat : Int) = some (.int .u64 ((v * 256 + b.toNat : Nat) : Int)) := by
    show some (V.int .u64 (IntKind.u64.wrap ((BitVec.ofInt 64 ((v * 256 : Nat) : Int) ||| BitVec.ofInt 64 (b.toNat : Int)).toNat : Int))) = _
    rw [or_low v b.toNat hb hv, u64_id hv]
  simp only [byteV]
  simp [cellsAt_of r]
  rw [w1, w2, orb]
  simp [r]
  simpa using q
theorem value_ct {h : H} {j : Nat} {v : Int} (r : h.get j = some (.row [.int .u64 v])) : Pure Tryd.prog 45 [.ptr j 1 0] h (.int .u64 v) := by
  refine pure_to Tryd.func45 S.wire_sum_2_code S.wire_sum_2_enter rfl (Nat.le_of_ble_eq_true rfl) fun wf => ?_; simp only [S.wire_sum_2]
  simp [cellsAt_of r]
theorem sum_ct {h : H} {Q : V → H → Prop} (q : Q (.tup [.func (.func 44) [] [.ptr h.next 1 0], .func (.func 45) [] [.ptr h.next 1 0]]) (h.push (.row [.int .u64 0]))) : Acalls Tryd.prog 34 [] h Q := by
  refine acalls_to Tryd.func34 S.wire_sum_code S.wire_sum_enter (Nat.le_of_ble_eq_true rfl) fun wf => ?_; simp only [S.wire_sum]
  simp
  rw [H.push_set]; exact q

set_option maxRecDepth 100000
theorem number_yes {h : H} {i : Nat} {l : List UInt8} (r : h.get i = some (rdr l)) {z : Int} (n : Nat) (ez : z = n) (h1 : 1 ≤ n ∧ n ≤ 8) (hn : n ≤ l.length) {Q : V → H → Prop} (q : Q (.tup [.int .u64 (val (l.take n)), .bool true]) (h.set i (rdr (l.drop n)))) : Acalls Tryd.prog 25 [.ptr i 2 0, .int .i64 z] h Q := by
  subst ez
  refine Acalls.turn (i := i) (o' := rdr (l.drop n)) ⟨_, r⟩ rfl (fun wf => ?_) (by kernel_rfl)
  refine acalls_to Tryd.func25 S.wire_Reader_Number_code S.wire_Reader_Number_enter (Nat.le_of_ble_eq_true rfl) fun wf => ?_; simp only [S.wire_Reader_Number]
  have e1 : ¬ (n : Int) < 1 := by omega
  have e2 : ¬ (8 : Int) < n := by omega
  have hlt := wf.lt r
  simp [e1, e2]
  refine take_yes r n rfl hn ?_
  simp
  refine sum_ct ?_
  have hl : (l.take n).length = n := by rw [List.length_take]; omega
  simp [hl]
  obtain ⟨g, hg⟩ : ∃ g, g = h.set i (rdr (l.drop n)) := ⟨_, rfl⟩
  have gn : g.next = h.next := by rw [hg]; rfl
  rw [← hg, ← gn]
  refine loop_up (fun k t h' => (t 7 = .str (l.take n) ∧ t 8 = .bool true ∧ t 9 = .func (.func 44) [] [.ptr g.next 1 0] ∧ t 10 = .func (.func 45) [] [.ptr g.next 1 0] ∧ t 31 = .int .i64 n ∧ t 32 = .int .i64 k) ∧ g.push (.row [.int .u64 (val ((l.take n).take k))]) = h') n ⟨by simp, by simp [val]⟩ ?_
  rintro k t _ hk ⟨⟨t7, t8, t9, t10, t31, t32⟩, rfl⟩ K hK
  have r2 : (g.push (.row [.int .u64 (val ((l.take n).take k))])).get g.next = some (.row [.int .u64 (val ((l.take n).take k))]) := by simp
  by_cases hlt' : k < n
  · have hkl : k < (l.take n).length := by omega
    have hw := wrap_succ hlt' (by omega)
    have hlk : (l.take n)[k] = l[k] := List.getElem_take
    have hs : val ((l.take n).take (k + 1)) = val ((l.take n).take k) * 256 + (l[k]).toNat := by
      rw [← hlk, ← val_snoc, List.take_append_getElem hkl]
    have hv : val ((l.take n).take k) * 256 + (l[k]).toNat < 18446744073709551616 := by
      rw [← hs]; exact val_lt8 (by rw [List.length_take]; omega)
    have hix : l[k]? = some l[k] := List.getElem?_eq_getElem (by omega)
    simp [t7, t9, t31, t32, hlt', hl]
    refine more_ct (b := l[k]) r2 hv ?_
    rw [H.push_set, ← hs]
    simp [t32, hw]
    exact hK _ _ hlt' ⟨by simp [t7, t8, t9, t10, t31], rfl⟩
  · have hke : k = n := by omega
    subst hke
    simp [t10, t31, t32]
    refine value_ct r2 _ ?_
    simp [t8]
    rw [List.take_of_length_le (by omega)]
    exact ⟨rfl, by rw [hg]; exact q⟩
theorem number_no {h : H} {i : Nat} {l : List UInt8} (r : h.get i = some (rdr l)) {z : Int} (n : Nat) (ez : z = n) (h1 : 1 ≤ n ∧ n ≤ 8) (hn : l.length < n) : Pure Tryd.prog 25 [.ptr i 2 0, .int .i64 z] h (.tup [.int .u64 0, .bool false]) := by
  subst ez
  refine pure_to Tryd.func25 S.wire_Reader_Number_code S.wire_Reader_Number_enter rfl (Nat.le_of_ble_eq_true rfl) fun wf => ?_; simp only [S.wire_Reader_Number]
  have e1 : ¬ (n : Int) < 1 := by omega
  have e2 : ¬ (8 : Int) < n := by omega
  simp [e1, e2]
  refine take_no r (.inr (by omega)) _ ?_
  simp
  refine sum_ct ?_
  simp
  refine loop_up (fun k t h' => (t 8 = .bool false ∧ t 10 = .func (.func 45) [] [.ptr h.next 1 0] ∧ t 31 = .int .i64 0 ∧ t 32 = .int .i64 0) ∧ h.push (.row [.int .u64 0]) = h') 0 ⟨by simp, rfl⟩ ?_
  rintro k t _ hk ⟨⟨t8, t10, t31, t32⟩, rfl⟩ K hK
  simp [t31, t32, t10]
  refine value_ct (v := 0) (by simp) _ ?_
  simp [t8]
/-- What Len64 tells. -/
def len8 : List UInt8 := [0, 1, 2, 2, 3, 3, 3, 3, 4, 4, 4, 4, 4, 4, 4, 4, 5, 5, 5, 5, 5, 5, 5, 5, 5, 5, 5, 5, 5, 5, 5, 5, 6, 6, 6, 6, 6, 6, 6, 6, 6, 6, 6, 6, 6, 6, 6, 6, 6, 6, 6, 6, 6, 6, 6, 6, 6, 6, 6, 6, 6, 6, 6, 6, 7, 7, 7, 7, 7, 7, 7, 7, 7, 7, 7, 7, 7, 7, 7, 7, 7, 7, 7, 7, 7, 7, 7, 7, 7, 7, 7, 7, 7, 7, 7, 7, 7, 7, 7, 7, 7, 7, 7, 7, 7, 7, 7, 7, 7, 7, 7, 7, 7, 7, 7, 7, 7, 7, 7, 7, 7, 7, 7, 7, 7, 7, 7, 7, 8, 8, 8, 8, 8, 8, 8, 8, 8, 8, 8, 8, 8, 8, 8, 8, 8, 8, 8, 8, 8, 8, 8, 8, 8, 8, 8, 8, 8, 8, 8, 8, 8, 8, 8, 8, 8, 8, 8, 8, 8, 8, 8, 8, 8, 8, 8, 8, 8, 8, 8, 8, 8, 8, 8, 8, 8, 8, 8, 8, 8, 8, 8, 8, 8, 8, 8, 8, 8, 8, 8, 8, 8, 8, 8, 8, 8, 8, 8, 8, 8, 8, 8, 8, 8, 8, 8, 8, 8, 8, 8, 8, 8, 8, 8, 8, 8, 8, 8, 8, 8, 8, 8, 8, 8, 8, 8, 8, 8, 8, 8, 8, 8, 8, 8, 8, 8, 8, 8, 8, 8, 8, 8, 8, 8, 8, 8, 8]
theorem len8_ok : len8.length = 256 ∧ ∀ x : Nat, x < 256 → (len8.getD x 0).toNat ≤ 8 ∧ ∀ k : Nat, k < 9 → (k < (len8.getD x 0).toNat ↔ 2 ^ k ≤ x) := by decide +kernel
theorem shr_n (v k : Nat) (hk : k ≤ 64) : ((v : Int).fdiv (2 ^ min k IntKind.u64.bits)) = ((v / 2 ^ k : Nat) : Int) := by
  rw [show IntKind.u64.bits = 64 from rfl, Nat.min_eq_left hk, show (2 : Int) ^ k = ((2 ^ k : Nat) : Int) by simp, Int.fdiv_eq_ediv_of_nonneg _ (Int.natCast_nonneg _), ← Int.natCast_ediv]
theorem len_step {v m n : Nat} (h : 2 ^ m ≤ v) (hn : ∀ k, k < n ↔ 2 ^ k ≤ v / 2 ^ m) : ∀ k, k < n + m ↔ 2 ^ k ≤ v := by
  intro k
  rcases Nat.lt_or_ge k m with c | c
  · exact ⟨fun _ => Nat.le_trans (Nat.pow_le_pow_right (by omega) (by omega)) h, fun _ => by omega⟩
  · obtain ⟨j, rfl⟩ := Nat.exists_eq_add_of_le c
    have := hn j
    rw [Nat.le_div_iff_mul_le (Nat.pos_of_ne_zero (by simp)), Nat.mul_comm, ← Nat.pow_add] at this
    rw [← this]; omega
set_option maxRecDepth 100000 in
theorem len64_ct {v : Nat} (hv : v < 18446744073709551616) : ∃ n : Nat, n ≤ 64 ∧ (∀ k, k ≤ 64 → (k < n ↔ 2 ^ k ≤ v)) ∧ ∀ h : H, Pure Tryd.prog 33 [.int .u64 v] h (.int .i64 n) := by
  obtain ⟨a1, ha1⟩ : ∃ a, a = if 4294967296 ≤ v then 32 else 0 := ⟨_, rfl⟩
  obtain ⟨v1, hv1⟩ : ∃ a, a = if 4294967296 ≤ v then v / 4294967296 else v := ⟨_, rfl⟩
  obtain ⟨a2, ha2⟩ : ∃ a, a = if 65536 ≤ v1 then a1 + 16 else a1 := ⟨_, rfl⟩
  obtain ⟨v2, hv2⟩ : ∃ a, a = if 65536 ≤ v1 then v1 / 65536 else v1 := ⟨_, rfl⟩
  obtain ⟨a3, ha3⟩ : ∃ a, a = if 256 ≤ v2 then a2 + 8 else a2 := ⟨_, rfl⟩
  obtain ⟨v3, hv3⟩ : ∃ a, a = if 256 ≤ v2 then v2 / 256 else v2 := ⟨_, rfl⟩
  have b1 : v1 < 4294967296 := by rw [hv1]; split <;> omega
  have b2 : v2 < 65536 := by rw [hv2]; split <;> omega
  have b3 : v3 < 256 := by rw [hv3]; split <;> omega
  obtain ⟨T, hT⟩ : ∃ T, T = len8 := ⟨_, rfl⟩
  obtain ⟨tl, tx⟩ := len8_ok
  rw [← hT] at tl tx
  obtain ⟨c, hc⟩ : ∃ c, T[v3]? = some c := ⟨_, List.getElem?_eq_getElem (by omega)⟩
  have tc := tx v3 b3
  rw [List.getD_eq_getElem?_getD, hc, Option.getD_some] at tc
  refine ⟨a3 + c.toNat, ?_, ?_, fun h => ?_⟩
  · have : a3 ≤ 56 := by rw [ha3, ha2, ha1]; split <;> split <;> split <;> omega
    omega
  · have n3 : ∀ k, k < c.toNat ↔ 2 ^ k ≤ v3 := fun k => by
      rcases Nat.lt_or_ge k 9 with hk | hk
      · exact tc.2 k hk
      · have : 2 ^ 9 ≤ 2 ^ k := Nat.pow_le_pow_right (by omega) hk
        omega
    have n2 : ∃ n, a3 + c.toNat = a2 + n ∧ ∀ k, k < n ↔ 2 ^ k ≤ v2 := by
      by_cases g : 256 ≤ v2
      · rw [if_pos g] at ha3 hv3
        exact ⟨c.toNat + 8, by omega, len_step g (by rw [show 2 ^ 8 = 256 from rfl, ← hv3]; exact n3)⟩
      · rw [if_neg g] at ha3 hv3
        exact ⟨c.toNat, by omega, by rw [← hv3]; exact n3⟩
    obtain ⟨q2, e2, n2⟩ := n2
    have n1 : ∃ n, a3 + c.toNat = a1 + n ∧ ∀ k, k < n ↔ 2 ^ k ≤ v1 := by
      by_cases g : 65536 ≤ v1
      · rw [if_pos g] at ha2 hv2
        exact ⟨q2 + 16, by omega, len_step g (by rw [show 2 ^ 16 = 65536 from rfl, ← hv2]; exact n2)⟩
      · rw [if_neg g] at ha2 hv2
        exact ⟨q2, by omega, by rw [← hv2]; exact n2⟩
    obtain ⟨q1, e1, n1⟩ := n1
    intro k _
    by_cases g : 4294967296 ≤ v
    · rw [if_pos g] at ha1 hv1
      have := len_step g (by rw [show 2 ^ 32 = 4294967296 from rfl, ← hv1]; exact n1) k
      rw [← this]; omega
    · rw [if_neg g] at ha1 hv1
      have := n1 k
      rw [hv1] at this
      rw [← this]; omega
  · refine pure_to Tryd.func33 S.math_bits_Len64_code S.math_bits_Len64_enter rfl (Nat.le_of_ble_eq_true rfl) fun wf => ?_; simp only [S.math_bits_Len64]
    rw [show ([0, 1, 2, 2, 3, 3, 3, 3, 4, 4, 4, 4, 4, 4, 4, 4, 5, 5, 5, 5, 5, 5, 5, 5, 5, 5, 5, 5, 5, 5, 5, 5, 6, 6, 6, 6, 6, 6, 6, 6, 6, 6, 6, 6, 6, 6, 6, 6, 6, 6, 6, 6, 6, 6, 6, 6, 6, 6, 6, 6, 6, 6, 6, 6, 7, 7, 7, 7, 7, 7, 7, 7, 7, 7, 7, 7, 7, 7, 7, 7, 7, 7, 7, 7, 7, 7, 7, 7, 7, 7, 7, 7, 7, 7, 7, 7, 7, 7, 7, 7, 7, 7, 7, 7, 7, 7, 7, 7, 7, 7, 7, 7, 7, 7, 7, 7, 7, 7, 7, 7, 7, 7, 7, 7, 7, 7, 7, 7, 8, 8, 8, 8, 8, 8, 8, 8, 8, 8, 8, 8, 8, 8, 8, 8, 8, 8, 8, 8, 8, 8, 8, 8, 8, 8, 8, 8, 8, 8, 8, 8, 8, 8, 8, 8, 8, 8, 8, 8, 8, 8, 8, 8, 8, 8, 8, 8, 8, 8, 8, 8, 8, 8, 8, 8, 8, 8, 8, 8, 8, 8, 8, 8, 8, 8, 8, 8, 8, 8, 8, 8, 8, 8, 8, 8, 8, 8, 8, 8, 8, 8, 8, 8, 8, 8, 8, 8, 8, 8, 8, 8, 8, 8, 8, 8, 8, 8, 8, 8, 8, 8, 8, 8, 8, 8, 8, 8, 8, 8, 8, 8, 8, 8, 8, 8, 8, 8, 8, 8, 8, 8, 8, 8, 8, 8, 8, 8] : List UInt8) = T from hT.symm]
    have s1 := shr_n v 32 (by omega)
    have s2 := shr_n v1 16 (by omega)
    have s3 := shr_n v2 8 (by omega)
    have w3 : IntKind.u8.wrap (v3 : Int) = v3 := by simp [IntKind.wrap, IntKind.bits, IntKind.signed]; omega
    have w4 : IntKind.i64.wrap (c.toNat : Int) = c.toNat := wrap_nat (by omega)
    have wa : ∀ x : Nat, x < 1000 → IntKind.i64.wrap (x : Int) = x := fun x hx => wrap_nat (by omega)
    have wb : ∀ x y : Nat, x < 1000 → y < 1000 → IntKind.i64.wrap ((x : Int) + (y : Int)) = ((x + y : Nat) : Int) := fun x y hx hy => by rw [← Int.natCast_add]; exact wrap_nat (by omega)
    have zz1 : ∀ n : Nat, ((4294967296 : Int) ≤ n) = (4294967296 ≤ n) := fun n => propext (by omega)
    have zz2 : ∀ n : Nat, ((65536 : Int) ≤ n) = (65536 ≤ n) := fun n => propext (by omega)
    have zz3 : ∀ n : Nat, ((256 : Int) ≤ n) = (256 ≤ n) := fun n => propext (by omega)
    have lo : ∀ n : Nat, (0 : Int) ≤ n := fun n => by omega
    by_cases g1 : 4294967296 ≤ v <;> by_cases g2 : 65536 ≤ v1 <;> by_cases g3 : 256 ≤ v2 <;>
    (first | (rw [if_pos g1] at ha1 hv1; rw [show (v / 2 ^ 32) = v1 from hv1.symm] at s1) | (rw [if_neg g1] at ha1 hv1; replace s1 := hv1.symm; rw [s1] at g1)) <;>
    (first | (rw [if_pos g2] at ha2 hv2; rw [show (v1 / 2 ^ 16) = v2 from hv2.symm] at s2) | (rw [if_neg g2] at ha2 hv2; replace s2 := hv2.symm; rw [s2] at g2)) <;>
    (first | (rw [if_pos g3] at ha3 hv3; rw [show (v2 / 2 ^ 8) = v3 from hv3.symm] at s3) | (rw [if_neg g3] at ha3 hv3; replace s3 := hv3.symm; rw [s3] at g3)) <;>
    (try rw [s2] at g1) <;> (try rw [s3] at g1) <;> (try rw [s3] at g2) <;>
    (clear hT tx; simp [zz1, zz2, zz3, g1, g2, g3, s1, s2, s3, w3, w4, hc, lo]) <;>
    (subst ha1; subst ha2; subst ha3; have t1 := tc.1; simp [IntKind.wrap, IntKind.bits, IntKind.signed] <;> omega)
theorem byte_of (v k : Nat) (hk : k ≤ 7) : IntKind.u8.wrap ((v : Int).fdiv (2 ^ min (8 * (k : Int)).toNat IntKind.u64.bits)) = ((UInt8.ofNat (v / 256 ^ k)).toNat : Int) := by
  have e1 : min (8 * (k : Int)).toNat IntKind.u64.bits = 8 * k := by simp [IntKind.bits]; omega
  rw [e1, show (2 : Int) ^ (8 * k) = ((256 ^ k : Nat) : Int) by rw [Int.pow_mul]; simp]
  rw [Int.fdiv_eq_ediv_of_nonneg _ (Int.natCast_nonneg _), ← Int.natCast_ediv]
  simp only [IntKind.wrap, IntKind.bits, IntKind.signed, Bool.false_and, Bool.false_eq_true, if_false, UInt8.toNat_ofNat']
  omega
/-- A list of bytes, as cells. -/
theorem byteV_u8 (b : Nat) (h : b < 256) : V.int .u8 b = byteV (UInt8.ofNat b) := by
  simp [byteV]; omega
theorem mapM_u8 : ∀ l : List UInt8, (l.map byteV).mapM u8Of = some l
  | [] => rfl
  | b :: l => by
    rw [List.map_cons, List.mapM_cons, mapM_u8 l]
    simp [u8Of, byteV]
@[simp] theorem mapM_u8' (l : List UInt8) : l.mapM (u8Of ∘ byteV) = some l := by
  have := mapM_u8 l
  rwa [List.mapM_map] at this
theorem byteV_one (l : List UInt8) : (l.map byteV).all V.one = true := by
  simp [byteV]

theorem put_ct {h : H} {b : List UInt8} {v size : Nat} (hs : 1 ≤ size) (hs2 : size ≤ 8) (hv : v < 256 ^ size) (hb : b.length ≤ 1000000) : Pure Tryd.prog 22 [.str b, .int .u64 v, .int .i64 size] h (.tup [.str (b ++ be size v), .int .i64 0]) := by
  have hpow : 256 ^ size ≤ 256 ^ 8 := Nat.pow_le_pow_right (by omega) hs2
  have hv64 : v < 18446744073709551616 := Nat.lt_of_lt_of_le hv (Nat.le_trans hpow (by decide))
  obtain ⟨n, hn, hk, hlen⟩ := len64_ct hv64
  refine pure_to Tryd.func22 S.wire_Put_code S.wire_Put_enter rfl (Nat.le_of_ble_eq_true rfl) fun wf => ?_; simp only [S.wire_Put]
  have z1 : ¬ ((size : Int) < 1) := by omega
  have z2 : ¬ ((8 : Int) < size) := by omega
  have z3 : n ≤ 8 * size := by
    rcases Nat.lt_or_ge (8 * size) n with c | c
    · have := (hk (8 * size) (by omega)).1 c
      rw [Nat.pow_mul, show (2 ^ 8 : Nat) = 256 from rfl] at this
      omega
    · exact c
  have z4 : IntKind.i64.wrap (8 * (size : Int)) = 8 * size := wrap_i64_id (by omega) (by omega)
  have z5 : ¬ (8 * (size : Int) < n) := by omega
  have z6 : IntKind.i64.wrap ((size : Int) - 1) = size - 1 := wrap_i64_id (by omega) (by omega)
  simp [z1, z2]
  refine hlen h _ ?_
  have hbl : b.length ≤ 9223372036854775807 := by omega
  simp [z4, z5, exec, z6, hbl]
  refine loop_up (fun i t h' => ∃ acc : List UInt8, (t 1 = .int .u64 v ∧ t 8 = .sl h.next acc.length 0 acc.length none ∧ t 9 = .int .i64 ((size : Int) - 1 - i)) ∧ Ge h h' ∧ h.next < h'.next ∧ h'.get h.next = some (.grow 1 (acc.map byteV)) ∧ acc.length = b.length + i ∧ acc ++ be (size - i) v = b ++ be size v) size ⟨b, by simp⟩ ?_
  rintro i t h' hi ⟨acc, ⟨h1, h8, h9⟩, hg, hnx, ho, hal, hacc⟩ K hK
  by_cases hlt : i < size
  · have y1 : (0 : Int) ≤ (size : Int) - 1 - i := by omega
    have y2 : IntKind.i64.wrap (8 * ((size : Int) - 1 - i)) = 8 * ((size : Int) - 1 - i) := wrap_i64_id (by omega) (by omega)
    have y3 : IntKind.i64.wrap ((size : Int) - 1 - i - 1) = (size : Int) - 1 - (i + 1) := by rw [wrap_i64_id (by omega) (by omega)]; omega
    have y4 : (0 : Int) ≤ 8 * ((size : Int) - 1 - i) := by omega
    have y5 : (i : Int) ≤ (size : Int) - 1 := by omega
    have y6 : (size : Int) - 1 - i = ((size - 1 - i : Nat) : Int) := by omega
    have y7 := byte_of v (size - 1 - i) (by omega)
    obtain ⟨B, hB⟩ : ∃ B, B = UInt8.ofNat (v / 256 ^ (size - 1 - i)) := ⟨_, rfl⟩
    rw [← y6, ← hB] at y7
    have y8 : ¬ h.next = h'.next := by omega
    have ap := fun c hc => appendV_grow (g := (h'.push (.row [V.int .u8 (B.toNat : Int)])).get) (next := h'.next + 1) (sz := 1) (bytes := 1) (q := h.next) (n := acc.length) (len := acc.length) (m := 1) (cs := acc.map byteV) (xs := [V.int .u8 (B.toNat : Int)]) (x := c) (by simp [y8, ho]) (by simp) (by simp) hc (by simp) (by simp) (by simp) (by omega) (by omega)
    simp [h1, h8, h9, y2, y4, y5, y7]
    rw [ap _ (by simp [elemsV_sl])]
    simp [h9, y3]
    refine hK _ _ hlt ⟨acc ++ [B], ?_, ?_, ?_, ?_, ?_, ?_⟩
    · simp [h1]
    · exact (hg.push _).set (Nat.le_refl _) _
    · simp; omega
    · simp [byteV]
    · simp; omega
    · rw [← hacc, show size - i = (size - 1 - i) + 1 by omega, be, ← hB, show size - (i + 1) = size - 1 - i by omega]; simp
  · have hi2 : i = size := by omega
    subst hi2
    have y1 : ¬ (i : Int) ≤ (i : Int) - 1 := by omega
    have el : elemsV h'.get 1 (.sl h.next acc.length 0 acc.length none) = some (acc.length, acc.map byteV) := by
      rw [elemsV_sl]
      split
      · rename_i h0; have : acc = [] := List.eq_nil_of_length_eq_zero h0
        subst this; rfl
      · rw [cellsAt_of ho (by simp)]; simp [List.take_of_length_le]
    simp [h8, h9, y1, el]
    refine ⟨?_, hg⟩
    simpa [be] using hacc

end Go.Am

/-
  Plain laws of prefixes: an address cut to its first bits; its bits.
-/
namespace Go.Am

set_option maxRecDepth 100000
structure Pfx where
  fam : Int
  rd : Nat
  addr : List UInt8
  len : Int
  deriving DecidableEq
def pfxC (p : Pfx) : List V := [.int .i64 p.fam, .int .u64 (p.rd : Nat), .str p.addr, .int .i64 p.len]
structure Nl where
  p : Pfx
  id : Nat
  label : Nat
  deriving DecidableEq
def nlC (n : Nl) : List V := [.int .i64 n.p.fam, .int .u64 (n.p.rd : Nat), .str n.p.addr, .int .i64 n.p.len, .int .u32 (n.id : Nat), .int .u32 (n.label : Nat)]
def zeroP : Pfx := ⟨0, 0, [], 0⟩
/-- How many bytes an address of a family has. -/
def sizeN (fam : Int) : Nat := if fam = 1 ∨ fam = 3 ∨ fam = 4 then 4 else if fam = 2 ∨ fam = 5 then 16 else 0
def apartF (fam : Int) : Bool := fam == 4 || fam == 5
def labelF (fam : Int) : Bool := decide (3 ≤ fam) && decide (fam ≤ 5)
/-- A byte with its first bits alone. -/
def maskN (b : Nat) (left : Int) : Nat := if left ≤ 0 then 0 else if left < 8 then b / 2 ^ (8 - left.toNat) * 2 ^ (8 - left.toNat) else b
theorem maskN_le (b : Nat) (left : Int) : maskN b left ≤ b := by
  unfold maskN
  split
  · omega
  · split
    · exact Nat.div_mul_le_self _ _
    · omega
def maskL : List UInt8 → Int → List UInt8
  | [], _ => []
  | b :: l, n => UInt8.ofNat (maskN b.toNat n) :: maskL l (n - 8)
theorem maskL_len : ∀ (l : List UInt8) (n : Int), (maskL l n).length = l.length
  | [], _ => rfl
  | b :: l, n => by simp [maskL, maskL_len l]
theorem maskL_get : ∀ (l : List UInt8) (n : Int) (i : Nat) (h : i < l.length), (maskL l n)[i]'(by rw [maskL_len]; exact h) = UInt8.ofNat (maskN (l[i]).toNat (n - 8 * (i : Int)))
  | [], _, i, h => by simp at h
  | b :: l, n, 0, h => by simp [maskL]
  | b :: l, n, i + 1, h => by
    simp only [maskL, List.getElem_cons_succ]
    rw [maskL_get l (n - 8) i (by simpa using h)]
    congr 2
    omega
/-- A bit of an address. -/
def bitN (l : List UInt8) (n : Nat) : Nat := match l[n / 8]? with | some b => b.toNat / 2 ^ (7 - n % 8) % 2 | none => 0
theorem maskB_iff : ∀ b : Nat, b < 256 → ∀ n : Nat, n < 9 → ((∀ k < 8, n ≤ k → b / 2 ^ (7 - k) % 2 = 0) ↔ maskN b n = b) := by decide +kernel
theorem maskN_idem : ∀ b : Nat, b < 256 → ∀ n : Nat, n < 9 → maskN (maskN b n) n = maskN b n := by decide +kernel
theorem maskN_big {b : Nat} {n : Int} (h : 8 ≤ n) : maskN b n = b := by unfold maskN; rw [if_neg (by omega), if_neg (by omega)]
theorem maskN_small {b : Nat} {n : Int} (h : n ≤ 0) : maskN b n = 0 := by unfold maskN; rw [if_pos h]
/-- The clipped number of bits of a byte. -/
def clip (n : Int) : Nat := if n ≤ 0 then 0 else if n < 8 then n.toNat else 8
theorem clip_lt (n : Int) : clip n < 9 := by unfold clip; repeat' split
                                             all_goals omega
theorem maskN_clip (b : Nat) (n : Int) : maskN b n = maskN b (clip n : Nat) := by
  unfold clip
  split
  · rename_i h; rw [maskN_small h, maskN_small (by omega)]
  · split
    · congr 1; omega
    · rw [maskN_big (by omega), maskN_big (by omega)]
theorem ofNat_inj {a : Nat} {b : UInt8} (h : a < 256) : UInt8.ofNat a = b ↔ a = b.toNat := by
  constructor
  · rintro rfl; simp; omega
  · rintro rfl; simp
/-- All bits beyond are 0: it is cut already. -/
theorem tail_iff : ∀ (l : List UInt8) (n : Int), (∀ j : Nat, n ≤ j → j < 8 * l.length → bitN l j = 0) ↔ maskL l n = l
  | [], n => by simp [maskL]
  | b :: l, n => by
    have hb : b.toNat < 256 := b.toNat_lt
    have ih := tail_iff l (n - 8)
    have bb := maskB_iff b.toNat hb (clip n) (clip_lt n)
    have hm := maskN_le b.toNat n
    rw [maskL, List.cons.injEq, ofNat_inj (by omega), ← ih, maskN_clip, ← bb]
    constructor
    · intro h
      refine ⟨fun k hk hn => ?_, fun j hj hl => ?_⟩
      · have := h k (by unfold clip at hn; split at hn <;> (try split at hn) <;> omega) (by simp; omega)
        simp only [bitN] at this
        rw [show k / 8 = 0 by omega, show k % 8 = k by omega] at this
        simpa using this
      · have := h (j + 8) (by omega) (by simp; omega)
        simp only [bitN] at this ⊢
        rw [show (j + 8) / 8 = j / 8 + 1 by omega, show (j + 8) % 8 = j % 8 by omega, List.getElem?_cons_succ] at this
        exact this
    · rintro ⟨h1, h2⟩ j hj hl
      simp only [List.length_cons] at hl
      simp only [bitN]
      by_cases hj8 : j < 8
      · rw [show j / 8 = 0 by omega, show j % 8 = j by omega]
        have := h1 j hj8 (by unfold clip; repeat' split
                             all_goals omega)
        simpa using this
      · have := h2 (j - 8) (by omega) (by omega)
        simp only [bitN] at this
        rw [show j / 8 = (j - 8) / 8 + 1 by omega, show j % 8 = (j - 8) % 8 by omega, List.getElem?_cons_succ]
        exact this
theorem maskL_idem : ∀ (l : List UInt8) (n : Int), maskL (maskL l n) n = maskL l n
  | [], _ => rfl
  | b :: l, n => by
    have hb : b.toNat < 256 := b.toNat_lt
    have hm := maskN_le b.toNat n
    have := maskN_idem b.toNat hb (clip n) (clip_lt n)
    rw [← maskN_clip, ← maskN_clip] at this
    simp only [maskL, maskL_idem l, List.cons.injEq, and_true]
    congr 1
    rw [show (UInt8.ofNat (maskN b.toNat n)).toNat = maskN b.toNat n by simp; omega]
    exact this
/-- What Check says. -/
def mayP (p : Pfx) : Bool := decide (sizeN p.fam ≠ 0) && decide (p.addr.length = sizeN p.fam) && decide (0 ≤ p.len) && decide (p.len ≤ 8 * (sizeN p.fam : Int)) && (decide (p.rd = 0) || apartF p.fam) && decide (maskL p.addr p.len = p.addr)
def mayN (n : Nl) : Bool := mayP n.p && decide (n.label ≤ 1048575) && (decide (n.label = 0) || labelF n.p.fam)
end Go.Am

/-
  Told prefixes and their bytes: the plain law.
-/
namespace Go.Am

set_option maxRecDepth 100000
def aheadN (fam : Int) : Nat := (if labelF fam = true then 24 else 0) + (if apartF fam = true then 64 else 0)
def wholeN (bits : Nat) : Nat := (bits + 7) / 8
/-- One's bytes. -/
def enc1 (add : Bool) (n : Nl) : List UInt8 :=
  (if add = true then be 4 n.id else []) ++ be 1 (n.p.len.toNat + aheadN n.p.fam) ++ (if labelF n.p.fam = true then be 3 (n.label * 16 + 1) else []) ++ (if apartF n.p.fam = true then be 8 n.p.rd else []) ++ n.p.addr.take (wholeN n.p.len.toNat)
def tk (k : Nat) (s : List UInt8) : Option (List UInt8 × List UInt8) := if k ≤ s.length then some (s.take k, s.drop k) else none
def tkIf (b : Bool) (k : Nat) (s : List UInt8) : Option (List UInt8 × List UInt8) := if b = true then tk k s else some ([], s)
/-- The first one of bytes, and what is left. -/
def dec1 (fam : Int) (add : Bool) (s : List UInt8) : Option (Nl × List UInt8) :=
  match tkIf add 4 s with
  | none => none
  | some (i, s) =>
    match tk 1 s with
    | none => none
    | some (b, s) =>
      match tkIf (labelF fam) 3 s with
      | none => none
      | some (l, s) =>
        if labelF fam = true ∧ val l % 2 = 0 ∧ val l ≠ 8388608 then none else
        match tkIf (apartF fam) 8 s with
        | none => none
        | some (r, s) =>
          if val b < aheadN fam ∨ 8 * sizeN fam < val b - aheadN fam then none else
          match tk (wholeN (val b - aheadN fam)) s with
          | none => none
          | some (a, s) => some (⟨⟨fam, val r, maskL (a ++ List.replicate (sizeN fam - a.length) 0) (val b - aheadN fam : Nat), (val b - aheadN fam : Nat)⟩, val i, if val l = 8388608 then 0 else val l / 16⟩, s)
theorem tk_app (k : Nat) (a r : List UInt8) (h : a.length = k) : tk k (a ++ r) = some (a, r) := by
  unfold tk
  rw [if_pos (by simp; omega), List.take_append_of_le_length (by omega), List.drop_append_of_le_length (by omega), List.take_of_length_le (by omega), List.drop_of_length_le (by omega)]
  rfl
theorem tkIf_app (b : Bool) (k : Nat) (a r : List UInt8) (h : a.length = k) : tkIf b k ((if b = true then a else []) ++ r) = some (if b = true then a else [], r) := by
  unfold tkIf
  cases b with
  | true => simp only [if_true]; exact tk_app k a r h
  | false => simp
theorem maskL_zeros : ∀ (k : Nat) (n : Int), maskL (List.replicate k 0) n = List.replicate k 0
  | 0, _ => rfl
  | k + 1, n => by
    rw [List.replicate_succ, maskL, maskL_zeros k]
    have := maskN_le (0 : UInt8).toNat n
    have e : maskN (0 : UInt8).toNat n = 0 := by simpa using this
    rw [e]; rfl
theorem maskL_neg : ∀ (l : List UInt8) (n : Int), n ≤ 0 → maskL l n = List.replicate l.length 0
  | [], _, _ => rfl
  | b :: l, n, h => by
    rw [maskL, maskL_neg l (n - 8) (by omega), maskN_small h, List.length_cons, List.replicate_succ]; rfl
/-- The rest of a cut address is 0. -/
theorem mask_take : ∀ (l : List UInt8) (n : Nat), maskL l n = l → l.take (wholeN n) ++ List.replicate (l.length - wholeN n) 0 = l
  | [], n, _ => by simp
  | b :: l, n, h => by
    by_cases h8 : n ≤ 0
    · have h0 : n = 0 := by omega
      subst h0
      rw [maskL_neg _ _ (by omega)] at h
      have : wholeN 0 = 0 := rfl
      rw [this, List.take_zero, List.nil_append, Nat.sub_zero]; exact h
    · rw [maskL, List.cons.injEq] at h
      have hw : wholeN n = wholeN (n - 8) + 1 ∨ (n < 8 ∧ wholeN n = 1) := by unfold wholeN; omega
      rcases hw with hw | ⟨h8', hw⟩
      · by_cases h9 : n < 8
        · have hw1 : wholeN n = 1 := by unfold wholeN; omega
          have h2 := h.2
          rw [maskL_neg _ _ (by omega)] at h2
          rw [hw1, List.take_succ_cons, List.take_zero, List.length_cons, Nat.add_sub_cancel, List.cons_append, List.nil_append, h2]
        · have h2 := h.2
          rw [show (n : Int) - 8 = ((n - 8 : Nat) : Int) by omega] at h2
          have ih := mask_take l (n - 8) h2
          rw [hw, List.take_succ_cons, List.length_cons, show l.length + 1 - (wholeN (n - 8) + 1) = l.length - wholeN (n - 8) by omega, List.cons_append, ih]
      · have h2 := h.2
        rw [maskL_neg _ _ (by omega)] at h2
        rw [hw, List.take_succ_cons, List.take_zero, List.length_cons, Nat.add_sub_cancel, List.cons_append, List.nil_append, h2]
/-- What fits into its bytes. -/
structure NlOk (fam : Int) (add : Bool) (n : Nl) : Prop where
  may : mayN n = true
  fam : n.p.fam = fam
  id0 : add = false → n.id = 0
  idb : n.id < 4294967296
  rdb : n.p.rd < 18446744073709551616
theorem NlOk.parts {fam : Int} {add : Bool} {n : Nl} (h : NlOk fam add n) : sizeN fam ≠ 0 ∧ n.p.addr.length = sizeN fam ∧ 0 ≤ n.p.len ∧ n.p.len ≤ 8 * (sizeN fam : Int) ∧ (n.p.rd = 0 ∨ apartF fam = true) ∧ maskL n.p.addr n.p.len = n.p.addr ∧ n.label ≤ 1048575 ∧ (n.label = 0 ∨ labelF fam = true) := by
  have := h.may
  simp only [mayN, mayP, Bool.and_eq_true, Bool.or_eq_true, decide_eq_true_eq, h.fam] at this
  obtain ⟨⟨⟨⟨⟨⟨⟨a, b⟩, c⟩, d⟩, e⟩, f⟩, g⟩, i⟩ := this
  exact ⟨a, b, c, d, e, f, g, i⟩
theorem size_le (fam : Int) : sizeN fam ≤ 16 := by unfold sizeN; split <;> (try split) <;> omega
theorem ahead_le (fam : Int) : aheadN fam ≤ 88 := by unfold aheadN; split <;> split <;> omega
/-- THERE AND BACK, one. -/
theorem dec1_enc1 {fam : Int} {add : Bool} {n : Nl} (h : NlOk fam add n) (r : List UInt8) : dec1 fam add (enc1 add n ++ r) = some (n, r) := by
  obtain ⟨h0, h1, h2, h3, h4, h5, h6, h7⟩ := h.parts
  have hf := h.fam
  have sl := size_le fam
  have al := ahead_le fam
  have v4 : val (be 4 n.id) = n.id := val_be_lt (by have := h.idb; omega)
  have v1 : val (be 1 (n.p.len.toNat + aheadN fam)) = n.p.len.toNat + aheadN fam := by
    have : sizeN fam * 8 + aheadN fam < 256 := by
      unfold sizeN aheadN labelF apartF
      by_cases e1 : fam = 1
      · subst e1; decide
      by_cases e2 : fam = 2
      · subst e2; decide
      by_cases e3 : fam = 3
      · subst e3; decide
      by_cases e4 : fam = 4
      · subst e4; decide
      by_cases e5 : fam = 5
      · subst e5; decide
      exfalso; apply h0; unfold sizeN; rw [if_neg (by omega), if_neg (by omega)]
    exact val_be_lt (by omega)
  have v3 : val (be 3 (n.label * 16 + 1)) = n.label * 16 + 1 := val_be_lt (by omega)
  have v8 : val (be 8 n.p.rd) = n.p.rd := val_be_lt (by have := h.rdb; omega)
  have hr : val (if apartF fam = true then be 8 n.p.rd else []) = n.p.rd := by
    split
    · exact v8
    · rename_i e; rcases h4 with h4 | h4
      · rw [h4]; rfl
      · exact absurd h4 e
  have hi : val (if add = true then be 4 n.id else []) = n.id := by
    cases add with
    | true => exact v4
    | false => rw [h.id0 rfl]; rfl
  have hwl : (n.p.addr.take (wholeN n.p.len.toNat)).length = wholeN n.p.len.toNat := by
    rw [List.length_take]
    have : wholeN n.p.len.toNat ≤ sizeN fam := by unfold wholeN; omega
    omega
  unfold dec1 enc1
  rw [hf]
  simp only [List.append_assoc]
  rw [tkIf_app _ _ _ _ (be_len 4 _)]
  simp only
  rw [tk_app _ _ _ (be_len 1 _)]
  simp only
  rw [tkIf_app _ _ _ _ (be_len 3 _)]
  simp only
  have hl : ¬ (labelF fam = true ∧ val (if labelF fam = true then be 3 (n.label * 16 + 1) else []) % 2 = 0 ∧ val (if labelF fam = true then be 3 (n.label * 16 + 1) else []) ≠ 8388608) := by
    rintro ⟨e1, e2, _⟩
    rw [if_pos e1, v3] at e2
    omega
  rw [if_neg hl, tkIf_app _ _ _ _ (be_len 8 _)]
  simp only
  rw [v1, if_neg (by omega), show n.p.len.toNat + aheadN fam - aheadN fam = n.p.len.toNat by omega, tk_app _ _ _ hwl]
  simp only
  have hlab : (if val (if labelF fam = true then be 3 (n.label * 16 + 1) else []) = 8388608 then 0 else val (if labelF fam = true then be 3 (n.label * 16 + 1) else []) / 16) = n.label := by
    by_cases e1 : labelF fam = true
    · rw [if_pos e1, v3, if_neg (by omega)]; omega
    · rw [if_neg e1]
      rcases h7 with h7 | h7
      · rw [h7]; rfl
      · exact absurd h7 e1
  have hm : maskL (n.p.addr.take (wholeN n.p.len.toNat) ++ List.replicate (sizeN fam - (n.p.addr.take (wholeN n.p.len.toNat)).length) 0) (n.p.len.toNat : Nat) = n.p.addr := by
    have hm5 : maskL n.p.addr (n.p.len.toNat : Nat) = n.p.addr := by rw [show ((n.p.len.toNat : Nat) : Int) = n.p.len by omega]; exact h5
    rw [hwl, ← h1, mask_take _ _ hm5, hm5]
  rw [hlab, hr, hi, hm, show ((n.p.len.toNat : Nat) : Int) = n.p.len by omega, ← hf]
theorem tk_some {k : Nat} {s a r : List UInt8} (h : tk k s = some (a, r)) : a.length = k ∧ s = a ++ r := by
  unfold tk at h
  split at h
  · cases h; exact ⟨by rw [List.length_take]; omega, (List.take_append_drop ..).symm⟩
  · cases h
theorem tkIf_some {b : Bool} {k : Nat} {s a r : List UInt8} (h : tkIf b k s = some (a, r)) : (a.length = if b = true then k else 0) ∧ s = a ++ r := by
  unfold tkIf at h
  split at h
  · rename_i e; rw [if_pos e]; exact tk_some h
  · rename_i e; cases h; rw [if_neg e]; exact ⟨rfl, rfl⟩
theorem enc1_len {fam : Int} {add : Bool} {n : Nl} (hf : n.p.fam = fam) (ha : wholeN n.p.len.toNat ≤ n.p.addr.length) : (enc1 add n).length = (if add = true then 4 else 0) + 1 + (if labelF fam = true then 3 else 0) + (if apartF fam = true then 8 else 0) + wholeN n.p.len.toNat := by
  unfold enc1
  rw [hf]
  simp only [List.length_append, be_len, List.length_take, Nat.min_eq_left ha]
  split <;> split <;> split <;> simp [be_len]
/-- What is read fits, and takes as many bytes as it would be laid in. -/
theorem dec1_ok {fam : Int} {add : Bool} {s r : List UInt8} {n : Nl} (hs0 : sizeN fam ≠ 0) (h : dec1 fam add s = some (n, r)) : NlOk fam add n ∧ ∃ pre, s = pre ++ r ∧ pre.length = (enc1 add n).length := by
  unfold dec1 at h
  split at h
  · cases h
  · rename_i i s1 h1
    split at h
    · cases h
    · rename_i b s2 h2
      split at h
      · cases h
      · rename_i l s3 h3
        split at h
        · cases h
        · rename_i hl
          split at h
          · cases h
          · rename_i rd s4 h4
            split at h
            · cases h
            · rename_i hb
              split at h
              · cases h
              · rename_i a s5 h5
                cases h
                obtain ⟨i1, i2⟩ := tkIf_some h1
                obtain ⟨b1, b2⟩ := tk_some h2
                obtain ⟨l1, l2⟩ := tkIf_some h3
                obtain ⟨r1, r2⟩ := tkIf_some h4
                obtain ⟨a1, a2⟩ := tk_some h5
                have sl := size_le fam
                have ha : a.length ≤ sizeN fam := by rw [a1]; unfold wholeN; omega
                have hlen : (a ++ List.replicate (sizeN fam - a.length) 0).length = sizeN fam := by simp; omega
                have vi : val i < 256 ^ 4 := Nat.lt_of_lt_of_le (val_lt _ i rfl) (Nat.pow_le_pow_right (by omega) (by rw [i1]; split <;> omega))
                have vr : val rd < 256 ^ 8 := Nat.lt_of_lt_of_le (val_lt _ rd rfl) (Nat.pow_le_pow_right (by omega) (by rw [r1]; split <;> omega))
                have vl : val l < 256 ^ 3 := Nat.lt_of_lt_of_le (val_lt _ l rfl) (Nat.pow_le_pow_right (by omega) (by rw [l1]; split <;> omega))
                have nil0 : ∀ {x : List UInt8}, x.length = 0 → val x = 0 := fun {x} h => by rw [List.length_eq_zero_iff.1 h]; rfl
                refine ⟨⟨?_, rfl, fun e => ?_, by simp only; omega, by simp only; omega⟩, i ++ b ++ l ++ rd ++ a, by rw [i2, b2, l2, r2, a2]; simp, ?_⟩
                · simp only [mayN, mayP, Bool.and_eq_true, Bool.or_eq_true, decide_eq_true_eq, maskL_len, hlen]
                  refine ⟨⟨⟨⟨⟨⟨⟨hs0, trivial⟩, by omega⟩, by omega⟩, ?_⟩, maskL_idem _ _⟩, by split <;> omega⟩, ?_⟩
                  · by_cases e : apartF fam = true
                    · exact .inr e
                    · rw [if_neg e] at r1; exact .inl (nil0 r1)
                  · by_cases e : labelF fam = true
                    · exact .inr e
                    · rw [if_neg e] at l1; rw [nil0 l1]; exact .inl rfl
                · simp only
                  subst e
                  simp only [Bool.false_eq_true, if_false] at i1
                  exact nil0 i1
                · rw [enc1_len (fam := fam) rfl (by simp only [maskL_len, hlen]; rw [Int.toNat_natCast]; unfold wholeN; omega)]
                  simp only [List.length_append, i1, b1, l1, r1, a1, Int.toNat_natCast]
/-- A beginning of it is none. -/
theorem dec1_cut {fam : Int} {add : Bool} {n : Nl} (h : NlOk fam add n) (k : Nat) (hk : k < (enc1 add n).length) : dec1 fam add ((enc1 add n).take k) = none := by
  cases hd : dec1 fam add ((enc1 add n).take k) with
  | none => rfl
  | some x =>
    obtain ⟨m, r⟩ := x
    obtain ⟨hm, pre, e1, e2⟩ := dec1_ok h.parts.1 hd
    -- what is read of a beginning would be read of the whole
    have e3 : dec1 fam add (enc1 add m ++ (r ++ (enc1 add n).drop k)) = some (m, r ++ (enc1 add n).drop k) := dec1_enc1 hm _
    exfalso
    have hw := dec1_enc1 h []
    rw [List.append_nil] at hw
    have mono : ∀ (s u : List UInt8) (x : Nl) (r : List UInt8), dec1 fam add s = some (x, r) → dec1 fam add (s ++ u) = some (x, r ++ u) := by
      intro s u x r hx
      have tkm : ∀ {k : Nat} {s a r : List UInt8}, tk k s = some (a, r) → tk k (s ++ u) = some (a, r ++ u) := fun {k s a r} h => by
        obtain ⟨a1, rfl⟩ := tk_some h
        rw [List.append_assoc]; exact tk_app k a _ a1
      have tkim : ∀ {b : Bool} {k : Nat} {s a r : List UInt8}, tkIf b k s = some (a, r) → tkIf b k (s ++ u) = some (a, r ++ u) := fun {b k s a r} h => by
        unfold tkIf at h ⊢
        split at h
        · rename_i e; rw [if_pos e]; exact tkm h
        · rename_i e; rw [if_neg e]; cases h; rfl
      unfold dec1 at hx
      split at hx
      · cases hx
      · rename_i i s1 h1
        split at hx
        · cases hx
        · rename_i b s2 h2
          split at hx
          · cases hx
          · rename_i l s3 h3
            split at hx
            · cases hx
            · rename_i hl
              split at hx
              · cases hx
              · rename_i rd s4 h4
                split at hx
                · cases hx
                · rename_i hb
                  split at hx
                  · cases hx
                  · rename_i a s5 h5
                    cases hx
                    unfold dec1
                    rw [tkim h1]
                    simp only
                    rw [tkm h2]
                    simp only
                    rw [tkim h3]
                    simp only
                    rw [if_neg hl, tkim h4]
                    simp only
                    rw [if_neg hb, tkm h5]
    have := mono _ ((enc1 add n).drop k) _ _ hd
    rw [List.take_append_drop, hw] at this
    simp only [Option.some.injEq, Prod.mk.injEq] at this
    have e4 := congrArg List.length this.2
    simp only [List.length_nil, List.length_append, List.length_drop] at e4
    omega
/-! ### Lists of them -/
def encL (add : Bool) (l : List Nl) : List UInt8 := l.flatMap (enc1 add)
def decL (fam : Int) (add : Bool) (s : List UInt8) : Option (List Nl) :=
  match s with
  | [] => some []
  | b :: l => match h : dec1 fam add (b :: l) with
    | none => none
    | some (n, r) => if hr : r.length < (b :: l).length then (decL fam add r).map (n :: ·) else none
termination_by s.length
theorem enc1_pos (add : Bool) (n : Nl) : 0 < (enc1 add n).length := by
  unfold enc1
  simp only [List.length_append, be_len]
  omega
theorem dec1_lt {fam : Int} {add : Bool} {s r : List UInt8} {n : Nl} (hs0 : sizeN fam ≠ 0) (h : dec1 fam add s = some (n, r)) : r.length < s.length := by
  obtain ⟨_, pre, rfl, hp⟩ := dec1_ok hs0 h
  have := enc1_pos add n
  simp; omega
theorem decL_step {fam : Int} {add : Bool} {s : List UInt8} (hs0 : sizeN fam ≠ 0) (hs : s ≠ []) : decL fam add s = match dec1 fam add s with | none => none | some (n, r) => (decL fam add r).map (n :: ·) := by
  match s, hs with
  | b :: l, _ =>
    rw [decL]
    split
    · rename_i h; rw [h]
    · rename_i n r h
      have := dec1_lt hs0 h
      rw [dif_pos this, h]
theorem decL_encL {fam : Int} {add : Bool} (hs0 : sizeN fam ≠ 0) : ∀ l : List Nl, (∀ n ∈ l, NlOk fam add n) → ∀ t, decL fam add (encL add l ++ t) = (decL fam add t).map (l ++ ·)
  | [], _, t => by simp [encL]
  | n :: l, h, t => by
    have ih := decL_encL hs0 l (fun x hx => h x (by simp [hx])) t
    have e : encL add (n :: l) ++ t = enc1 add n ++ (encL add l ++ t) := by simp [encL]
    have hp := enc1_pos add n
    have hne : enc1 add n ++ (encL add l ++ t) ≠ [] := by
      intro h0
      have := congrArg List.length h0
      simp only [List.length_append, List.length_nil] at this
      omega
    rw [e, decL_step hs0 hne, dec1_enc1 (h n (by simp))]
    simp only
    rw [ih]
    cases decL fam add t <;> rfl
theorem decL_ok {fam : Int} {add : Bool} (hs0 : sizeN fam ≠ 0) : ∀ (k : Nat) (s : List UInt8) (l : List Nl), s.length ≤ k → decL fam add s = some l → (∀ n ∈ l, NlOk fam add n) ∧ (encL add l).length = s.length
  | k, [], l, _, h => by rw [decL] at h; cases h; simp [encL]
  | 0, b :: s, l, hk, _ => by simp at hk
  | k + 1, b :: s, l, hk, h => by
    rw [decL_step hs0 (by simp)] at h
    split at h
    · cases h
    · rename_i n r hd
      cases hr : decL fam add r with
      | none => rw [hr] at h; cases h
      | some l' =>
        rw [hr] at h
        cases h
        obtain ⟨h1, pre, e1, e2⟩ := dec1_ok hs0 hd
        have hlt := dec1_lt hs0 hd
        obtain ⟨i1, i2⟩ := decL_ok hs0 k r l' (by simp at hk hlt; omega) hr
        refine ⟨fun x hx => ?_, ?_⟩
        · rcases List.mem_cons.1 hx with rfl | hx
          · exact h1
          · exact i1 x hx
        · have e3 : encL add (n :: l') = enc1 add n ++ encL add l' := by simp [encL]
          rw [e3, e1, List.length_append, List.length_append, i2, e2]
/-- THERE AND BACK. -/
theorem decL_back {fam : Int} {add : Bool} (hs0 : sizeN fam ≠ 0) (l : List Nl) (h : ∀ n ∈ l, NlOk fam add n) : decL fam add (encL add l) = some l := by
  have := decL_encL hs0 l h []
  rw [List.append_nil, decL] at this
  simpa using this
/-- All but the last byte: none, where the last one has more than one. -/
theorem decL_cut {fam : Int} {add : Bool} (hs0 : sizeN fam ≠ 0) (l : List Nl) (n : Nl) (h : ∀ x ∈ l ++ [n], NlOk fam add x) (hn : 1 < (enc1 add n).length) : decL fam add ((encL add (l ++ [n])).take ((encL add (l ++ [n])).length - 1)) = none := by
  have e : encL add (l ++ [n]) = encL add l ++ enc1 add n := by simp [encL]
  have e2 : (encL add l ++ enc1 add n).take ((encL add l ++ enc1 add n).length - 1) = encL add l ++ (enc1 add n).take ((enc1 add n).length - 1) := by
    rw [List.take_append, List.take_of_length_le (by simp; omega)]
    congr 2
    simp; omega
  have hk : ((enc1 add n).take ((enc1 add n).length - 1)) ≠ [] := fun h0 => by
    have := congrArg List.length h0
    simp at this; omega
  rw [e, e2, decL_encL hs0 l (fun x hx => h x (by simp [hx])), decL_step hs0 hk, dec1_cut (h n (by simp)) _ (by omega)]
  rfl
end Go.Am

/-
  Contracts: families, addresses, prefixes, told prefixes.
-/
namespace Go.Am
open Go.Proofs

set_option maxRecDepth 100000
theorem beq_no {a b : Int} (h : ¬ a = b) : (a == b) = false := by rw [beq_eq_false_iff_ne]; exact h
theorem psize_ct {h : H} {fam : Int} : Pure Tryd.prog 9 [.int .i64 fam] h (.int .i64 (sizeN fam : Nat)) := by
  refine pure_to Tryd.func9 S.prim_Size_code S.prim_Size_enter rfl (Nat.le_of_ble_eq_true rfl) fun wf => ?_; simp only [S.prim_Size]
  by_cases e1 : fam = 1
  · subst e1; simp [sizeN]
  by_cases e3 : fam = 3
  · subst e3; simp [sizeN]
  by_cases e4 : fam = 4
  · subst e4; simp [sizeN]
  by_cases e2 : fam = 2
  · subst e2; simp [sizeN]
  by_cases e5 : fam = 5
  · subst e5; simp [sizeN]
  simp [sizeN, beq_no e1, beq_no e3, beq_no e4, beq_no e2, beq_no e5, e1, e2, e3, e4, e5]
theorem papart_ct {h : H} {fam : Int} : Pure Tryd.prog 31 [.int .i64 fam] h (.bool (apartF fam)) := by
  refine pure_to Tryd.func31 S.prim_apart_code S.prim_apart_enter rfl (Nat.le_of_ble_eq_true rfl) fun wf => ?_; simp only [S.prim_apart]
  simp
  unfold apartF
  cases fam == 4 <;> simp
theorem quo8 {z : Int} (h : 0 ≤ z) (h2 : z < 1000000000) : intV .quo .i64 z 8 = some (.int .i64 (z / 8)) := by
  show (if (8 : Int) = 0 then none else some (V.int .i64 (IntKind.i64.wrap (z.tdiv 8)))) = _
  rw [if_neg (by decide), Int.tdiv_eq_ediv_of_nonneg h, wrap_i64_id (by omega) (by omega)]
theorem maskL_snoc {l : List UInt8} {n : Int} {i : Nat} (h : i < l.length) : maskL (l.take (i + 1)) n = maskL (l.take i) n ++ [UInt8.ofNat (maskN (l[i]).toNat (n - 8 * (i : Int)))] := by
  refine List.ext_getElem (by simp [maskL_len]; omega) fun k h1 h2 => ?_
  rw [maskL_len, List.length_take] at h1
  rw [maskL_get _ _ _ (by rw [List.length_take]; exact h1), List.getElem_take]
  by_cases hk : k < i
  · rw [List.getElem_append_left (by rw [maskL_len, List.length_take]; omega), maskL_get _ _ _ (by rw [List.length_take]; omega), List.getElem_take]
  · have e : k = i := by omega
    subst e
    rw [List.getElem_append_right (by rw [maskL_len, List.length_take]; omega)]
    simp
theorem mask_and : ∀ b : Nat, b < 256 → ∀ k : Nat, k < 8 → (BitVec.ofInt 8 (b : Int) &&& BitVec.ofInt 8 (IntKind.u8.wrap (255 * 2 ^ k))).toNat = b / 2 ^ k * 2 ^ k := by decide +kernel
theorem u8_idN {n : Nat} (h : n < 256) : IntKind.u8.wrap (n : Int) = (n : Int) := by simp [IntKind.wrap, IntKind.bits, IntKind.signed]; omega
theorem mask_op {b : Nat} {left : Int} (hb : b < 256) (h1 : 0 < left) (h2 : left < 8) : intV .and .u8 (b : Int) (IntKind.u8.wrap (255 * 2 ^ min (8 - left).toNat IntKind.u8.bits)) = some (.int .u8 (maskN b left : Nat)) := by
  have e : min (8 - left).toNat IntKind.u8.bits = 8 - left.toNat := by simp [IntKind.bits]; omega
  rw [e]
  show some (V.int .u8 (IntKind.u8.wrap ((BitVec.ofInt 8 (b : Int) &&& BitVec.ofInt 8 (IntKind.u8.wrap (255 * 2 ^ (8 - left.toNat)))).toNat : Int))) = _
  rw [mask_and b hb _ (by omega)]
  have hm : maskN b left = b / 2 ^ (8 - left.toNat) * 2 ^ (8 - left.toNat) := by unfold maskN; rw [if_neg (by omega), if_pos h2]
  rw [← hm, u8_idN (by have := maskN_le b left; omega)]
theorem masked_ct {h : H} {l : List UInt8} {n : Int} (hl : l.length ≤ 1000000) (hn : -1000000 ≤ n ∧ n ≤ 1000000) : Pure Tryd.prog 21 [.str l, .int .i64 n] h (.str (maskL l n)) := by
  refine pure_to Tryd.func21 S.prim_masked_code S.prim_masked_enter rfl (Nat.le_of_ble_eq_true rfl) fun wf => ?_; simp only [S.prim_masked]
  have hll : l.length ≤ 9223372036854775807 := by omega
  simp [exec, hll]
  refine loop_up (fun i t h' => (t 1 = .int .i64 n ∧ t 5 = .sl h.next l.length 0 l.length none ∧ t 11 = .int .i64 l.length ∧ t 12 = .int .i64 i) ∧ Ge h h' ∧ h.next < h'.next ∧ h'.get h.next = some (.grow 1 ((maskL (l.take i) n ++ l.drop i).map byteV))) l.length ⟨by simp, by simp, by simp, by simp [maskL]⟩ ?_
  rintro i t h' hi ⟨⟨t1, t5, t11, t12⟩, hg, hnx, ho⟩ K hK
  by_cases hlt : i < l.length
  · have hw := wrap_succ hlt (by omega)
    have w8 : IntKind.i64.wrap (8 * (i : Int)) = 8 * (i : Int) := wrap_i64_id (by omega) (by omega)
    have wl : IntKind.i64.wrap (n - 8 * (i : Int)) = n - 8 * (i : Int) := wrap_i64_id (by omega) (by omega)
    have hlen : (maskL (l.take i) n ++ l.drop i).length = l.length := by simp [maskL_len]; omega
    have hb : (l[i]).toNat < 256 := (l[i]).toNat_lt
    have hgi : (maskL (l.take i) n ++ l.drop i)[i]? = some l[i] := by
      rw [List.getElem?_append_right (by rw [maskL_len, List.length_take]; omega), maskL_len, List.length_take, Nat.min_eq_left (by omega), Nat.sub_self, List.getElem?_drop]
      simp [List.getElem?_eq_getElem hlt]
    have hset : ∀ v : UInt8, UInt8.ofNat (maskN (l[i]).toNat (n - 8 * (i : Int))) = v → (maskL (l.take i) n ++ l.drop i).set i v = maskL (l.take (i + 1)) n ++ l.drop (i + 1) := fun v hv => by
      rw [maskL_snoc hlt, ← hv, List.set_append_right _ _ (by rw [maskL_len, List.length_take]; omega), maskL_len, List.length_take, Nat.min_eq_left (by omega), Nat.sub_self, List.drop_eq_getElem_cons hlt, List.set_cons_zero]
      simp
    obtain ⟨cur, hcur⟩ : ∃ cur, cur = maskL (l.take i) n ++ l.drop i := ⟨_, rfl⟩
    rw [← hcur] at ho hlen hgi hset
    have hi1 : i + 1 ≤ l.length := by omega
    have cc : cellsAt h'.get h.next l.length = some (cur.map byteV) := by rw [cellsAt_of ho (by simp [hlen])]; rfl
    have hcg : cur[i]'(by omega) = l[i] := by rw [List.getElem?_eq_getElem (by omega)] at hgi; exact Option.some.inj hgi
    have sm : ∀ b : UInt8, List.take i (cur.map byteV) ++ V.int .u8 (b.toNat : Int) :: List.drop (i + 1) (cur.map byteV) = (cur.set i b).map byteV := fun b => by
      rw [List.map_set, List.set_eq_take_append_cons_drop, if_pos (by simp; omega)]; rfl
    have fin : ∀ b : UInt8, UInt8.ofNat (maskN (l[i]).toNat (n - 8 * (i : Int))) = b → ∀ t', (t' 1 = .int .i64 n ∧ t' 5 = .sl h.next l.length 0 l.length none ∧ t' 11 = .int .i64 l.length ∧ t' 12 = .int .i64 ((i + 1 : Nat) : Int)) → K t' (h'.set h.next (.grow 1 ((cur.set i b).map byteV))) := fun b hb t' ht =>
      hK _ _ hlt ⟨ht, hg.set (Nat.le_refl _) _, by simpa using hnx, by simp [hset b hb]⟩
    clear hcur
    simp [t1, t11, t12, hlt, w8, wl]
    by_cases hle : n - 8 * (i : Int) ≤ 0
    · have f := fin 0 (by rw [maskN_small hle]; rfl)
      have s0 := sm 0
      simp at s0
      simp [hle, t5, t12, hlt, ho, hlen, hi1, s0, hw]
      rw [List.map_set] at f
      refine f _ ?_
      simp [t1, t5, t11]
    · by_cases h8 : n - 8 * (i : Int) < 8
      · have w88 : IntKind.i64.wrap (8 - (n - 8 * (i : Int))) = 8 - (n - 8 * (i : Int)) := wrap_i64_id (by omega) (by omega)
        have mo := mask_op hb (left := n - 8 * (i : Int)) (by omega) h8
        have hmb := maskN_le (l[i]).toNat (n - 8 * (i : Int))
        have s1 := sm (UInt8.ofNat (maskN (l[i]).toNat (n - 8 * (i : Int))))
        rw [show ((UInt8.ofNat (maskN (l[i]).toNat (n - 8 * (i : Int)))).toNat : Int) = (maskN (l[i]).toNat (n - 8 * (i : Int)) : Nat) by simp; omega] at s1
        have f := fin _ rfl
        have y0 : (0 : Int) ≤ 8 - (n - 8 * (i : Int)) := by omega
        have sh : shiftV .shl .u8 255 (8 - (n - 8 * (i : Int))) = some (.int .u8 (IntKind.u8.wrap (255 * 2 ^ min (8 - (n - 8 * (i : Int))).toNat IntKind.u8.bits))) := by
          unfold shiftV; rw [if_neg (by omega)]
        simp [hle, h8]
        refine dreg_of ?_
        simp [t5, t12, hlt, ho, cc, hlen, hcg, byteV, w88, sh, mo, hi1, hw]
        rw [s1]
        refine f _ ?_
        simp [t1, t5, t11]
      · simp [hle, h8, t12, hw]
        have e0 : cur.set i l[i] = cur := by rw [← hcg, List.set_getElem_self]
        refine hK _ _ hlt ⟨by simp [t1, t5, t11], hg, hnx, ?_⟩
        rw [ho, ← hset l[i] (by rw [maskN_big (by omega)]; simp), e0]
  · have hi2 : i = l.length := by omega
    subst hi2
    have hle : l.take l.length = l := List.take_of_length_le (Nat.le_refl _)
    have el : elemsV h'.get 1 (.sl h.next l.length 0 l.length none) = some (l.length, (maskL l n).map byteV) := by
      rw [elemsV_sl]
      split
      · rename_i h0
        have : l = [] := List.eq_nil_of_length_eq_zero h0
        subst this; rfl
      · rw [cellsAt_of ho (by simp [maskL_len])]; simp [List.take_of_length_le, maskL_len]
    simp [t5, t11, t12, el]
    exact hg
theorem eqV_str (a b : List UInt8) : eqV .str (.str a) (.str b) = some (a == b) := by simp [eqV]
theorem pcheck_ct {h : H} {p : Pfx} : Pure Tryd.prog 19 [.agg (pfxC p)] h (.int .i64 (if mayP p = true then 0 else 2)) := by
  refine pure_to Tryd.func19 S.prim_Check_code S.prim_Check_enter rfl (Nat.le_of_ble_eq_true rfl) fun wf => ?_; simp only [S.prim_Check]
  simp only [pfxC]
  simp
  refine psize_ct _ ?_
  simp
  have sl := size_le p.fam
  have c1 : cellsAt (h.push (.row (pfxC p))).get h.next 4 = some (pfxC p) := by rw [cellsAt_of (by simp; rfl) (by simp [pfxC])]; rfl
  simp only [pfxC] at c1
  refine dreg_quiet (wf.push _) ?_
  by_cases e0 : sizeN p.fam = 0
  · simp [e0, mayP]
  have b0 : (((sizeN p.fam : Nat) : Int) == 0) = false := beq_no (by omega)
  have ef : ¬ p.fam = 0 := by intro e; apply e0; rw [e]; decide
  have bf := beq_no ef
  have eqz : eqV (TS.st [(0, 1, false, TS.int), (1, 1, false, TS.int), (2, 1, false, TS.str), (3, 1, false, TS.int)]) (.agg [.int .i64 p.fam, .int .u64 (p.rd : Nat), .str p.addr, .int .i64 p.len]) (.agg [.int .i64 0, .int .u64 0, .str [], .int .i64 0]) = some false := by
    simp [eqV, eqFs, bf]
  have ms0 : (decide (sizeN p.fam ≠ 0)) = true := by simpa using e0
  by_cases e1 : p.addr.length = sizeN p.fam
  · have b1 : ((p.addr.length : Int) != ((sizeN p.fam : Nat) : Int)) = false := by rw [e1]; simp
    by_cases e2 : p.len < 0
    · have m : mayP p = false := by
        have : ¬ 0 ≤ p.len := by omega
        simp [mayP, this]
      simp [b0, c1, eqz, b1, e2, m]
    · have e2' : 0 ≤ p.len := by omega
      have w8 : IntKind.i64.wrap (8 * ((sizeN p.fam : Nat) : Int)) = 8 * ((sizeN p.fam : Nat) : Int) := wrap_i64_id (by omega) (by omega)
      by_cases e3 : 8 * ((sizeN p.fam : Nat) : Int) < p.len
      · have m : mayP p = false := by
          have : ¬ p.len ≤ 8 * ((sizeN p.fam : Nat) : Int) := by omega
          simp [mayP, this]
        simp [b0, c1, eqz, b1, e2, w8, e3, m]
      · have e3' : p.len ≤ 8 * ((sizeN p.fam : Nat) : Int) := by omega
        have fin : ∀ (hrd : (decide (p.rd = 0) || apartF p.fam) = true), mayP p = decide (maskL p.addr p.len = p.addr) := fun hrd => by
          simp only [mayP, ms0, e1, e2', e3', hrd, decide_true, Bool.true_and]
        have last : ∀ hrd : (decide (p.rd = 0) || apartF p.fam) = true, (if mayP p = true then (0 : Int) else 2) = if (maskL p.addr p.len != p.addr) = true then 2 else 0 := fun hrd => by
          rw [fin hrd]
          by_cases hm : maskL p.addr p.len = p.addr
          · simp [hm]
          · have : (maskL p.addr p.len != p.addr) = true := by simpa using hm
            rw [this]; simp [hm]
        have mk : ∀ h2, Ge (h.push (.row [.int .i64 p.fam, .int .u64 (p.rd : Nat), .str p.addr, .int .i64 p.len])) h2 → Pure Tryd.prog 21 [.str p.addr, .int .i64 p.len] h2 (.str (maskL p.addr p.len)) := fun h2 _ => masked_ct (by omega) (by omega)
        by_cases e4 : p.rd = 0
        · have b4 : (((p.rd : Nat) : Int) != 0) = false := by rw [e4]; rfl
          rw [last (by simp [e4])]
          simp [b0, c1, eqz, b1, e2, w8, e3, b4]
          refine qcall_of (v := .str (maskL p.addr p.len)) rfl mk ?_
          simp [c1]
          by_cases hq : maskL p.addr p.len = p.addr
          · have hb : (maskL p.addr p.len == p.addr) = true := by simpa using hq
            simp [hq]
          · have hb : (maskL p.addr p.len == p.addr) = false := by simpa using hq
            simp [hb, hq]
        · have b4 : (((p.rd : Nat) : Int) != 0) = true := by
            have : ¬ ((p.rd : Nat) : Int) = 0 := by omega
            simpa using this
          simp [b0, c1, eqz, b1, e2, w8, e3, b4]
          refine qcall_of (v := .bool (apartF p.fam)) rfl (fun h2 _ => papart_ct) ?_
          cases ha : apartF p.fam with
          | false =>
            have m : mayP p = false := by simp [mayP, e4, ha]
            simp [m]
          | true =>
            rw [last (by simp [ha])]
            simp
            refine qcall_of (v := .str (maskL p.addr p.len)) rfl mk ?_
            simp [c1]
            by_cases hq : maskL p.addr p.len = p.addr
            · have hb : (maskL p.addr p.len == p.addr) = true := by simpa using hq
              simp [hq]
            · have hb : (maskL p.addr p.len == p.addr) = false := by simpa using hq
              simp [hb, hq]
  · have b1 : ((p.addr.length : Int) != ((sizeN p.fam : Nat) : Int)) = true := by
      have : ¬ (p.addr.length : Int) = ((sizeN p.fam : Nat) : Int) := by omega
      simpa using this
    have m : mayP p = false := by simp [mayP, e1]
    simp [b0, c1, eqz, b1, m]
end Go.Am

/-
  Contracts: bytes that grow behind a pointer; Encode.
-/
namespace Go.Am
open Go.Proofs

set_option maxRecDepth 100000
@[simp] theorem solid_ptr (i n o : Nat) : (V.ptr i n o).solid = true := _root_.id rfl
@[simp] theorem cells_ptr (i n o : Nat) : (V.ptr i n o).cells = [.ptr i n o] := _root_.id rfl
/-- 'v' is a row of bytes that was built by append from nothing. -/
def Gb (h : H) (lo : Nat) (v : V) (l : List UInt8) : Prop :=
  (l = [] ∧ v = .nilsl) ∨ (l ≠ [] ∧ ∃ j, lo ≤ j ∧ j < h.next ∧ v = .sl j l.length 0 l.length none ∧ h.get j = some (.grow 1 (l.map byteV)))
theorem Gb.one {h : H} {lo : Nat} {v : V} {l : List UInt8} (g : Gb h lo v l) : v.one = true := by
  rcases g with ⟨_, rfl⟩ | ⟨_, j, _, _, rfl, _⟩ <;> rfl
theorem byteV_ids (l : List UInt8) : V.idss (l.map byteV) = [] := by
  induction l with
  | nil => rfl
  | cons b l ih => simp [V.idss, byteV, V.ids, ih]
theorem byteV_all (l : List UInt8) : (l.map byteV).all V.one = true := by simp [byteV]
/-- A string of bytes is appended. -/
theorem Gb.append {h : H} {lo : Nat} {v : V} {l : List UInt8} (g : Gb h lo v l) (hlo : lo ≤ h.next) (s : List UInt8) (hb : l.length + s.length ≤ 1000000000) :
    ∃ v' d, appendV h.get h.next 1 1 v (.str s) = some (v', d) ∧ Gb (h.app d) lo v' (l ++ s) ∧ h.next ≤ (h.app d).next ∧ (∀ b cs, h.get b = some (.row cs) → b < h.next → (h.app d).get b = some (.row cs)) ∧ (∀ b, b < lo → (h.app d).get b = h.get b) ∧ (h.WF → (h.app d).WF) := by
  have hx : elemsV h.get 1 (.str s) = some (s.length, s.map byteV) := by simp [elemsV]
  by_cases h0 : s = []
  · subst h0
    refine ⟨v, .keep, ?_, by simpa using g, Nat.le_refl _, fun _ _ e _ => e, fun _ _ => rfl, fun w => w⟩
    unfold appendV
    rw [hx]
    rcases g with ⟨_, rfl⟩ | ⟨_, j, _, _, rfl, _⟩ <;> simp
  · have hs : s.length ≠ 0 := by simpa using h0
    rcases g with ⟨rfl, rfl⟩ | ⟨hne, j, g1, g2, rfl, g3⟩
    · refine ⟨_, _, appendV_nil hx hs (byteV_all s) (by omega) (by simp at hb; omega) (by simp at hb; omega), .inr ⟨by simpa using h0, h.next, hlo, by simp, by simp, by simp⟩, by simp, fun b cs e hlt => ?_, fun b hb => ?_, fun w => w.push _⟩
      · rw [app_push, H.get_push, if_neg (by omega)]; exact e
      · rw [app_push, H.get_push, if_neg (by omega)]
    · refine ⟨_, _, appendV_grow g3 (by simp) (by simp) hx hs (byteV_all s) (by omega) (by omega) (by omega), .inr ⟨by simp [hne], j, g1, by simpa using g2, by simp, by simp⟩, by simp, fun b cs e hlt => ?_, fun b hb => ?_, fun w => w.set g2 _⟩
      · rw [app_set, H.get_set]
        split
        · rename_i e2; rw [e2, g3] at e; cases e
        · exact e
      · rw [app_set, H.get_set, if_neg (by omega)]
theorem Gb.elems {h : H} {lo : Nat} {v : V} {l : List UInt8} (g : Gb h lo v l) : elemsV h.get 1 v = some (l.length, l.map byteV) := by
  rcases g with ⟨rfl, rfl⟩ | ⟨hne, j, g1, g2, rfl, g3⟩
  · rfl
  · have : l.length ≠ 0 := by simpa using hne
    rw [elemsV_sl, if_neg this, cellsAt_of g3 (by simp)]
    simp [List.take_of_length_le]
/-- A buffer behind a pointer at 'o', over the heap 'h0'. -/
structure Buf (h0 : H) (o : Nat) (acc : List UInt8) (h : H) : Prop where
  ge : Ge h0 h
  wf : h.WF
  lt : o < h.next
  lo : h0.next ≤ o
  at_ : ∃ v, h.get o = some (.row [v]) ∧ Gb h (o + 1) v acc
/-- Rows are kept, but the one at 'o'. -/
def Keeps (o : Nat) (h h' : H) : Prop := h.next ≤ h'.next ∧ ∀ b cs, b ≠ o → h.get b = some (.row cs) → h'.get b = some (.row cs)
theorem Keeps.refl (o : Nat) (h : H) : Keeps o h h := ⟨Nat.le_refl _, fun _ _ _ e => e⟩
theorem Keeps.trans {o : Nat} {a b c : H} (x : Keeps o a b) (y : Keeps o b c) : Keeps o a c := ⟨Nat.le_trans x.1 y.1, fun i cs hi e => y.2 i cs hi (x.2 i cs hi e)⟩
theorem Keeps.push {o : Nat} {h h' : H} (k : Keeps o h h') (w : h'.WF) (x : O) : Keeps o h (h'.push x) := ⟨by have := k.1; simp; omega, fun b cs hb e => by
  have := k.2 b cs hb e
  rw [H.get_push, if_neg (by have := w.lt this; omega)]; exact this⟩
theorem Buf.push {h0 h : H} {o : Nat} {acc : List UInt8} (b : Buf h0 o acc h) (x : O) : Buf h0 o acc (h.push x) := by
  obtain ⟨v, h1, h2⟩ := b.at_
  have hlt := b.lt
  refine ⟨b.ge.push x, b.wf.push x, by have := b.lt; simp; omega, b.lo, v, by rw [H.get_push, if_neg (by omega)]; exact h1, ?_⟩
  rcases h2 with ⟨rfl, rfl⟩ | ⟨hne, j, g1, g2, rfl, g3⟩
  · exact .inl ⟨rfl, rfl⟩
  · exact .inr ⟨hne, j, g1, by simp; omega, rfl, by rw [H.get_push, if_neg (by omega)]; exact g3⟩
/-- A row that is not the buffer's is written anew. -/
theorem Buf.set {h0 h : H} {o : Nat} {acc : List UInt8} (b : Buf h0 o acc h) {i : Nat} {cs : List V} (hi : h.get i = some (.row cs)) (hne : i ≠ o) (h0i : h0.next ≤ i) (x : O) : Buf h0 o acc (h.set i x) := by
  obtain ⟨v, h1, h2⟩ := b.at_
  refine ⟨b.ge.set h0i x, b.wf.set (b.wf.lt hi) x, b.lt, b.lo, v, by rw [H.get_set, if_neg (Ne.symm hne)]; exact h1, ?_⟩
  rcases h2 with ⟨rfl, rfl⟩ | ⟨hne2, j, g1, g2, rfl, g3⟩
  · exact .inl ⟨rfl, rfl⟩
  · exact .inr ⟨hne2, j, g1, g2, rfl, by rw [H.get_set, if_neg (fun e => by rw [e, hi] at g3; cases g3)]; exact g3⟩
theorem Buf.pushed {h0 h : H} {o : Nat} {acc : List UInt8} (b : Buf h0 o acc h) (cs : List V) (y : O) : Buf h0 o acc ((h.push (.row cs)).set h.next y) :=
  (b.push (.row cs)).set (cs := cs) (by simp) (by have := b.lt; omega) (by have := b.ge.1; omega) y
/-- A string is appended to the buffer. -/
theorem Buf.add {h0 h : H} {o : Nat} {acc : List UInt8} (b : Buf h0 o acc h) (s : List UInt8) (hb : acc.length + s.length ≤ 1000000000) :
    ∃ v v' d, h.get o = some (.row [v]) ∧ appendV h.get h.next 1 1 v (.str s) = some (v', d) ∧ v'.one = true ∧ (h.app d).get o = some (.row [v]) ∧ Buf h0 o (acc ++ s) ((h.app d).set o (.row [v'])) ∧ Keeps o h ((h.app d).set o (.row [v'])) := by
  obtain ⟨v, h1, h2⟩ := b.at_
  have hlt := b.lt
  have hlo := b.lo
  obtain ⟨v', d, a1, a2, a3, a4, a5, a6⟩ := h2.append (by omega) s hb
  have go : (h.app d).get o = some (.row [v]) := a4 o _ h1 hlt
  have hw := a6 b.wf
  refine ⟨v, v', d, h1, a1, a2.one, go, ⟨?_, hw.set (hw.lt go) _, by have := b.lt; simp; omega, hlo, v', by simp, ?_⟩, ⟨by simpa using a3, fun x cs hx e => ?_⟩⟩
  · refine Ge.set ⟨by have := b.ge.1; omega, fun i hi => ?_⟩ hlo _
    rw [a5 i (by omega)]
    exact b.ge.2 i hi
  · rcases a2 with ⟨e1, e2⟩ | ⟨hne, j, g1, g2, e2, g3⟩
    · exact .inl ⟨e1, e2⟩
    · exact .inr ⟨hne, j, g1, by simpa using g2, e2, by rw [H.get_set, if_neg (by omega)]; exact g3⟩
  · rw [H.get_set, if_neg hx]
    exact a4 x cs e (b.wf.lt e)
/-- Which told prefixes are laid. -/
def encOk (fam : Int) (add : Bool) (n : Nl) : Bool := mayN n && (n.p.fam == fam) && (decide (n.id = 0) || add)
def encS (l : List Nl) (fam : Int) (add : Bool) : Option (List UInt8) := if sizeN fam = 0 then none else if l.all (encOk fam add) = true then some (encL add l) else none
structure NlFit (n : Nl) : Prop where
  id : n.id < 4294967296
  rd : n.p.rd < 18446744073709551616
end Go.Am

/-
  Encode's contract.
-/
namespace Go.Am
open Go.Proofs

set_option maxRecDepth 100000
theorem plain1 {P : Program} {k : Nat} {fn : List V → Option V} (c : ∀ vals v, fn vals = some v → ∀ h, Pure P k vals h v) : ∀ p ∈ [(k, fn)], ∀ vals v, p.2 vals = some v → ∀ h, Acalls P p.1 vals h fun u h' => u = v ∧ h' = h := by
  intro p hp vals v e h
  rw [List.mem_singleton] at hp
  subst hp
  exact c vals v e h _ ⟨rfl, rfl⟩
def aheadP : List V → Option V
  | [.int .i64 f] => some (.int .i64 (aheadN f : Nat))
  | _ => none
def wholeP : List V → Option V
  | [.int .i64 b] => if 0 ≤ b ∧ b < 1000000 then some (.int .i64 (wholeN b.toNat : Nat)) else none
  | _ => none
@[simp] theorem aheadP_eq (f : Int) : aheadP [.int .i64 f] = some (.int .i64 (aheadN f : Nat)) := rfl
theorem wholeP_eq {n : Nat} (h : n < 1000000) : wholeP [.int .i64 (n : Nat)] = some (.int .i64 (wholeN n : Nat)) := by
  simp only [wholeP]
  rw [if_pos ⟨by omega, by omega⟩]; simp
theorem or_one : ∀ v : Nat, v < 4294967296 → (BitVec.ofInt 64 ((v * 16 : Nat) : Int) ||| BitVec.ofInt 64 1).toNat = v * 16 + 1 := by
  intro v hv
  have h1 : (BitVec.ofInt 64 ((v * 16 : Nat) : Int)).toNat = 2 ^ 4 * v := by simp [BitVec.toNat_ofInt]; omega
  have h2 : (BitVec.ofInt 64 1).toNat = 1 := by decide
  rw [BitVec.toNat_or, h1, h2, ← Nat.two_pow_add_eq_or_of_lt (by omega)]; omega
end Go.Am

/-
  The orders of prefixes and told prefixes: the plain law.
-/
namespace Go.Am

def cmpPf (a b : Pfx) : Int := orI (cmpI a.fam b.fam) (orI (cmpI a.rd b.rd) (orI (Go.Lib.compareBytes a.addr b.addr) (cmpI a.len b.len)))
def cmpNl (a b : Nl) : Int := orI (cmpPf a.p b.p) (orI (cmpI a.id b.id) (cmpI a.label b.label))
theorem ordr_pf : Ordr cmpPf :=
  (ordr_int.on Pfx.fam).or ((ordr_int.on fun p : Pfx => (p.rd : Int)).or ((ordr_cb.on Pfx.addr).or (ordr_int.on Pfx.len)))
theorem ordr_nl : Ordr cmpNl :=
  (ordr_pf.on Nl.p).or ((ordr_int.on fun n : Nl => (n.id : Int)).or (ordr_int.on fun n : Nl => (n.label : Int)))
theorem cmpPf_eq {a b : Pfx} (h : cmpPf a b = 0) : a = b := by
  simp only [cmpPf, orI_eq, cmpI_zero] at h
  obtain ⟨h1, h2, h3, h4⟩ := h
  cases a; cases b
  simp only at h1 h2 h3 h4
  simp only [Pfx.mk.injEq]
  exact ⟨h1, by omega, cb_eq _ _ h3, h4⟩
theorem cmpNl_eq {a b : Nl} (h : cmpNl a b = 0) : a = b := by
  simp only [cmpNl, orI_eq, cmpI_zero] at h
  obtain ⟨h1, h2, h3⟩ := h
  have := cmpPf_eq h1
  cases a; cases b
  simp only at this h2 h3
  simp only [Nl.mk.injEq]
  exact ⟨this, by omega, by omega⟩
end Go.Am

/-
  The orders' contracts: numbers, texts, prefixes, told prefixes.
-/
namespace Go.Am
open Go.Proofs

set_option maxRecDepth 100000
def P4 (f r : Int) (s : List UInt8) (l : Int) : List V := [.int .i64 f, .int .u64 r, .str s, .int .i64 l]
def cmp4 (f r l f' r' l' : Int) (s s' : List UInt8) : Int := orI (cmpI f f') (orI (cmpI r r') (orI (Go.Lib.compareBytes s s') (cmpI l l')))
theorem bq (x y : Int) : (x == y) = decide (x = y) := by by_cases h : x = y <;> simp [h]
theorem eqFs_cons {off sz : Nat} {agg : Bool} {ts : TS} {fs : List (Nat × Nat × Bool × TS)} {xs ys : List V} {x y : V} {b : Bool} (hx : partV agg off sz xs = some x) (hy : partV agg off sz ys = some y) (hb : eqV ts x y = some b) :
    eqFs ((off, sz, agg, ts) :: fs) xs ys = if b = true then eqFs fs xs ys else some false := by
  simp only [eqFs, hx, hy, hb]
  cases b <;> rfl
theorem eqV_int (k : IntKind) (a b : Int) : eqV .int (.int k a) (.int k b) = some (decide (a = b)) := by simp [eqV, bq]
theorem eqV_nat (k : IntKind) (a b : Nat) : eqV .int (.int k (a : Int)) (.int k (b : Int)) = some (decide (a = b)) := by
  rw [eqV_int]
  by_cases h : a = b
  · simp [h]
  · have : ¬ (a : Int) = b := by omega
    simp [h, this]
theorem eqV_s (a b : List UInt8) : eqV .str (.str a) (.str b) = some (decide (a = b)) := by
  rw [eqV_str]
  by_cases h : a = b <;> simp [h]
theorem ifs (a b : Bool) : (if a = true then some b else some false) = some (a && b) := by cases a <;> rfl
theorem eq_pf (a b : Pfx) : eqV (TS.st [(0, 1, false, TS.int), (1, 1, false, TS.int), (2, 1, false, TS.str), (3, 1, false, TS.int)]) (.agg (pfxC a)) (.agg (pfxC b)) = some (decide (a = b)) := by
  show eqFs _ _ _ = _
  rw [eqFs_cons rfl rfl (eqV_int _ _ _), eqFs_cons rfl rfl (eqV_nat _ _ _), eqFs_cons rfl rfl (eqV_s _ _), eqFs_cons rfl rfl (eqV_int _ _ _), show eqFs [] (pfxC a) (pfxC b) = some true from rfl]
  simp only [ifs]
  obtain ⟨f, r, s, l⟩ := a
  obtain ⟨f', r', s', l'⟩ := b
  simp only [Pfx.mk.injEq, Bool.and_true, Bool.decide_and]
/-- A told prefix's cells, compared. -/
theorem eq_nl (a b : Nl) : eqV (TS.st [(0, 4, true, (TS.st [(0, 1, false, TS.int), (1, 1, false, TS.int), (2, 1, false, TS.str), (3, 1, false, TS.int)])), (4, 1, false, TS.int), (5, 1, false, TS.int)]) (.agg (nlC a)) (.agg (nlC b)) = some (decide (a = b)) := by
  show eqFs _ _ _ = _
  rw [eqFs_cons (x := .agg (pfxC a.p)) (y := .agg (pfxC b.p)) rfl rfl (eq_pf _ _), eqFs_cons rfl rfl (eqV_nat _ _ _), eqFs_cons rfl rfl (eqV_nat _ _ _), show eqFs [] (nlC a) (nlC b) = some true from rfl]
  simp only [ifs]
  obtain ⟨p, i, c⟩ := a
  obtain ⟨p', i', c'⟩ := b
  simp only [Nl.mk.injEq, Bool.and_true, Bool.decide_and]
def pcmpP : List V → Option V
  | [.agg [.int .i64 f, .int .u64 r, .str s, .int .i64 l], .agg [.int .i64 f', .int .u64 r', .str s', .int .i64 l']] => some (.int .i64 (cmp4 f r l f' r' l' s s'))
  | _ => none
def cmp32P : List V → Option V
  | [.int .u32 a, .int .u32 b] => some (.int .i64 (cmpI a b))
  | _ => none
end Go.Am
