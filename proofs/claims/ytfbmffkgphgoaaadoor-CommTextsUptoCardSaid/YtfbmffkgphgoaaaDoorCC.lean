/-
  N0, WN, C0, C1, in one text.
-/
import Derived.Test.YtfbmffkgphgoaaaDoorAm30
import Derived.Test.YtfbmffkgphgoaaaDoorSkP
import Derived.Test.YtfbmffkgphgoaaaDoorAm35
import Derived.Test.YtfbmffkgphgoaaaDoorAm31
/-
  Numbers and their bytes; a call that turns one object.
-/
namespace Go.Am

/-- A call that turns one object, and whose other makings are let go. -/
theorem Acalls.turn {P : Program} {f : FuncId} {args : List V} {h : H} {i : Nat} {o' : O} {Q : V → H → Prop} (hi : ∃ o, h.get i = some o) (ho : o'.ids = [])
    (c : h.WF → Acalls P f args h fun v h1 => Ge (h.set i o') h1 ∧ v.ids = [] ∧ Q v (h.set i o')) (he : enterable P f = true) : Acalls P f args h Q := by
  refine Acalls.cl he fun wf cl => Acalls.rename ((c wf).mono ?_)
  rintro v h1 ⟨hg, hv, hq⟩
  obtain ⟨oi, hoi⟩ := hi
  have hlt := wf.lt hoi
  have w2 : (h.set i o').WF := wf.set hlt _
  have liv : ∀ k, (∃ o, h.get k = some o) → ∃ o, (h.set i o').get k = some o := fun k ⟨o, hk⟩ => by
    rw [H.get_set]; split
    · exact ⟨_, rfl⟩
    · exact ⟨o, hk⟩
  refine ⟨id, v, h.set i o', (V.ren_id (σ := id) v (fun _ _ => rfl)).symm, ⟨fun k o hk => by rw [show o.ren id = o from O.ren_id (σ := id) o (fun _ _ => rfl)]; exact hg.keeps w2 k o hk, fun _ _ _ _ _ _ e => e, fun k o hk j hj => ?_, w2⟩, fun k hk => (by rw [hv] at hk; cases hk), fun k o hk => ⟨rfl, liv k ⟨o, hk⟩⟩, hq⟩
  rw [H.get_set] at hk
  split at hk
  · cases hk
    rw [ho] at hj; cases hj
  · exact liv j (cl k o hk j hj)

theorem H.push_set (h : H) (o o' : O) : (h.push o).set h.next o' = h.push o' := H.ext' rfl fun j => by
  rw [H.get_set, H.get_push, H.get_push]; split <;> simp_all
/-- A reader. -/
def rdr (l : List UInt8) : O := .row [.bool true, .str l]
def val (l : List UInt8) : Nat := l.foldl (fun a b => a * 256 + b.toNat) 0
theorem val_snoc (l : List UInt8) (b : UInt8) : val (l ++ [b]) = val l * 256 + b.toNat := by simp [val]
theorem val_lt : ∀ (n : Nat) (l : List UInt8), l.length = n → val l < 256 ^ n := by
  intro n
  induction n with
  | zero => intro l hl; have : l = [] := List.length_eq_zero_iff.1 hl; subst this; simp [val]
  | succ n ih =>
    intro l hl
    have hne : l ≠ [] := by intro e; subst e; simp at hl
    have h1 := ih l.dropLast (by simp [hl])
    rw [← List.dropLast_concat_getLast hne, val_snoc]
    have := (l.getLast hne).toNat_lt
    rw [Nat.pow_succ]; omega
theorem val_lt8 {l : List UInt8} (hl : l.length ≤ 8) : val l < 18446744073709551616 :=
  Nat.lt_of_lt_of_le (val_lt _ l rfl) (by
    have := Nat.pow_le_pow_right (show 0 < 256 by omega) hl
    have e : 256 ^ 8 = 18446744073709551616 := by decide
    omega)

theorem u64_id {n : Nat} (h : n < 18446744073709551616) : IntKind.u64.wrap (n : Int) = n := by simp [IntKind.wrap, IntKind.bits, IntKind.signed]; omega
/-- A number's bytes, the highest one first. -/
def be : Nat → Nat → List UInt8
  | 0, _ => []
  | n + 1, v => UInt8.ofNat (v / 256 ^ n) :: be n v
theorem be_len : ∀ n v, (be n v).length = n
  | 0, _ => rfl
  | n + 1, v => by rw [be, List.length_cons, be_len n v]

theorem foldl_val : ∀ (l : List UInt8) (a : Nat), l.foldl (fun a b => a * 256 + b.toNat) a = a * 256 ^ l.length + val l
  | [], a => by simp [val]
  | x :: l, a => by
    have h0 := foldl_val l x.toNat
    have h1 := foldl_val l (a * 256 + x.toNat)
    have e : val (x :: l) = l.foldl (fun a b => a * 256 + b.toNat) x.toNat := by simp [val]
    rw [List.foldl_cons, h1, e, h0, List.length_cons, Nat.pow_succ, Nat.add_mul, Nat.mul_assoc, Nat.mul_comm 256]; omega
theorem val_cons (x : UInt8) (l : List UInt8) : val (x :: l) = x.toNat * 256 ^ l.length + val l := by
  have := foldl_val l x.toNat
  simpa [val] using this
theorem val_be : ∀ n v : Nat, val (be n v) = v % 256 ^ n
  | 0, v => by simp [be, val, Nat.mod_one]
  | n + 1, v => by
    rw [be, val_cons, val_be n v, be_len, Nat.pow_succ, Nat.mod_mul]
    have : (UInt8.ofNat (v / 256 ^ n)).toNat = v / 256 ^ n % 256 := by simp
    rw [this, Nat.mul_comm]; omega
theorem val_be_lt {n v : Nat} (h : v < 256 ^ n) : val (be n v) = v := by rw [val_be, Nat.mod_eq_of_lt h]

end Go.Am

/-
  Contracts of the layer of bytes: readers, Put.
-/
namespace Go.Am
open Go.Proofs

theorem new_ct {h : H} {l : List UInt8} {Q : V → H → Prop} (q : Q (.ptr h.next 2 0) (h.push (rdr l))) : Acalls Tryd.prog 78 [.str l] h Q := by
  refine acalls_to Tryd.func78 S.wire_New_code S.wire_New_enter (Nat.le_of_ble_eq_true rfl) fun wf => ?_; simp only [S.wire_New]
  simp
  exact q
theorem left_ct {h : H} {i : Nat} {l : List UInt8} (r : h.get i = some (rdr l)) : Pure Tryd.prog 79 [.ptr i 2 0] h (.int .i64 l.length) := by
  refine pure_to Tryd.func79 S.wire_Reader_Left_code S.wire_Reader_Left_enter rfl (Nat.le_of_ble_eq_true rfl) fun wf => ?_; simp only [S.wire_Reader_Left]
  simp [cellsAt_of r, rdr, eqV]
theorem take_yes {h : H} {i : Nat} {l : List UInt8} (r : h.get i = some (rdr l)) {z : Int} (n : Nat) (ez : z = n) (hn : n ≤ l.length) {Q : V → H → Prop} (q : Q (.tup [.str (l.take n), .bool true]) (h.set i (rdr (l.drop n)))) : Acalls Tryd.prog 102 [.ptr i 2 0, .int .i64 z] h Q := by
  subst ez
  refine acalls_to Tryd.func102 S.wire_Reader_Take_code S.wire_Reader_Take_enter (Nat.le_of_ble_eq_true rfl) fun wf => ?_; simp only [S.wire_Reader_Take]
  have n0 : ¬ (n : Int) < 0 := by omega
  have n1 : ¬ (l.length : Int) < n := by omega
  have r' : h.get i = some (.row [.bool true, .str l]) := r
  simp [cellsAt_of r, r', rdr, eqV, n0, n1, hn]
  exact q
theorem take_no {h : H} {i : Nat} {l : List UInt8} (r : h.get i = some (rdr l)) {z : Int} (hz : z < 0 ∨ (l.length : Int) < z) : Pure Tryd.prog 102 [.ptr i 2 0, .int .i64 z] h (.tup [.str [], .bool false]) := by
  refine pure_to Tryd.func102 S.wire_Reader_Take_code S.wire_Reader_Take_enter rfl (Nat.le_of_ble_eq_true rfl) fun wf => ?_; simp only [S.wire_Reader_Take]
  have r' : h.get i = some (.row [.bool true, .str l]) := r
  by_cases h0 : z < 0
  · simp [cellsAt_of r, rdr, eqV, h0]
  · have h1 : (l.length : Int) < z := by omega
    simp [cellsAt_of r, rdr, eqV, h0, h1]
theorem or_low : ∀ v b : Nat, b < 256 → v * 256 + b < 18446744073709551616 → (BitVec.ofInt 64 ((v * 256 : Nat) : Int) ||| BitVec.ofInt 64 (b : Int)).toNat = v * 256 + b := by
  intro v b hb hv
  have h1 : (BitVec.ofInt 64 ((v * 256 : Nat) : Int)).toNat = 2 ^ 8 * v := by simp [BitVec.toNat_ofInt]; omega
  have h2 : (BitVec.ofInt 64 (b : Int)).toNat = b := by simp; omega
  rw [BitVec.toNat_or, h1, h2, ← Nat.two_pow_add_eq_or_of_lt (by omega)]; omega
theorem more_ct {h : H} {j : Nat} {v : Nat} (r : h.get j = some (.row [.int .u64 v])) {b : UInt8} (hv : v * 256 + b.toNat < 18446744073709551616) {Q : V → H → Prop} (q : Q (.tup []) (h.set j (.row [.int .u64 ((v * 256 + b.toNat : Nat) : Int)]))) : Acalls Tryd.prog 127 [byteV b, .ptr j 1 0] h Q := by
  refine acalls_to Tryd.func127 S.wire_sum_1_code S.wire_sum_1_enter (Nat.le_of_ble_eq_true rfl) fun wf => ?_; simp only [S.wire_sum_1]
  have hb : b.toNat < 256 := b.toNat_lt
  have w1 : IntKind.u64.wrap ((v : Int) * 2 ^ min 8 IntKind.u64.bits) = ((v * 256 : Nat) : Int) := by simp [IntKind.wrap, IntKind.bits, IntKind.signed]; omega
  have w2 : IntKind.u64.wrap (b.toNat : Int) = (b.toNat : Int) := u64_id (by omega)
  have orb : intV .or .u64 ((v * 256 : Nat) : Int) (b.toNat : Int) = some (.int .u64 ((v * 256 + b.toNat : Nat) : Int)) := by
    show some (V.int .u64 (IntKind.u64.wrap ((BitVec.ofInt 64 ((v * 256 : Nat) : Int) ||| BitVec.ofInt 64 (b.toNat : Int)).toNat : Int))) = _
    rw [or_low v b.toNat hb hv, u64_id hv]
  simp only [byteV]
  simp [cellsAt_of r]
  rw [w1, w2, orb]
  simp [r]
  simpa using q
theorem value_ct {h : H} {j : Nat} {v : Int} (r : h.get j = some (.row [.int .u64 v])) : Pure Tryd.prog 128 [.ptr j 1 0] h (.int .u64 v) := by
  refine pure_to Tryd.func128 S.wire_sum_2_code S.wire_sum_2_enter rfl (Nat.le_of_ble_eq_true rfl) fun wf => ?_; simp only [S.wire_sum_2]
  simp [cellsAt_of r]
theorem sum_ct {h : H} {Q : V → H → Prop} (q : Q (.tup [.func (.func 127) [] [.ptr h.next 1 0], .func (.func 128) [] [.ptr h.next 1 0]]) (h.push (.row [.int .u64 0]))) : Acalls Tryd.prog 103 [] h Q := by
  refine acalls_to Tryd.func103 S.wire_sum_code S.wire_sum_enter (Nat.le_of_ble_eq_true rfl) fun wf => ?_; simp only [S.wire_sum]
  simp
  rw [H.push_set]; exact q

set_option maxRecDepth 100000
theorem number_yes {h : H} {i : Nat} {l : List UInt8} (r : h.get i = some (rdr l)) {z : Int} (n : Nat) (ez : z = n) (h1 : 1 ≤ n ∧ n ≤ 8) (hn : n ≤ l.length) {Q : V → H → Prop} (q : Q (.tup [.int .u64 (val (l.take n)), .bool true]) (h.set i (rdr (l.drop n)))) : Acalls Tryd.prog 82 [.ptr i 2 0, .int .i64 z] h Q := by
  subst ez
  refine Acalls.turn (i := i) (o' := rdr (l.drop n)) ⟨_, r⟩ rfl (fun wf => ?_) (by kernel_rfl)
  refine acalls_to Tryd.func82 S.wire_Reader_Number_code S.wire_Reader_Number_enter (Nat.le_of_ble_eq_true rfl) fun wf => ?_; simp only [S.wire_Reader_Number]
  have e1 : ¬ (n : Int) < 1 := by omega
  have e2 : ¬ (8 : Int) < n := by omega
  have hlt := wf.lt r
  simp [e1, e2]
  refine take_yes r n rfl hn ?_
  simp
  refine sum_ct ?_
  have hl : (l.take n).length = n := by rw [List.length_take]; omega
  simp [hl]
  obtain ⟨g, hg⟩ : ∃ g, g = h.set i (rdr (l.drop n)) := ⟨_, rfl⟩
  have gn : g.next = h.next := by rw [hg]; rfl
  rw [← hg, ← gn]
  refine loop_up (fun k t h' => (t 7 = .str (l.take n) ∧ t 8 = .bool true ∧ t 9 = .func (.func 127) [] [.ptr g.next 1 0] ∧ t 10 = .func (.func 128) [] [.ptr g.next 1 0] ∧ t 31 = .int .i64 n ∧ t 32 = .int .i64 k) ∧ g.push (.row [.int .u64 (val ((l.take n).take k))]) = h') n ⟨by simp, by simp [val]⟩ ?_
  rintro k t _ hk ⟨⟨t7, t8, t9, t10, t31, t32⟩, rfl⟩ K hK
  have r2 : (g.push (.row [.int .u64 (val ((l.take n).take k))])).get g.next = some (.row [.int .u64 (val ((l.take n).take k))]) := by simp
  by_cases hlt' : k < n
  · have hkl : k < (l.take n).length := by omega
    have hw := wrap_succ hlt' (by omega)
    have hlk : (l.take n)[k] = l[k] := List.getElem_take
    have hs : val ((l.take n).take (k + 1)) = val ((l.take n).take k) * 256 + (l[k]).toNat := by
      rw [← hlk, ← val_snoc, List.take_append_getElem hkl]
    have hv : val ((l.take n).take k) * 256 + (l[k]).toNat < 18446744073709551616 := by
      rw [← hs]; exact val_lt8 (by rw [List.length_take]; omega)
    have hix : l[k]? = some l[k] := List.getElem?_eq_getElem (by omega)
    simp [t7, t9, t31, t32, hlt', hl]
    refine more_ct (b := l[k]) r2 hv ?_
    rw [H.push_set, ← hs]
    simp [t32, hw]
    exact hK _ _ hlt' ⟨by simp [t7, t8, t9, t10, t31], rfl⟩
  · have hke : k = n := by omega
    subst hke
    simp [t10, t31, t32]
    refine value_ct r2 _ ?_
    simp [t8]
    rw [List.take_of_length_le (by omega)]
    exact ⟨rfl, by rw [hg]; exact q⟩
theorem number_no {h : H} {i : Nat} {l : List UInt8} (r : h.get i = some (rdr l)) {z : Int} (n : Nat) (ez : z = n) (h1 : 1 ≤ n ∧ n ≤ 8) (hn : l.length < n) : Pure Tryd.prog 82 [.ptr i 2 0, .int .i64 z] h (.tup [.int .u64 0, .bool false]) := by
  subst ez
  refine pure_to Tryd.func82 S.wire_Reader_Number_code S.wire_Reader_Number_enter rfl (Nat.le_of_ble_eq_true rfl) fun wf => ?_; simp only [S.wire_Reader_Number]
  have e1 : ¬ (n : Int) < 1 := by omega
  have e2 : ¬ (8 : Int) < n := by omega
  simp [e1, e2]
  refine take_no r (.inr (by omega)) _ ?_
  simp
  refine sum_ct ?_
  simp
  refine loop_up (fun k t h' => (t 8 = .bool false ∧ t 10 = .func (.func 128) [] [.ptr h.next 1 0] ∧ t 31 = .int .i64 0 ∧ t 32 = .int .i64 0) ∧ h.push (.row [.int .u64 0]) = h') 0 ⟨by simp, rfl⟩ ?_
  rintro k t _ hk ⟨⟨t8, t10, t31, t32⟩, rfl⟩ K hK
  simp [t31, t32, t10]
  refine value_ct (v := 0) (by simp) _ ?_
  simp [t8]
/-- What Len64 tells. -/
def len8 : List UInt8 := [0, 1, 2, 2, 3, 3, 3, 3, 4, 4, 4, 4, 4, 4, 4, 4, 5, 5, 5, 5, 5, 5, 5, 5, 5, 5, 5, 5, 5, 5, 5, 5, 6, 6, 6, 6, 6, 6, 6, 6, 6, 6, 6, 6, 6, 6, 6, 6, 6, 6, 6, 6, 6, 6, 6, 6, 6, 6, 6, 6, 6, 6, 6, 6, 7, 7, 7, 7, 7, 7, 7, 7, 7, 7, 7, 7, 7, 7, 7, 7, 7, 7, 7, 7, 7, 7, 7, 7, 7, 7, 7, 7, 7, 7, 7, 7, 7, 7, 7, 7, 7, 7, 7, 7, 7, 7, 7, 7, 7, 7, 7, 7, 7, 7, 7, 7, 7, 7, 7, 7, 7, 7, 7, 7, 7, 7, 7, 7, 8, 8, 8, 8, 8, 8, 8, 8, 8, 8, 8, 8, 8, 8, 8, 8, 8, 8, 8, 8, 8, 8, 8, 8, 8, 8, 8, 8, 8, 8, 8, 8, 8, 8, 8, 8, 8, 8, 8, 8, 8, 8, 8, 8, 8, 8, 8, 8, 8, 8, 8, 8, 8, 8, 8, 8, 8, 8, 8, 8, 8, 8, 8, 8, 8, 8, 8, 8, 8, 8, 8, 8, 8, 8, 8, 8, 8, 8, 8, 8, 8, 8, 8, 8, 8, 8, 8, 8, 8, 8, 8, 8, 8, 8, 8, 8, 8, 8, 8, 8, 8, 8, 8, 8, 8, 8, 8, 8, 8, 8, 8, 8, 8, 8, 8, 8, 8, 8, 8, 8, 8, 8, 8, 8, 8, 8, 8, 8]
theorem len8_ok : len8.length = 256 ∧ ∀ x : Nat, x < 256 → (len8.getD x 0).toNat ≤ 8 ∧ ∀ k : Nat, k < 9 → (k < (len8.getD x 0).toNat ↔ 2 ^ k ≤ x) := by decide +kernel
theorem shr_n (v k : Nat) (hk : k ≤ 64) : ((v : Int).fdiv (2 ^ min k IntKind.u64.bits)) = ((v / 2 ^ k : Nat) : Int) := by
  rw [show IntKind.u64.bits = 64 from rfl, Nat.min_eq_left hk, show (2 : Int) ^ k = ((2 ^ k : Nat) : Int) by simp, Int.fdiv_eq_ediv_of_nonneg _ (Int.natCast_nonneg _), ← Int.natCast_ediv]
theorem len_step {v m n : Nat} (h : 2 ^ m ≤ v) (hn : ∀ k, k < n ↔ 2 ^ k ≤ v / 2 ^ m) : ∀ k, k < n + m ↔ 2 ^ k ≤ v := by
  intro k
  rcases Nat.lt_or_ge k m with c | c
  · exact ⟨fun _ => Nat.le_trans (Nat.pow_le_pow_right (by omega) (by omega)) h, fun _ => by omega⟩
  · obtain ⟨j, rfl⟩ := Nat.exists_eq_add_of_le c
    have := hn j
    rw [Nat.le_div_iff_mul_le (Nat.pos_of_ne_zero (by simp)), Nat.mul_comm, ← Nat.pow_add] at this
    rw [← this]; omega
set_option maxRecDepth 100000 in
theorem len64_ct {v : Nat} (hv : v < 18446744073709551616) : ∃ n : Nat, n ≤ 64 ∧ (∀ k, k ≤ 64 → (k < n ↔ 2 ^ k ≤ v)) ∧ ∀ h : H, Pure Tryd.prog 77 [.int .u64 v] h (.int .i64 n) := by
  obtain ⟨a1, ha1⟩ : ∃ a, a = if 4294967296 ≤ v then 32 else 0 := ⟨_, rfl⟩
  obtain ⟨v1, hv1⟩ : ∃ a, a = if 4294967296 ≤ v then v / 4294967296 else v := ⟨_, rfl⟩
  obtain ⟨a2, ha2⟩ : ∃ a, a = if 65536 ≤ v1 then a1 + 16 else a1 := ⟨_, rfl⟩
  obtain ⟨v2, hv2⟩ : ∃ a, a = if 65536 ≤ v1 then v1 / 65536 else v1 := ⟨_, rfl⟩
  obtain ⟨a3, ha3⟩ : ∃ a, a = if 256 ≤ v2 then a2 + 8 else a2 := ⟨_, rfl⟩
  obtain ⟨v3, hv3⟩ : ∃ a, a = if 256 ≤ v2 then v2 / 256 else v2 := ⟨_, rfl⟩
  have b1 : v1 < 4294967296 := by rw [hv1]; split <;> omega
  have b2 : v2 < 65536 := by rw [hv2]; split <;> omega
  have b3 : v3 < 256 := by rw [hv3]; split <;> omega
  obtain ⟨T, hT⟩ : ∃ T, T = len8 := ⟨_, rfl⟩
  obtain ⟨tl, tx⟩ := len8_ok
  rw [← hT] at tl tx
  obtain ⟨c, hc⟩ : ∃ c, T[v3]? = some c := ⟨_, List.getElem?_eq_getElem (by omega)⟩
  have tc := tx v3 b3
  rw [List.getD_eq_getElem?_getD, hc, Option.getD_some] at tc
  refine ⟨a3 + c.toNat, ?_, ?_, fun h => ?_⟩
  · have : a3 ≤ 56 := by rw [ha3, ha2, ha1]; split <;> split <;> split <;> omega
    omega
  · have n3 : ∀ k, k < c.toNat ↔ 2 ^ k ≤ v3 := fun k => by
      rcases Nat.lt_or_ge k 9 with hk | hk
      · exact tc.2 k hk
      · have : 2 ^ 9 ≤ 2 ^ k := Nat.pow_le_pow_right (by omega) hk
        omega
    have n2 : ∃ n, a3 + c.toNat = a2 + n ∧ ∀ k, k < n ↔ 2 ^ k ≤ v2 := by
      by_cases g : 256 ≤ v2
      · rw [if_pos g] at ha3 hv3
        exact ⟨c.toNat + 8, by omega, len_step g (by rw [show 2 ^ 8 = 256 from rfl, ← hv3]; exact n3)⟩
      · rw [if_neg g] at ha3 hv3
        exact ⟨c.toNat, by omega, by rw [← hv3]; exact n3⟩
    obtain ⟨q2, e2, n2⟩ := n2
    have n1 : ∃ n, a3 + c.toNat = a1 + n ∧ ∀ k, k < n ↔ 2 ^ k ≤ v1 := by
      by_cases g : 65536 ≤ v1
      · rw [if_pos g] at ha2 hv2
        exact ⟨q2 + 16, by omega, len_step g (by rw [show 2 ^ 16 = 65536 from rfl, ← hv2]; exact n2)⟩
      · rw [if_neg g] at ha2 hv2
        exact ⟨q2, by omega, by rw [← hv2]; exact n2⟩
    obtain ⟨q1, e1, n1⟩ := n1
    intro k _
    by_cases g : 4294967296 ≤ v
    · rw [if_pos g] at ha1 hv1
      have := len_step g (by rw [show 2 ^ 32 = 4294967296 from rfl, ← hv1]; exact n1) k
      rw [← this]; omega
    · rw [if_neg g] at ha1 hv1
      have := n1 k
      rw [hv1] at this
      rw [← this]; omega
  · refine pure_to Tryd.func77 S.math_bits_Len64_code S.math_bits_Len64_enter rfl (Nat.le_of_ble_eq_true rfl) fun wf => ?_; simp only [S.math_bits_Len64]
    rw [show ([0, 1, 2, 2, 3, 3, 3, 3, 4, 4, 4, 4, 4, 4, 4, 4, 5, 5, 5, 5, 5, 5, 5, 5, 5, 5, 5, 5, 5, 5, 5, 5, 6, 6, 6, 6, 6, 6, 6, 6, 6, 6, 6, 6, 6, 6, 6, 6, 6, 6, 6, 6, 6, 6, 6, 6, 6, 6, 6, 6, 6, 6, 6, 6, 7, 7, 7, 7, 7, 7, 7, 7, 7, 7, 7, 7, 7, 7, 7, 7, 7, 7, 7, 7, 7, 7, 7, 7, 7, 7, 7, 7, 7, 7, 7, 7, 7, 7, 7, 7, 7, 7, 7, 7, 7, 7, 7, 7, 7, 7, 7, 7, 7, 7, 7, 7, 7, 7, 7, 7, 7, 7, 7, 7, 7, 7, 7, 7, 8, 8, 8, 8, 8, 8, 8, 8, 8, 8, 8, 8, 8, 8, 8, 8, 8, 8, 8, 8, 8, 8, 8, 8, 8, 8, 8, 8, 8, 8, 8, 8, 8, 8, 8, 8, 8, 8, 8, 8, 8, 8, 8, 8, 8, 8, 8, 8, 8, 8, 8, 8, 8, 8, 8, 8, 8, 8, 8, 8, 8, 8, 8, 8, 8, 8, 8, 8, 8, 8, 8, 8, 8, 8, 8, 8, 8, 8, 8, 8, 8, 8, 8, 8, 8, 8, 8, 8, 8, 8, 8, 8, 8, 8, 8, 8, 8, 8, 8, 8, 8, 8, 8, 8, 8, 8, 8, 8, 8, 8, 8, 8, 8, 8, 8, 8, 8, 8, 8, 8, 8, 8, 8, 8, 8, 8, 8, 8] : List UInt8) = T from hT.symm]
    have s1 := shr_n v 32 (by omega)
    have s2 := shr_n v1 16 (by omega)
    have s3 := shr_n v2 8 (by omega)
    have w3 : IntKind.u8.wrap (v3 : Int) = v3 := by simp [IntKind.wrap, IntKind.bits, IntKind.signed]; omega
    have w4 : IntKind.i64.wrap (c.toNat : Int) = c.toNat := wrap_nat (by omega)
    have wa : ∀ x : Nat, x < 1000 → IntKind.i64.wrap (x : Int) = x := fun x hx => wrap_nat (by omega)
    have wb : ∀ x y : Nat, x < 1000 → y < 1000 → IntKind.i64.wrap ((x : Int) + (y : Int)) = ((x + y : Nat) : Int) := fun x y hx hy => by rw [← Int.natCast_add]; exact wrap_nat (by omega)
    have zz1 : ∀ n : Nat, ((4294967296 : Int) ≤ n) = (4294967296 ≤ n) := fun n => propext (by omega)
    have zz2 : ∀ n : Nat, ((65536 : Int) ≤ n) = (65536 ≤ n) := fun n => propext (by omega)
    have zz3 : ∀ n : Nat, ((256 : Int) ≤ n) = (256 ≤ n) := fun n => propext (by omega)
    have lo : ∀ n : Nat, (0 : Int) ≤ n := fun n => by omega
    by_cases g1 : 4294967296 ≤ v <;> by_cases g2 : 65536 ≤ v1 <;> by_cases g3 : 256 ≤ v2 <;>
    (first | (rw [if_pos g1] at ha1 hv1; rw [show (v / 2 ^ 32) = v1 from hv1.symm] at s1) | (rw [if_neg g1] at ha1 hv1; replace s1 := hv1.symm; rw [s1] at g1)) <;>
    (first | (rw [if_pos g2] at ha2 hv2; rw [show (v1 / 2 ^ 16) = v2 from hv2.symm] at s2) | (rw [if_neg g2] at ha2 hv2; replace s2 := hv2.symm; rw [s2] at g2)) <;>
    (first | (rw [if_pos g3] at ha3 hv3; rw [show (v2 / 2 ^ 8) = v3 from hv3.symm] at s3) | (rw [if_neg g3] at ha3 hv3; replace s3 := hv3.symm; rw [s3] at g3)) <;>
    (try rw [s2] at g1) <;> (try rw [s3] at g1) <;> (try rw [s3] at g2) <;>
    (clear hT tx; simp [zz1, zz2, zz3, g1, g2, g3, s1, s2, s3, w3, w4, hc, lo]) <;>
    (subst ha1; subst ha2; subst ha3; have t1 := tc.1; simp [IntKind.wrap, IntKind.bits, IntKind.signed] <;> omega)
theorem byte_of (v k : Nat) (hk : k ≤ 7) : IntKind.u8.wrap ((v : Int).fdiv (2 ^ min (8 * (k : Int)).toNat IntKind.u64.bits)) = ((UInt8.ofNat (v / 256 ^ k)).toNat : Int) := by
  have e1 : min (8 * (k : Int)).toNat IntKind.u64.bits = 8 * k := by simp [IntKind.bits]; omega
  rw [e1, show (2 : Int) ^ (8 * k) = ((256 ^ k : Nat) : Int) by rw [Int.pow_mul]; simp]
  rw [Int.fdiv_eq_ediv_of_nonneg _ (Int.natCast_nonneg _), ← Int.natCast_ediv]
  simp only [IntKind.wrap, IntKind.bits, IntKind.signed, Bool.false_and, Bool.false_eq_true, if_false, UInt8.toNat_ofNat']
  omega
/-- A list of bytes, as cells. -/
theorem byteV_u8 (b : Nat) (h : b < 256) : V.int .u8 b = byteV (UInt8.ofNat b) := by
  simp [byteV]; omega
theorem mapM_u8 : ∀ l : List UInt8, (l.map byteV).mapM u8Of = some l
  | [] => rfl
  | b :: l => by
    rw [List.map_cons, List.mapM_cons, mapM_u8 l]
    simp [u8Of, byteV]
@[simp] theorem mapM_u8' (l : List UInt8) : l.mapM (u8Of ∘ byteV) = some l := by
  have := mapM_u8 l
  rwa [List.mapM_map] at this
theorem byteV_one (l : List UInt8) : (l.map byteV).all V.one = true := by
  simp [byteV]

theorem put_ct {h : H} {b : List UInt8} {v size : Nat} (hs : 1 ≤ size) (hs2 : size ≤ 8) (hv : v < 256 ^ size) (hb : b.length ≤ 1000000) : Pure Tryd.prog 63 [.str b, .int .u64 v, .int .i64 size] h (.tup [.str (b ++ be size v), .int .i64 0]) := by
  have hpow : 256 ^ size ≤ 256 ^ 8 := Nat.pow_le_pow_right (by omega) hs2
  have hv64 : v < 18446744073709551616 := Nat.lt_of_lt_of_le hv (Nat.le_trans hpow (by decide))
  obtain ⟨n, hn, hk, hlen⟩ := len64_ct hv64
  refine pure_to Tryd.func63 S.wire_Put_code S.wire_Put_enter rfl (Nat.le_of_ble_eq_true rfl) fun wf => ?_; simp only [S.wire_Put]
  have z1 : ¬ ((size : Int) < 1) := by omega
  have z2 : ¬ ((8 : Int) < size) := by omega
  have z3 : n ≤ 8 * size := by
    rcases Nat.lt_or_ge (8 * size) n with c | c
    · have := (hk (8 * size) (by omega)).1 c
      rw [Nat.pow_mul, show (2 ^ 8 : Nat) = 256 from rfl] at this
      omega
    · exact c
  have z4 : IntKind.i64.wrap (8 * (size : Int)) = 8 * size := wrap_i64_id (by omega) (by omega)
  have z5 : ¬ (8 * (size : Int) < n) := by omega
  have z6 : IntKind.i64.wrap ((size : Int) - 1) = size - 1 := wrap_i64_id (by omega) (by omega)
  simp [z1, z2]
  refine hlen h _ ?_
  have hbl : b.length ≤ 9223372036854775807 := by omega
  simp [z4, z5, exec, z6, hbl]
  refine loop_up (fun i t h' => ∃ acc : List UInt8, (t 1 = .int .u64 v ∧ t 8 = .sl h.next acc.length 0 acc.length none ∧ t 9 = .int .i64 ((size : Int) - 1 - i)) ∧ Ge h h' ∧ h.next < h'.next ∧ h'.get h.next = some (.grow 1 (acc.map byteV)) ∧ acc.length = b.length + i ∧ acc ++ be (size - i) v = b ++ be size v) size ⟨b, by simp⟩ ?_
  rintro i t h' hi ⟨acc, ⟨h1, h8, h9⟩, hg, hnx, ho, hal, hacc⟩ K hK
  by_cases hlt : i < size
  · have y1 : (0 : Int) ≤ (size : Int) - 1 - i := by omega
    have y2 : IntKind.i64.wrap (8 * ((size : Int) - 1 - i)) = 8 * ((size : Int) - 1 - i) := wrap_i64_id (by omega) (by omega)
    have y3 : IntKind.i64.wrap ((size : Int) - 1 - i - 1) = (size : Int) - 1 - (i + 1) := by rw [wrap_i64_id (by omega) (by omega)]; omega
    have y4 : (0 : Int) ≤ 8 * ((size : Int) - 1 - i) := by omega
    have y5 : (i : Int) ≤ (size : Int) - 1 := by omega
    have y6 : (size : Int) - 1 - i = ((size - 1 - i : Nat) : Int) := by omega
    have y7 := byte_of v (size - 1 - i) (by omega)
    obtain ⟨B, hB⟩ : ∃ B, B = UInt8.ofNat (v / 256 ^ (size - 1 - i)) := ⟨_, rfl⟩
    rw [← y6, ← hB] at y7
    have y8 : ¬ h.next = h'.next := by omega
    have ap := fun c hc => appendV_grow (g := (h'.push (.row [V.int .u8 (B.toNat : Int)])).get) (next := h'.next + 1) (sz := 1) (bytes := 1) (q := h.next) (n := acc.length) (len := acc.length) (m := 1) (cs := acc.map byteV) (xs := [V.int .u8 (B.toNat : Int)]) (x := c) (by simp [y8, ho]) (by simp) (by simp) hc (by simp) (by simp) (by simp) (by omega) (by omega)
    simp [h1, h8, h9, y2, y4, y5, y7]
    rw [ap _ (by simp [elemsV_sl])]
    simp [h9, y3]
    refine hK _ _ hlt ⟨acc ++ [B], ?_, ?_, ?_, ?_, ?_, ?_⟩
    · simp [h1]
    · exact (hg.push _).set (Nat.le_refl _) _
    · simp; omega
    · simp [byteV]
    · simp; omega
    · rw [← hacc, show size - i = (size - 1 - i) + 1 by omega, be, ← hB, show size - (i + 1) = size - 1 - i by omega]; simp
  · have hi2 : i = size := by omega
    subst hi2
    have y1 : ¬ (i : Int) ≤ (i : Int) - 1 := by omega
    have el : elemsV h'.get 1 (.sl h.next acc.length 0 acc.length none) = some (acc.length, acc.map byteV) := by
      rw [elemsV_sl]
      split
      · rename_i h0; have : acc = [] := List.eq_nil_of_length_eq_zero h0
        subst this; rfl
      · rw [cellsAt_of ho (by simp)]; simp [List.take_of_length_le]
    simp [h8, h9, y1, el]
    refine ⟨?_, hg⟩
    simpa [be] using hacc

end Go.Am

/-
  Communities, plainly: rising lists, bytes in pieces, what is decoded.
-/
namespace Go.Am

section
variable {α : Type} {c : α → α → Int}
/-- Each below the next. -/
def adjB (c : α → α → Int) : List α → Bool
  | a :: b :: l => decide (c a b < 0) && adjB c (b :: l)
  | _ => true
theorem adjB_iff : ∀ l : List α, adjB c l = true ↔ ∀ k (h : k + 1 < l.length), c l[k] l[k + 1] < 0
  | [] => by simp [adjB]
  | [a] => by simp [adjB]
  | a :: b :: l => by
    rw [adjB, Bool.and_eq_true, decide_eq_true_eq, adjB_iff (b :: l)]
    constructor
    · rintro ⟨h1, h2⟩ k hk
      cases k with
      | zero => exact h1
      | succ k => exact h2 k (by simpa using hk)
    · intro h
      exact ⟨h 0 (by simp), fun k hk => h (k + 1) (by simpa using hk)⟩
theorem adjB_rise (o : Ordr c) : ∀ l : List α, adjB c l = true ↔ Rise c l
  | [] => by simp [adjB, Rise]
  | [a] => by simp [adjB, Rise]
  | a :: b :: l => by
    rw [adjB, Bool.and_eq_true, decide_eq_true_eq, adjB_rise o (b :: l)]
    unfold Rise
    rw [List.pairwise_cons (a := a)]
    constructor
    · rintro ⟨h1, h2⟩
      refine ⟨fun x hx => ?_, h2⟩
      rcases List.mem_cons.1 hx with rfl | hx
      · exact h1
      · exact o.down _ _ _ h1 ((List.pairwise_cons.1 h2).1 x hx)
    · rintro ⟨h1, h2⟩
      exact ⟨h1 b (by simp), h2⟩
/-- A text in pieces of 'k' bytes. -/
def chop (k : Nat) (f : List UInt8 → α) : Nat → List UInt8 → List α
  | 0, _ => []
  | n + 1, s => f (s.take k) :: chop k f n (s.drop k)
theorem chop_len (k : Nat) (f : List UInt8 → α) : ∀ n s, (chop k f n s).length = n
  | 0, _ => rfl
  | n + 1, s => by rw [chop, List.length_cons, chop_len k f n]
theorem chop_snoc (k : Nat) (f : List UInt8 → α) : ∀ n s, chop k f (n + 1) s = chop k f n s ++ [f ((s.drop (n * k)).take k)]
  | 0, s => by simp [chop]
  | n + 1, s => by
    rw [chop, chop_snoc k f n, chop, List.cons_append, List.drop_drop, Nat.add_mul, Nat.one_mul, Nat.add_comm k]
theorem chop_at (k : Nat) (f : List UInt8 → α) : ∀ n s i (h : i < n), (chop k f n s)[i]'(by rw [chop_len]; exact h) = f ((s.drop (i * k)).take k)
  | n + 1, s, 0, _ => by simp [chop]
  | n + 1, s, i + 1, h => by
    simp only [chop, List.getElem_cons_succ]
    rw [chop_at k f n (s.drop k) i (by omega), List.drop_drop, Nat.add_mul, Nat.one_mul, Nat.add_comm k]
theorem chop_flat (k : Nat) (f : List UInt8 → α) (g : α → List UInt8) (hg : ∀ x, (g x).length = k) : ∀ l : List α, chop k f l.length (l.flatMap g) = l.map fun x => f (g x)
  | [] => rfl
  | x :: l => by
    have e1 : ((x :: l).flatMap g).take k = g x := by rw [List.flatMap_cons, List.take_left' (hg x)]
    have e2 : ((x :: l).flatMap g).drop k = l.flatMap g := by rw [List.flatMap_cons, List.drop_left' (hg x)]
    rw [List.length_cons, chop, e1, e2, chop_flat k f g hg l, List.map_cons]
theorem flatMap_len (k : Nat) (g : α → List UInt8) (hg : ∀ x, (g x).length = k) : ∀ l : List α, (l.flatMap g).length = l.length * k
  | [] => by simp
  | x :: l => by rw [List.flatMap_cons, List.length_append, hg, flatMap_len k g hg l, List.length_cons, Nat.add_mul]; omega
/-- An append at the end of a prefix. -/
theorem flatMap_take (g : α → List UInt8) (l : List α) {i : Nat} (h : i < l.length) : (l.take (i + 1)).flatMap g = (l.take i).flatMap g ++ g l[i] := by
  rw [List.take_add_one, List.getElem?_eq_getElem h, List.flatMap_append]
  simp only [Option.toList_some, List.flatMap_cons, List.flatMap_nil, List.append_nil]
variable [DecidableEq α]
theorem foldl_put_len (c : α → α → Int) : ∀ (m l : List α), l.length ≤ (m.foldl (putL c) l).length
  | [], l => Nat.le_refl _
  | x :: m, l => by
    have h1 := foldl_put_len c m (putL c l x)
    have h2 : l.length ≤ (putL c l x).length := by
      unfold putL
      simp only
      split
      · exact Nat.le_refl _
      · have := spot_le (c := c) x l l.length
        simp only [List.length_append, List.length_take, List.length_cons, List.length_drop]; omega
    rw [List.foldl_cons]; omega
theorem puts_take_len (c : α → α → Int) (l : List α) (i : Nat) : (putsL c (l.take i)).length ≤ (putsL c l).length := by
  have : putsL c l = (l.drop i).foldl (putL c) (putsL c (l.take i)) := by
    unfold putsL
    rw [← List.foldl_append, List.take_append_drop]
  rw [this]
  exact foldl_put_len c _ _
theorem puts_snoc (c : α → α → Int) (l : List α) {i : Nat} (h : i < l.length) : putsL c (l.take (i + 1)) = putL c (putsL c (l.take i)) l[i] := by
  unfold putsL
  rw [List.take_add_one, List.getElem?_eq_getElem h, List.foldl_append]; rfl
/-- What is decoded: nothing, with the answer's number; or the list. -/
def decL (c : α → α → Int) (k : Nat) (f : List UInt8 → α) (s : List UInt8) : List α × Int :=
  if s.length = 0 ∨ s.length % k ≠ 0 then ([], 4) else
  let l := putsL c (chop k f (s.length / k) s)
  if 64 < l.length then ([], 3) else (l, 0)
end

/-! ### The three kinds -/
abbrev Lg := Nat × Nat × Nat
def cP (x : Nat) : List V := [.int .u32 x]
def cX (x : Nat) : List V := [.int .u64 x]
def cL (x : Lg) : List V := [.int .u32 x.1, .int .u32 x.2.1, .int .u32 x.2.2]
def oN (a b : Nat) : Int := cmpI a b
def oL (a b : Lg) : Int := orI (cmpI a.1 b.1) (orI (cmpI a.2.1 b.2.1) (cmpI a.2.2 b.2.2))
theorem ordr_n : Ordr oN := ordr_int.on (fun x : Nat => (x : Int))
theorem ordr_l : Ordr oL := (ordr_int.on (fun x : Lg => (x.1 : Int))).or ((ordr_int.on (fun x : Lg => (x.2.1 : Int))).or (ordr_int.on (fun x : Lg => (x.2.2 : Int))))
theorem oN_eq (a b : Nat) (h : oN a b = 0) : a = b := by unfold oN at h; rw [cmpI_zero] at h; omega
theorem oL_eq (a b : Lg) (h : oL a b = 0) : a = b := by
  unfold oL at h
  rw [orI_eq, orI_eq, cmpI_zero, cmpI_zero, cmpI_zero] at h
  obtain ⟨a1, a2, a3⟩ := a
  obtain ⟨b1, b2, b3⟩ := b
  simp only [Prod.mk.injEq]
  simp only at h
  omega
def bP (x : Nat) : List UInt8 := be 4 x
def bX (x : Nat) : List UInt8 := be 4 (x / 4294967296) ++ be 4 x
def bL (x : Lg) : List UInt8 := be 4 x.1 ++ be 4 x.2.1 ++ be 4 x.2.2
def fP (s : List UInt8) : Nat := val s
def fX (s : List UInt8) : Nat := val (s.take 4) * 4294967296 + val (s.drop 4)
def fL (s : List UInt8) : Lg := (val (s.take 4), val ((s.drop 4).take 4), val (s.drop 8))
theorem bP_len (x : Nat) : (bP x).length = 4 := be_len _ _
theorem bX_len (x : Nat) : (bX x).length = 8 := by simp [bX, be_len]
theorem bL_len (x : Lg) : (bL x).length = 12 := by simp [bL, be_len]
end Go.Am

/-
  Contracts: comparisons, put, what lays one, Four, what two are apart.
-/
namespace Go.Am
open Go.Proofs

set_option maxRecDepth 100000
theorem nan32_ct {h : H} {a : Int} : Pure Tryd.prog 62 [.int .u32 a] h (.bool false) := by
  refine pure_to Tryd.func62 S.cmp_isNaN_uint32_code S.cmp_isNaN_uint32_enter rfl (Nat.le_of_ble_eq_true rfl) fun wf => ?_; simp only [S.cmp_isNaN_uint32]
  simp
theorem nan64_ct {h : H} {a : Int} : Pure Tryd.prog 64 [.int .u64 a] h (.bool false) := by
  refine pure_to Tryd.func64 S.cmp_isNaN_uint64_code S.cmp_isNaN_uint64_enter rfl (Nat.le_of_ble_eq_true rfl) fun wf => ?_; simp only [S.cmp_isNaN_uint64]
  simp
theorem cmp32_ct {h : H} {a b : Int} : Pure Tryd.prog 35 [.int .u32 a, .int .u32 b] h (.int .i64 (cmpI a b)) := by
  refine pure_to Tryd.func35 S.cmp_Compare_uint32_code S.cmp_Compare_uint32_enter rfl (Nat.le_of_ble_eq_true rfl) fun wf => ?_; simp only [S.cmp_Compare_uint32]
  simp
  refine nan32_ct _ ?_
  simp
  refine nan32_ct _ ?_
  simp
  by_cases h1 : a < b
  · simp [h1, cmpI]
  · by_cases h2 : b < a <;> simp [h1, h2, cmpI]
theorem cmp64_ct {h : H} {a b : Int} : Pure Tryd.prog 41 [.int .u64 a, .int .u64 b] h (.int .i64 (cmpI a b)) := by
  refine pure_to Tryd.func41 S.cmp_Compare_uint64_code S.cmp_Compare_uint64_enter rfl (Nat.le_of_ble_eq_true rfl) fun wf => ?_; simp only [S.cmp_Compare_uint64]
  simp
  refine nan64_ct _ ?_
  simp
  refine nan64_ct _ ?_
  simp
  by_cases h1 : a < b
  · simp [h1, cmpI]
  · by_cases h2 : b < a <;> simp [h1, h2, cmpI]
theorem or3_ct {h : H} {q : Nat} {a b c : Int} (hq : h.get q = some (.row [.int .i64 a, .int .i64 b, .int .i64 c])) : Pure Tryd.prog 65 [.sl q 3 0 3 (some 3)] h (.int .i64 (orI a (orI b c))) := by
  refine pure_to Tryd.func65 S.cmp_Or_int_code S.cmp_Or_int_enter rfl (Nat.le_of_ble_eq_true rfl) fun wf => ?_; simp only [S.cmp_Or_int]
  have c1 : cellsAt h.get q 3 = some [.int .i64 a, .int .i64 b, .int .i64 c] := by rw [cellsAt_of hq (by rfl)]; rfl
  simp
  refine loop_up (fun i t h' => (t 3 = .int .i64 0 ∧ t 6 = .sl q 3 0 3 (some 3) ∧ t 7 = .int .i64 3 ∧ t 8 = .int .i64 (i : Nat)) ∧ h' = h ∧ (0 < i → a = 0) ∧ (1 < i → b = 0) ∧ (2 < i → c = 0)) 3 ⟨by simp, rfl, by omega, by omega, by omega⟩ ?_
  rintro i t h' hi ⟨⟨t3, t6, t7, t8⟩, rfl, k1, k2, k3⟩ K hK
  have w1 : IntKind.i64.wrap 1 = 1 := by decide
  have w2 : IntKind.i64.wrap 2 = 2 := by decide
  have w3 : IntKind.i64.wrap 3 = 3 := by decide
  rcases (by omega : i = 0 ∨ i = 1 ∨ i = 2 ∨ i = 3) with rfl | rfl | rfl | rfl
  · by_cases hz : a = 0
    · simp [t3, t6, t7, t8, c1, hz, w1]
      exact hK _ _ (by omega) ⟨by simp [t3, t6, t7], rfl, fun _ => hz, by omega, by omega⟩
    · have hb : (a != 0) = true := by simpa using hz
      simp [t3, t6, t7, t8, c1, hb, orI_nz hz]
  · have z1 := k1 (by omega)
    by_cases hz : b = 0
    · simp [t3, t6, t7, t8, c1, hz, w2]
      exact hK _ _ (by omega) ⟨by simp [t3, t6, t7], rfl, fun _ => z1, fun _ => hz, by omega⟩
    · have hb : (b != 0) = true := by simpa using hz
      simp [t3, t6, t7, t8, c1, hb, z1, orI_zero, orI_nz hz]
  · have z1 := k1 (by omega)
    have z2 := k2 (by omega)
    by_cases hz : c = 0
    · simp [t3, t6, t7, t8, c1, hz, w3]
      exact hK _ _ (by omega) ⟨by simp [t3, t6, t7], rfl, fun _ => z1, fun _ => z2, fun _ => hz⟩
    · have hb : (c != 0) = true := by simpa using hz
      simp [t3, t6, t7, t8, c1, hb, z1, z2, orI_zero]
  · have z1 := k1 (by omega)
    have z2 := k2 (by omega)
    have z3 := k3 (by omega)
    simp [t3, t7, t8, z1, z2, z3, orI_zero]
def cmp32P : List V → Option V
  | [.int .u32 a, .int .u32 b] => some (.int .i64 (cmpI a b))
  | _ => none
theorem cmp32P_ok : ∀ p ∈ [(35, cmp32P)], ∀ vals v, p.2 vals = some v → ∀ h, Acalls Tryd.prog p.1 vals h fun u h' => u = v ∧ h' = h := by
  intro p hp vals v e h
  simp only [List.mem_cons, List.not_mem_nil, or_false] at hp
  subst hp
  simp only [cmp32P] at e
  split at e
  · cases e; exact cmp32_ct _ ⟨rfl, rfl⟩
  · cases e
theorem larger_ct {h : H} {x y : Lg} : Pure Tryd.prog 45 [.agg (cL x), .agg (cL y)] h (.int .i64 (oL x y)) := by
  refine pure_to Tryd.func45 S.comm_larger_code S.comm_larger_enter rfl (Nat.le_of_ble_eq_true rfl) fun wf => ?_; simp only [S.comm_larger]
  obtain ⟨h2, hh2⟩ : ∃ h2, h2 = (h.push (.row (cL x))).push (.row (cL y)) := ⟨_, rfl⟩
  have g2 : Ge h h2 := by rw [hh2]; exact ((Ge.refl _).push _).push _
  have c1 : cellsAt h2.get h.next 3 = some (cL x) := by rw [hh2]; simp [cL]
  have c2 : cellsAt h2.get (h.next + 1) 3 = some (cL y) := by rw [hh2]; simp [cL]
  simp only [cL] at hh2 c1 c2
  simp [cL]
  rw [← hh2]
  have r3 : repCells 3 [V.int .i64 0] = [.int .i64 0, .int .i64 0, .int .i64 0] := rfl
  refine dreg_plain _ cmp32P_ok (by rfl) ?_
  simp [List.lookup, c1, c2, r3, cmp32P]
  refine scall_of (or3_ct (q := h2.next) (a := cmpI x.1 y.1) (b := cmpI x.2.1 y.2.1) (c := cmpI x.2.2 y.2.2) (by simp)) ?_
  simp [oL]
  exact g2.push _
theorem plain1 {P : Program} {k : Nat} {fn : List V → Option V} (c : ∀ vals v, fn vals = some v → ∀ h, Pure P k vals h v) : ∀ p ∈ [(k, fn)], ∀ vals v, p.2 vals = some v → ∀ h, Acalls P p.1 vals h fun u h' => u = v ∧ h' = h := by
  intro p hp vals v e h
  rw [List.mem_singleton] at hp
  subst hp
  exact c vals v e h _ ⟨rfl, rfl⟩
theorem fd24 (n : Nat) : ((n : Nat) : Int).fdiv (2 ^ min 24 IntKind.u32.bits) = (n : Int) / 16777216 := Int.fdiv_eq_ediv_of_nonneg _ (by decide)
theorem fd16 (n : Nat) : ((n : Nat) : Int).fdiv (2 ^ min 16 IntKind.u32.bits) = (n : Int) / 65536 := Int.fdiv_eq_ediv_of_nonneg _ (by decide)
theorem fd8 (n : Nat) : ((n : Nat) : Int).fdiv (2 ^ min 8 IntKind.u32.bits) = (n : Int) / 256 := Int.fdiv_eq_ediv_of_nonneg _ (by decide)
/-- A number's low byte. -/
theorem lowb {z : Int} {m : Nat} (h : z = (m : Int)) : ∃ b : UInt8, b = UInt8.ofNat m ∧ IntKind.u8.wrap z = (b.toNat : Int) := ⟨_, rfl, by subst h; simp [IntKind.wrap, IntKind.bits, IntKind.signed]⟩
theorem u8n (b : UInt8) : u8Of (.int .u8 (b.toNat : Int)) = some b := by simp [u8Of]
theorem be1 (n : Nat) : be 1 n = [UInt8.ofNat n] := by simp [be]
theorem be3 (n : Nat) : be 3 n = [UInt8.ofNat (n / 65536), UInt8.ofNat (n / 256), UInt8.ofNat n] := by simp [be]
theorem be4 (n : Nat) : be 4 n = [UInt8.ofNat (n / 16777216), UInt8.ofNat (n / 65536), UInt8.ofNat (n / 256), UInt8.ofNat n] := by simp [be]
theorem fd32 (n : Nat) : ((n : Nat) : Int).fdiv (2 ^ min 32 IntKind.u64.bits) = (n : Int) / 4294967296 := Int.fdiv_eq_ediv_of_nonneg _ (by decide)
theorem be8 (n : Nat) : be 8 n = be 4 (n / 4294967296) ++ be 4 n := by
  simp [be, Nat.div_div_eq_div_mul]
theorem ofNat_mod {a b : Nat} (h : a % 256 = b % 256) : UInt8.ofNat a = UInt8.ofNat b := UInt8.toNat_inj.1 (by simpa using h)
theorem be4_mod (n : Nat) : be 4 (n % 4294967296) = be 4 n := by
  simp only [be4, List.cons.injEq, and_true]
  exact ⟨ofNat_mod (by omega), ofNat_mod (by omega), ofNat_mod (by omega), ofNat_mod (by omega)⟩
/-- Several numbers of four bytes put. -/
theorem cput_ct {h : H} {v : V} {s : List UInt8} {l : List Nat} (hs : Sls h.get 1 v (l.map cP)) (hf : ∀ x ∈ l, x < 4294967296) (hl : s.length + l.length * 4 ≤ 100000) : Pure Tryd.prog 37 [.str s, v] h (.str (s ++ l.flatMap bP)) := by
  refine pure_to Tryd.func37 S.comm_put_code S.comm_put_enter rfl (Nat.le_of_ble_eq_true rfl) fun wf => ?_; simp only [S.comm_put]
  have hlen := hs.len
  simp at hlen
  simp [hlen]
  refine loop_up (fun i t h' => (t 0 = .str (s ++ (l.take i).flatMap bP) ∧ t 7 = v ∧ t 8 = .int .i64 l.length ∧ t 9 = .int .i64 (i : Nat)) ∧ h' = h) l.length ⟨by simp, rfl⟩ ?_
  rintro i t h' hi ⟨⟨t0, t7, t8, t9⟩, rfl⟩ K hK
  by_cases hlt : i < l.length
  · obtain ⟨p, qq, o, cs, e1, e2, e3⟩ := hs.at1 (f := fun x : Nat => V.int .u32 x) hlt
    have hw := wrap_succ hlt (by omega)
    have hx := hf _ (List.getElem_mem hlt)
    have w64 : IntKind.u64.wrap ((l[i] : Nat) : Int) = (l[i] : Nat) := u64_id (by omega)
    have hfl : ((l.take i).flatMap bP).length = i * 4 := by rw [flatMap_len 4 bP bP_len]; simp; omega
    simp [t0, t7, t8, t9, hlt, e1, e2, e3, w64]
    refine put_ct (size := 4) (by omega) (by omega) (by omega) (by rw [List.length_append, hfl]; omega) _ ?_
    simp [t9, hw]
    refine hK _ _ hlt ⟨by simp [t7, t8, flatMap_take bP l hlt, bP], rfl⟩
  · have : i = l.length := by omega
    subst this
    simp [t0, t8, t9]
end Go.Am
