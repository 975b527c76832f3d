/-
  Numbers and their bytes; a call that turns one object.
-/
import Derived.Test.YtfbmffkgphgoaaaDoorAm30
namespace Go.Am

/-- A call that turns one object, and whose other makings are let go. -/
theorem Acalls.turn {P : Program} {f : FuncId} {args : List V} {h : H} {i : Nat} {o' : O} {Q : V → H → Prop} (hi : ∃ o, h.get i = some o) (ho : o'.ids = [])
    (c : h.WF → Acalls P f args h fun v h1 => Ge (h.set i o') h1 ∧ v.ids = [] ∧ Q v (h.set i o')) (he : enterable P f = true) : Acalls P f args h Q := by
  refine Acalls.cl he fun wf cl => Acalls.rename ((c wf).mono ?_)
  rintro v h1 ⟨hg, hv, hq⟩
  obtain ⟨oi, hoi⟩ := hi
  have hlt := wf.lt hoi
  have w2 : (h.set i o').WF := wf.set hlt _
  have liv : ∀ k, (∃ o, h.get k = some o) → ∃ o, (h.set i o').get k = some o := fun k ⟨o, hk⟩ => by
    rw [H.get_set]; split
    · exact ⟨_, rfl⟩
    · exact ⟨o, hk⟩
  refine ⟨id, v, h.set i o', (V.ren_id (σ := id) v (fun _ _ => rfl)).symm, ⟨fun k o hk => by rw [show o.ren id = o from O.ren_id (σ := id) o (fun _ _ => rfl)]; exact hg.keeps w2 k o hk, fun _ _ _ _ _ _ e => e, fun k o hk j hj => ?_, w2⟩, fun k hk => (by rw [hv] at hk; cases hk), fun k o hk => ⟨rfl, liv k ⟨o, hk⟩⟩, hq⟩
  rw [H.get_set] at hk
  split at hk
  · cases hk
    rw [ho] at hj; cases hj
  · exact liv j (cl k o hk j hj)

theorem H.push_set (h : H) (o o' : O) : (h.push o).set h.next o' = h.push o' := H.ext' rfl fun j => by
  rw [H.get_set, H.get_push, H.get_push]; split <;> simp_all
/-- A reader. -/
def rdr (l : List UInt8) : O := .row [.bool true, .str l]
def val (l : List UInt8) : Nat := l.foldl (fun a b => a * 256 + b.toNat) 0
theorem val_snoc (l : List UInt8) (b : UInt8) : val (l ++ [b]) = val l * 256 + b.toNat := by simp [val]
theorem val_lt : ∀ (n : Nat) (l : List UInt8), l.length = n → val l < 256 ^ n := by
  intro n
  induction n with
  | zero => intro l hl; have : l = [] := List.length_eq_zero_iff.1 hl; subst this; simp [val]
  | succ n ih =>
    intro l hl
    have hne : l ≠ [] := by intro e; subst e; simp at hl
    have h1 := ih l.dropLast (by simp [hl])
    rw [← List.dropLast_concat_getLast hne, val_snoc]
    have := (l.getLast hne).toNat_lt
    rw [Nat.pow_succ]; omega
theorem val_lt8 {l : List UInt8} (hl : l.length ≤ 8) : val l < 18446744073709551616 :=
  Nat.lt_of_lt_of_le (val_lt _ l rfl) (by
    have := Nat.pow_le_pow_right (show 0 < 256 by omega) hl
    have e : 256 ^ 8 = 18446744073709551616 := by decide
    omega)

theorem u64_id {n : Nat} (h : n < 18446744073709551616) : IntKind.u64.wrap (n : Int) = n := by simp [IntKind.wrap, IntKind.bits, IntKind.signed]; omega
/-- A number's bytes, the highest one first. -/
def be : Nat → Nat → List UInt8
  | 0, _ => []
  | n + 1, v => UInt8.ofNat (v / 256 ^ n) :: be n v
theorem be_len : ∀ n v, (be n v).length = n
  | 0, _ => rfl
  | n + 1, v => by rw [be, List.length_cons, be_len n v]

theorem foldl_val : ∀ (l : List UInt8) (a : Nat), l.foldl (fun a b => a * 256 + b.toNat) a = a * 256 ^ l.length + val l
  | [], a => by simp [val]
  | x :: l, a => by
    have h0 := foldl_val l x.toNat
    have h1 := foldl_val l (a * 256 + x.toNat)
    have e : val (x :: l) = l.foldl (fun a b => a * 256 + b.toNat) x.toNat := by simp [val]
    rw [List.foldl_cons, h1, e, h0, List.length_cons, Nat.pow_succ, Nat.add_mul, Nat.mul_assoc, Nat.mul_comm 256]; omega
theorem val_cons (x : UInt8) (l : List UInt8) : val (x :: l) = x.toNat * 256 ^ l.length + val l := by
  have := foldl_val l x.toNat
  simpa [val] using this
theorem val_be : ∀ n v : Nat, val (be n v) = v % 256 ^ n
  | 0, v => by simp [be, val, Nat.mod_one]
  | n + 1, v => by
    rw [be, val_cons, val_be n v, be_len, Nat.pow_succ, Nat.mod_mul]
    have : (UInt8.ofNat (v / 256 ^ n)).toNat = v / 256 ^ n % 256 := by simp
    rw [this, Nat.mul_comm]; omega
theorem val_be_lt {n v : Nat} (h : v < 256 ^ n) : val (be n v) = v := by rw [val_be, Nat.mod_eq_of_lt h]

end Go.Am
