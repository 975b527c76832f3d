/-
  N0, N1, N2, in one text.
-/
import Derived.Test.YtcokdbloajhapaaGreatDoorAm30
/-
  Numbers and their bytes; a call that turns one object.
-/
namespace Go.Am

/-- A call that turns one object, and whose other makings are let go. -/
theorem Acalls.turn {P : Program} {f : FuncId} {args : List V} {h : H} {i : Nat} {o' : O} {Q : V → H → Prop} (hi : ∃ o, h.get i = some o) (ho : o'.ids = [])
    (c : h.WF → Acalls P f args h fun v h1 => Ge (h.set i o') h1 ∧ v.ids = [] ∧ Q v (h.set i o')) (he : enterable P f = true) : Acalls P f args h Q := by
  refine Acalls.cl he fun wf cl => Acalls.rename ((c wf).mono ?_)
  rintro v h1 ⟨hg, hv, hq⟩
  obtain ⟨oi, hoi⟩ := hi
  have hlt := wf.lt hoi
  have w2 : (h.set i o').WF := wf.set hlt _
  have liv : ∀ k, (∃ o, h.get k = some o) → ∃ o, (h.set i o').get k = some o := fun k ⟨o, hk⟩ => by
    rw [H.get_set]; split
    · exact ⟨_, rfl⟩
    · exact ⟨o, hk⟩
  refine ⟨id, v, h.set i o', (V.ren_id (σ := id) v (fun _ _ => rfl)).symm, ⟨fun k o hk => by rw [show o.ren id = o from O.ren_id (σ := id) o (fun _ _ => rfl)]; exact hg.keeps w2 k o hk, fun _ _ _ _ _ _ e => e, fun k o hk j hj => ?_, w2⟩, fun k hk => (by rw [hv] at hk; cases hk), fun k o hk => ⟨rfl, liv k ⟨o, hk⟩⟩, hq⟩
  rw [H.get_set] at hk
  split at hk
  · cases hk
    rw [ho] at hj; cases hj
  · exact liv j (cl k o hk j hj)

theorem H.push_set (h : H) (o o' : O) : (h.push o).set h.next o' = h.push o' := H.ext' rfl fun j => by
  rw [H.get_set, H.get_push, H.get_push]; split <;> simp_all
/-- A reader. -/
def rdr (l : List UInt8) : O := .row [.bool true, .str l]
def val (l : List UInt8) : Nat := l.foldl (fun a b => a * 256 + b.toNat) 0
theorem val_snoc (l : List UInt8) (b : UInt8) : val (l ++ [b]) = val l * 256 + b.toNat := by simp [val]
theorem val_lt : ∀ (n : Nat) (l : List UInt8), l.length = n → val l < 256 ^ n := by
  intro n
  induction n with
  | zero => intro l hl; have : l = [] := List.length_eq_zero_iff.1 hl; subst this; simp [val]
  | succ n ih =>
    intro l hl
    have hne : l ≠ [] := by intro e; subst e; simp at hl
    have h1 := ih l.dropLast (by simp [hl])
    rw [← List.dropLast_concat_getLast hne, val_snoc]
    have := (l.getLast hne).toNat_lt
    rw [Nat.pow_succ]; omega
theorem val_lt8 {l : List UInt8} (hl : l.length ≤ 8) : val l < 18446744073709551616 :=
  Nat.lt_of_lt_of_le (val_lt _ l rfl) (by
    have := Nat.pow_le_pow_right (show 0 < 256 by omega) hl
    have e : 256 ^ 8 = 18446744073709551616 := by decide
    omega)

theorem u64_id {n : Nat} (h : n < 18446744073709551616) : IntKind.u64.wrap (n : Int) = n := by simp [IntKind.wrap, IntKind.bits, IntKind.signed]; omega
/-- A number's bytes, the highest one first. -/
def be : Nat → Nat → List UInt8
  | 0, _ => []
  | n + 1, v => UInt8.ofNat (v / 256 ^ n) :: be n v
theorem be_len : ∀ n v, (be n v).length = n
  | 0, _ => rfl
  | n + 1, v => by rw [be, List.length_cons, be_len n v]

theorem foldl_val : ∀ (l : List UInt8) (a : Nat), l.foldl (fun a b => a * 256 + b.toNat) a = a * 256 ^ l.length + val l
  | [], a => by simp [val]
  | x :: l, a => by
    have h0 := foldl_val l x.toNat
    have h1 := foldl_val l (a * 256 + x.toNat)
    have e : val (x :: l) = l.foldl (fun a b => a * 256 + b.toNat) x.toNat := by simp [val]
    rw [List.foldl_cons, h1, e, h0, List.length_cons, Nat.pow_succ, Nat.add_mul, Nat.mul_assoc, Nat.mul_comm 256]; omega
theorem val_cons (x : UInt8) (l : List UInt8) : val (x :: l) = x.toNat * 256 ^ l.length + val l := by
  have := foldl_val l x.toNat
  simpa [val] using this
theorem val_be : ∀ n v : Nat, val (be n v) = v % 256 ^ n
  | 0, v => by simp [be, val, Nat.mod_one]
  | n + 1, v => by
    rw [be, val_cons, val_be n v, be_len, Nat.pow_succ, Nat.mod_mul]
    have : (UInt8.ofNat (v / 256 ^ n)).toNat = v / 256 ^ n % 256 := by simp
    rw [this, Nat.mul_comm]; omega
theorem val_be_lt {n v : Nat} (h : v < 256 ^ n) : val (be n v) = v := by rw [val_be, Nat.mod_eq_of_lt h]

end Go.Am

/-
  Plain laws of prefixes: an address cut to its first bits; its bits.
-/
namespace Go.Am

set_option maxRecDepth 100000
structure Pfx where
  fam : Int
  rd : Nat
  addr : List UInt8
  len : Int
  deriving DecidableEq
def pfxC (p : Pfx) : List V := [.int .i64 p.fam, .int .u64 (p.rd : Nat), .str p.addr, .int .i64 p.len]
structure Nl where
  p : Pfx
  id : Nat
  label : Nat
  deriving DecidableEq
def nlC (n : Nl) : List V := [.int .i64 n.p.fam, .int .u64 (n.p.rd : Nat), .str n.p.addr, .int .i64 n.p.len, .int .u32 (n.id : Nat), .int .u32 (n.label : Nat)]
def zeroP : Pfx := ⟨0, 0, [], 0⟩
/-- How many bytes an address of a family has. -/
def sizeN (fam : Int) : Nat := if fam = 1 ∨ fam = 3 ∨ fam = 4 then 4 else if fam = 2 ∨ fam = 5 then 16 else 0
def apartF (fam : Int) : Bool := fam == 4 || fam == 5
def labelF (fam : Int) : Bool := decide (3 ≤ fam) && decide (fam ≤ 5)
/-- A byte with its first bits alone. -/
def maskN (b : Nat) (left : Int) : Nat := if left ≤ 0 then 0 else if left < 8 then b / 2 ^ (8 - left.toNat) * 2 ^ (8 - left.toNat) else b
theorem maskN_le (b : Nat) (left : Int) : maskN b left ≤ b := by
  unfold maskN
  split
  · omega
  · split
    · exact Nat.div_mul_le_self _ _
    · omega
def maskL : List UInt8 → Int → List UInt8
  | [], _ => []
  | b :: l, n => UInt8.ofNat (maskN b.toNat n) :: maskL l (n - 8)
theorem maskL_len : ∀ (l : List UInt8) (n : Int), (maskL l n).length = l.length
  | [], _ => rfl
  | b :: l, n => by simp [maskL, maskL_len l]
theorem maskL_get : ∀ (l : List UInt8) (n : Int) (i : Nat) (h : i < l.length), (maskL l n)[i]'(by rw [maskL_len]; exact h) = UInt8.ofNat (maskN (l[i]).toNat (n - 8 * (i : Int)))
  | [], _, i, h => by simp at h
  | b :: l, n, 0, h => by simp [maskL]
  | b :: l, n, i + 1, h => by
    simp only [maskL, List.getElem_cons_succ]
    rw [maskL_get l (n - 8) i (by simpa using h)]
    congr 2
    omega
/-- A bit of an address. -/
def bitN (l : List UInt8) (n : Nat) : Nat := match l[n / 8]? with | some b => b.toNat / 2 ^ (7 - n % 8) % 2 | none => 0
theorem maskB_iff : ∀ b : Nat, b < 256 → ∀ n : Nat, n < 9 → ((∀ k < 8, n ≤ k → b / 2 ^ (7 - k) % 2 = 0) ↔ maskN b n = b) := by decide +kernel
theorem maskN_idem : ∀ b : Nat, b < 256 → ∀ n : Nat, n < 9 → maskN (maskN b n) n = maskN b n := by decide +kernel
theorem maskN_big {b : Nat} {n : Int} (h : 8 ≤ n) : maskN b n = b := by unfold maskN; rw [if_neg (by omega), if_neg (by omega)]
theorem maskN_small {b : Nat} {n : Int} (h : n ≤ 0) : maskN b n = 0 := by unfold maskN; rw [if_pos h]
/-- The clipped number of bits of a byte. -/
def clip (n : Int) : Nat := if n ≤ 0 then 0 else if n < 8 then n.toNat else 8
theorem clip_lt (n : Int) : clip n < 9 := by unfold clip; repeat' split
                                             all_goals omega
theorem maskN_clip (b : Nat) (n : Int) : maskN b n = maskN b (clip n : Nat) := by
  unfold clip
  split
  · rename_i h; rw [maskN_small h, maskN_small (by omega)]
  · split
    · congr 1; omega
    · rw [maskN_big (by omega), maskN_big (by omega)]
theorem ofNat_inj {a : Nat} {b : UInt8} (h : a < 256) : UInt8.ofNat a = b ↔ a = b.toNat := by
  constructor
  · rintro rfl; simp; omega
  · rintro rfl; simp
/-- All bits beyond are 0: it is cut already. -/
theorem tail_iff : ∀ (l : List UInt8) (n : Int), (∀ j : Nat, n ≤ j → j < 8 * l.length → bitN l j = 0) ↔ maskL l n = l
  | [], n => by simp [maskL]
  | b :: l, n => by
    have hb : b.toNat < 256 := b.toNat_lt
    have ih := tail_iff l (n - 8)
    have bb := maskB_iff b.toNat hb (clip n) (clip_lt n)
    have hm := maskN_le b.toNat n
    rw [maskL, List.cons.injEq, ofNat_inj (by omega), ← ih, maskN_clip, ← bb]
    constructor
    · intro h
      refine ⟨fun k hk hn => ?_, fun j hj hl => ?_⟩
      · have := h k (by unfold clip at hn; split at hn <;> (try split at hn) <;> omega) (by simp; omega)
        simp only [bitN] at this
        rw [show k / 8 = 0 by omega, show k % 8 = k by omega] at this
        simpa using this
      · have := h (j + 8) (by omega) (by simp; omega)
        simp only [bitN] at this ⊢
        rw [show (j + 8) / 8 = j / 8 + 1 by omega, show (j + 8) % 8 = j % 8 by omega, List.getElem?_cons_succ] at this
        exact this
    · rintro ⟨h1, h2⟩ j hj hl
      simp only [List.length_cons] at hl
      simp only [bitN]
      by_cases hj8 : j < 8
      · rw [show j / 8 = 0 by omega, show j % 8 = j by omega]
        have := h1 j hj8 (by unfold clip; repeat' split
                             all_goals omega)
        simpa using this
      · have := h2 (j - 8) (by omega) (by omega)
        simp only [bitN] at this
        rw [show j / 8 = (j - 8) / 8 + 1 by omega, show j % 8 = (j - 8) % 8 by omega, List.getElem?_cons_succ]
        exact this
theorem maskL_idem : ∀ (l : List UInt8) (n : Int), maskL (maskL l n) n = maskL l n
  | [], _ => rfl
  | b :: l, n => by
    have hb : b.toNat < 256 := b.toNat_lt
    have hm := maskN_le b.toNat n
    have := maskN_idem b.toNat hb (clip n) (clip_lt n)
    rw [← maskN_clip, ← maskN_clip] at this
    simp only [maskL, maskL_idem l, List.cons.injEq, and_true]
    congr 1
    rw [show (UInt8.ofNat (maskN b.toNat n)).toNat = maskN b.toNat n by simp; omega]
    exact this
/-- What Check says. -/
def mayP (p : Pfx) : Bool := decide (sizeN p.fam ≠ 0) && decide (p.addr.length = sizeN p.fam) && decide (0 ≤ p.len) && decide (p.len ≤ 8 * (sizeN p.fam : Int)) && (decide (p.rd = 0) || apartF p.fam) && decide (maskL p.addr p.len = p.addr)
def mayN (n : Nl) : Bool := mayP n.p && decide (n.label ≤ 1048575) && (decide (n.label = 0) || labelF n.p.fam)
end Go.Am

/-
  Told prefixes and their bytes: the plain law.
-/
namespace Go.Am

set_option maxRecDepth 100000
def aheadN (fam : Int) : Nat := (if labelF fam = true then 24 else 0) + (if apartF fam = true then 64 else 0)
def wholeN (bits : Nat) : Nat := (bits + 7) / 8
/-- One's bytes. -/
def enc1 (add : Bool) (n : Nl) : List UInt8 :=
  (if add = true then be 4 n.id else []) ++ be 1 (n.p.len.toNat + aheadN n.p.fam) ++ (if labelF n.p.fam = true then be 3 (n.label * 16 + 1) else []) ++ (if apartF n.p.fam = true then be 8 n.p.rd else []) ++ n.p.addr.take (wholeN n.p.len.toNat)
def tk (k : Nat) (s : List UInt8) : Option (List UInt8 × List UInt8) := if k ≤ s.length then some (s.take k, s.drop k) else none
def tkIf (b : Bool) (k : Nat) (s : List UInt8) : Option (List UInt8 × List UInt8) := if b = true then tk k s else some ([], s)
/-- The first one of bytes, and what is left. -/
def dec1 (fam : Int) (add : Bool) (s : List UInt8) : Option (Nl × List UInt8) :=
  match tkIf add 4 s with
  | none => none
  | some (i, s) =>
    match tk 1 s with
    | none => none
    | some (b, s) =>
      match tkIf (labelF fam) 3 s with
      | none => none
      | some (l, s) =>
        if labelF fam = true ∧ val l % 2 = 0 ∧ val l ≠ 8388608 then none else
        match tkIf (apartF fam) 8 s with
        | none => none
        | some (r, s) =>
          if val b < aheadN fam ∨ 8 * sizeN fam < val b - aheadN fam then none else
          match tk (wholeN (val b - aheadN fam)) s with
          | none => none
          | some (a, s) => some (⟨⟨fam, val r, maskL (a ++ List.replicate (sizeN fam - a.length) 0) (val b - aheadN fam : Nat), (val b - aheadN fam : Nat)⟩, val i, if val l = 8388608 then 0 else val l / 16⟩, s)
theorem tk_app (k : Nat) (a r : List UInt8) (h : a.length = k) : tk k (a ++ r) = some (a, r) := by
  unfold tk
  rw [if_pos (by simp; omega), List.take_append_of_le_length (by omega), List.drop_append_of_le_length (by omega), List.take_of_length_le (by omega), List.drop_of_length_le (by omega)]
  rfl
theorem tkIf_app (b : Bool) (k : Nat) (a r : List UInt8) (h : a.length = k) : tkIf b k ((if b = true then a else []) ++ r) = some (if b = true then a else [], r) := by
  unfold tkIf
  cases b with
  | true => simp only [if_true]; exact tk_app k a r h
  | false => simp
theorem maskL_zeros : ∀ (k : Nat) (n : Int), maskL (List.replicate k 0) n = List.replicate k 0
  | 0, _ => rfl
  | k + 1, n => by
    rw [List.replicate_succ, maskL, maskL_zeros k]
    have := maskN_le (0 : UInt8).toNat n
    have e : maskN (0 : UInt8).toNat n = 0 := by simpa using this
    rw [e]; rfl
theorem maskL_neg : ∀ (l : List UInt8) (n : Int), n ≤ 0 → maskL l n = List.replicate l.length 0
  | [], _, _ => rfl
  | b :: l, n, h => by
    rw [maskL, maskL_neg l (n - 8) (by omega), maskN_small h, List.length_cons, List.replicate_succ]; rfl
/-- The rest of a cut address is 0. -/
theorem mask_take : ∀ (l : List UInt8) (n : Nat), maskL l n = l → l.take (wholeN n) ++ List.replicate (l.length - wholeN n) 0 = l
  | [], n, _ => by simp
  | b :: l, n, h => by
    by_cases h8 : n ≤ 0
    · have h0 : n = 0 := by omega
      subst h0
      rw [maskL_neg _ _ (by omega)] at h
      have : wholeN 0 = 0 := rfl
      rw [this, List.take_zero, List.nil_append, Nat.sub_zero]; exact h
    · rw [maskL, List.cons.injEq] at h
      have hw : wholeN n = wholeN (n - 8) + 1 ∨ (n < 8 ∧ wholeN n = 1) := by unfold wholeN; omega
      rcases hw with hw | ⟨h8', hw⟩
      · by_cases h9 : n < 8
        · have hw1 : wholeN n = 1 := by unfold wholeN; omega
          have h2 := h.2
          rw [maskL_neg _ _ (by omega)] at h2
          rw [hw1, List.take_succ_cons, List.take_zero, List.length_cons, Nat.add_sub_cancel, List.cons_append, List.nil_append, h2]
        · have h2 := h.2
          rw [show (n : Int) - 8 = ((n - 8 : Nat) : Int) by omega] at h2
          have ih := mask_take l (n - 8) h2
          rw [hw, List.take_succ_cons, List.length_cons, show l.length + 1 - (wholeN (n - 8) + 1) = l.length - wholeN (n - 8) by omega, List.cons_append, ih]
      · have h2 := h.2
        rw [maskL_neg _ _ (by omega)] at h2
        rw [hw, List.take_succ_cons, List.take_zero, List.length_cons, Nat.add_sub_cancel, List.cons_append, List.nil_append, h2]
/-- What fits into its bytes. -/
structure NlOk (fam : Int) (add : Bool) (n : Nl) : Prop where
  may : mayN n = true
  fam : n.p.fam = fam
  id0 : add = false → n.id = 0
  idb : n.id < 4294967296
  rdb : n.p.rd < 18446744073709551616
theorem NlOk.parts {fam : Int} {add : Bool} {n : Nl} (h : NlOk fam add n) : sizeN fam ≠ 0 ∧ n.p.addr.length = sizeN fam ∧ 0 ≤ n.p.len ∧ n.p.len ≤ 8 * (sizeN fam : Int) ∧ (n.p.rd = 0 ∨ apartF fam = true) ∧ maskL n.p.addr n.p.len = n.p.addr ∧ n.label ≤ 1048575 ∧ (n.label = 0 ∨ labelF fam = true) := by
  have := h.may
  simp only [mayN, mayP, Bool.and_eq_true, Bool.or_eq_true, decide_eq_true_eq, h.fam] at this
  obtain ⟨⟨⟨⟨⟨⟨⟨a, b⟩, c⟩, d⟩, e⟩, f⟩, g⟩, i⟩ := this
  exact ⟨a, b, c, d, e, f, g, i⟩
theorem size_le (fam : Int) : sizeN fam ≤ 16 := by unfold sizeN; split <;> (try split) <;> omega
theorem ahead_le (fam : Int) : aheadN fam ≤ 88 := by unfold aheadN; split <;> split <;> omega
/-- THERE AND BACK, one. -/
theorem dec1_enc1 {fam : Int} {add : Bool} {n : Nl} (h : NlOk fam add n) (r : List UInt8) : dec1 fam add (enc1 add n ++ r) = some (n, r) := by
  obtain ⟨h0, h1, h2, h3, h4, h5, h6, h7⟩ := h.parts
  have hf := h.fam
  have sl := size_le fam
  have al := ahead_le fam
  have v4 : val (be 4 n.id) = n.id := val_be_lt (by have := h.idb; omega)
  have v1 : val (be 1 (n.p.len.toNat + aheadN fam)) = n.p.len.toNat + aheadN fam := by
    have : sizeN fam * 8 + aheadN fam < 256 := by
      unfold sizeN aheadN labelF apartF
      by_cases e1 : fam = 1
      · subst e1; decide
      by_cases e2 : fam = 2
      · subst e2; decide
      by_cases e3 : fam = 3
      · subst e3; decide
      by_cases e4 : fam = 4
      · subst e4; decide
      by_cases e5 : fam = 5
      · subst e5; decide
      exfalso; apply h0; unfold sizeN; rw [if_neg (by omega), if_neg (by omega)]
    exact val_be_lt (by omega)
  have v3 : val (be 3 (n.label * 16 + 1)) = n.label * 16 + 1 := val_be_lt (by omega)
  have v8 : val (be 8 n.p.rd) = n.p.rd := val_be_lt (by have := h.rdb; omega)
  have hr : val (if apartF fam = true then be 8 n.p.rd else []) = n.p.rd := by
    split
    · exact v8
    · rename_i e; rcases h4 with h4 | h4
      · rw [h4]; rfl
      · exact absurd h4 e
  have hi : val (if add = true then be 4 n.id else []) = n.id := by
    cases add with
    | true => exact v4
    | false => rw [h.id0 rfl]; rfl
  have hwl : (n.p.addr.take (wholeN n.p.len.toNat)).length = wholeN n.p.len.toNat := by
    rw [List.length_take]
    have : wholeN n.p.len.toNat ≤ sizeN fam := by unfold wholeN; omega
    omega
  unfold dec1 enc1
  rw [hf]
  simp only [List.append_assoc]
  rw [tkIf_app _ _ _ _ (be_len 4 _)]
  simp only
  rw [tk_app _ _ _ (be_len 1 _)]
  simp only
  rw [tkIf_app _ _ _ _ (be_len 3 _)]
  simp only
  have hl : ¬ (labelF fam = true ∧ val (if labelF fam = true then be 3 (n.label * 16 + 1) else []) % 2 = 0 ∧ val (if labelF fam = true then be 3 (n.label * 16 + 1) else []) ≠ 8388608) := by
    rintro ⟨e1, e2, _⟩
    rw [if_pos e1, v3] at e2
    omega
  rw [if_neg hl, tkIf_app _ _ _ _ (be_len 8 _)]
  simp only
  rw [v1, if_neg (by omega), show n.p.len.toNat + aheadN fam - aheadN fam = n.p.len.toNat by omega, tk_app _ _ _ hwl]
  simp only
  have hlab : (if val (if labelF fam = true then be 3 (n.label * 16 + 1) else []) = 8388608 then 0 else val (if labelF fam = true then be 3 (n.label * 16 + 1) else []) / 16) = n.label := by
    by_cases e1 : labelF fam = true
    · rw [if_pos e1, v3, if_neg (by omega)]; omega
    · rw [if_neg e1]
      rcases h7 with h7 | h7
      · rw [h7]; rfl
      · exact absurd h7 e1
  have hm : maskL (n.p.addr.take (wholeN n.p.len.toNat) ++ List.replicate (sizeN fam - (n.p.addr.take (wholeN n.p.len.toNat)).length) 0) (n.p.len.toNat : Nat) = n.p.addr := by
    have hm5 : maskL n.p.addr (n.p.len.toNat : Nat) = n.p.addr := by rw [show ((n.p.len.toNat : Nat) : Int) = n.p.len by omega]; exact h5
    rw [hwl, ← h1, mask_take _ _ hm5, hm5]
  rw [hlab, hr, hi, hm, show ((n.p.len.toNat : Nat) : Int) = n.p.len by omega, ← hf]
theorem tk_some {k : Nat} {s a r : List UInt8} (h : tk k s = some (a, r)) : a.length = k ∧ s = a ++ r := by
  unfold tk at h
  split at h
  · cases h; exact ⟨by rw [List.length_take]; omega, (List.take_append_drop ..).symm⟩
  · cases h
theorem tkIf_some {b : Bool} {k : Nat} {s a r : List UInt8} (h : tkIf b k s = some (a, r)) : (a.length = if b = true then k else 0) ∧ s = a ++ r := by
  unfold tkIf at h
  split at h
  · rename_i e; rw [if_pos e]; exact tk_some h
  · rename_i e; cases h; rw [if_neg e]; exact ⟨rfl, rfl⟩
theorem enc1_len {fam : Int} {add : Bool} {n : Nl} (hf : n.p.fam = fam) (ha : wholeN n.p.len.toNat ≤ n.p.addr.length) : (enc1 add n).length = (if add = true then 4 else 0) + 1 + (if labelF fam = true then 3 else 0) + (if apartF fam = true then 8 else 0) + wholeN n.p.len.toNat := by
  unfold enc1
  rw [hf]
  simp only [List.length_append, be_len, List.length_take, Nat.min_eq_left ha]
  split <;> split <;> split <;> simp [be_len]
/-- What is read fits, and takes as many bytes as it would be laid in. -/
theorem dec1_ok {fam : Int} {add : Bool} {s r : List UInt8} {n : Nl} (hs0 : sizeN fam ≠ 0) (h : dec1 fam add s = some (n, r)) : NlOk fam add n ∧ ∃ pre, s = pre ++ r ∧ pre.length = (enc1 add n).length := by
  unfold dec1 at h
  split at h
  · cases h
  · rename_i i s1 h1
    split at h
    · cases h
    · rename_i b s2 h2
      split at h
      · cases h
      · rename_i l s3 h3
        split at h
        · cases h
        · rename_i hl
          split at h
          · cases h
          · rename_i rd s4 h4
            split at h
            · cases h
            · rename_i hb
              split at h
              · cases h
              · rename_i a s5 h5
                cases h
                obtain ⟨i1, i2⟩ := tkIf_some h1
                obtain ⟨b1, b2⟩ := tk_some h2
                obtain ⟨l1, l2⟩ := tkIf_some h3
                obtain ⟨r1, r2⟩ := tkIf_some h4
                obtain ⟨a1, a2⟩ := tk_some h5
                have sl := size_le fam
                have ha : a.length ≤ sizeN fam := by rw [a1]; unfold wholeN; omega
                have hlen : (a ++ List.replicate (sizeN fam - a.length) 0).length = sizeN fam := by simp; omega
                have vi : val i < 256 ^ 4 := Nat.lt_of_lt_of_le (val_lt _ i rfl) (Nat.pow_le_pow_right (by omega) (by rw [i1]; split <;> omega))
                have vr : val rd < 256 ^ 8 := Nat.lt_of_lt_of_le (val_lt _ rd rfl) (Nat.pow_le_pow_right (by omega) (by rw [r1]; split <;> omega))
                have vl : val l < 256 ^ 3 := Nat.lt_of_lt_of_le (val_lt _ l rfl) (Nat.pow_le_pow_right (by omega) (by rw [l1]; split <;> omega))
                have nil0 : ∀ {x : List UInt8}, x.length = 0 → val x = 0 := fun {x} h => by rw [List.length_eq_zero_iff.1 h]; rfl
                refine ⟨⟨?_, rfl, fun e => ?_, by simp only; omega, by simp only; omega⟩, i ++ b ++ l ++ rd ++ a, by rw [i2, b2, l2, r2, a2]; simp, ?_⟩
                · simp only [mayN, mayP, Bool.and_eq_true, Bool.or_eq_true, decide_eq_true_eq, maskL_len, hlen]
                  refine ⟨⟨⟨⟨⟨⟨⟨hs0, trivial⟩, by omega⟩, by omega⟩, ?_⟩, maskL_idem _ _⟩, by split <;> omega⟩, ?_⟩
                  · by_cases e : apartF fam = true
                    · exact .inr e
                    · rw [if_neg e] at r1; exact .inl (nil0 r1)
                  · by_cases e : labelF fam = true
                    · exact .inr e
                    · rw [if_neg e] at l1; rw [nil0 l1]; exact .inl rfl
                · simp only
                  subst e
                  simp only [Bool.false_eq_true, if_false] at i1
                  exact nil0 i1
                · rw [enc1_len (fam := fam) rfl (by simp only [maskL_len, hlen]; rw [Int.toNat_natCast]; unfold wholeN; omega)]
                  simp only [List.length_append, i1, b1, l1, r1, a1, Int.toNat_natCast]
/-- A beginning of it is none. -/
theorem dec1_cut {fam : Int} {add : Bool} {n : Nl} (h : NlOk fam add n) (k : Nat) (hk : k < (enc1 add n).length) : dec1 fam add ((enc1 add n).take k) = none := by
  cases hd : dec1 fam add ((enc1 add n).take k) with
  | none => rfl
  | some x =>
    obtain ⟨m, r⟩ := x
    obtain ⟨hm, pre, e1, e2⟩ := dec1_ok h.parts.1 hd
    -- what is read of a beginning would be read of the whole
    have e3 : dec1 fam add (enc1 add m ++ (r ++ (enc1 add n).drop k)) = some (m, r ++ (enc1 add n).drop k) := dec1_enc1 hm _
    exfalso
    have hw := dec1_enc1 h []
    rw [List.append_nil] at hw
    have mono : ∀ (s u : List UInt8) (x : Nl) (r : List UInt8), dec1 fam add s = some (x, r) → dec1 fam add (s ++ u) = some (x, r ++ u) := by
      intro s u x r hx
      have tkm : ∀ {k : Nat} {s a r : List UInt8}, tk k s = some (a, r) → tk k (s ++ u) = some (a, r ++ u) := fun {k s a r} h => by
        obtain ⟨a1, rfl⟩ := tk_some h
        rw [List.append_assoc]; exact tk_app k a _ a1
      have tkim : ∀ {b : Bool} {k : Nat} {s a r : List UInt8}, tkIf b k s = some (a, r) → tkIf b k (s ++ u) = some (a, r ++ u) := fun {b k s a r} h => by
        unfold tkIf at h ⊢
        split at h
        · rename_i e; rw [if_pos e]; exact tkm h
        · rename_i e; rw [if_neg e]; cases h; rfl
      unfold dec1 at hx
      split at hx
      · cases hx
      · rename_i i s1 h1
        split at hx
        · cases hx
        · rename_i b s2 h2
          split at hx
          · cases hx
          · rename_i l s3 h3
            split at hx
            · cases hx
            · rename_i hl
              split at hx
              · cases hx
              · rename_i rd s4 h4
                split at hx
                · cases hx
                · rename_i hb
                  split at hx
                  · cases hx
                  · rename_i a s5 h5
                    cases hx
                    unfold dec1
                    rw [tkim h1]
                    simp only
                    rw [tkm h2]
                    simp only
                    rw [tkim h3]
                    simp only
                    rw [if_neg hl, tkim h4]
                    simp only
                    rw [if_neg hb, tkm h5]
    have := mono _ ((enc1 add n).drop k) _ _ hd
    rw [List.take_append_drop, hw] at this
    simp only [Option.some.injEq, Prod.mk.injEq] at this
    have e4 := congrArg List.length this.2
    simp only [List.length_nil, List.length_append, List.length_drop] at e4
    omega
/-! ### Lists of them -/
def encL (add : Bool) (l : List Nl) : List UInt8 := l.flatMap (enc1 add)
def decL (fam : Int) (add : Bool) (s : List UInt8) : Option (List Nl) :=
  match s with
  | [] => some []
  | b :: l => match h : dec1 fam add (b :: l) with
    | none => none
    | some (n, r) => if hr : r.length < (b :: l).length then (decL fam add r).map (n :: ·) else none
termination_by s.length
theorem enc1_pos (add : Bool) (n : Nl) : 0 < (enc1 add n).length := by
  unfold enc1
  simp only [List.length_append, be_len]
  omega
theorem dec1_lt {fam : Int} {add : Bool} {s r : List UInt8} {n : Nl} (hs0 : sizeN fam ≠ 0) (h : dec1 fam add s = some (n, r)) : r.length < s.length := by
  obtain ⟨_, pre, rfl, hp⟩ := dec1_ok hs0 h
  have := enc1_pos add n
  simp; omega
theorem decL_step {fam : Int} {add : Bool} {s : List UInt8} (hs0 : sizeN fam ≠ 0) (hs : s ≠ []) : decL fam add s = match dec1 fam add s with | none => none | some (n, r) => (decL fam add r).map (n :: ·) := by
  match s, hs with
  | b :: l, _ =>
    rw [decL]
    split
    · rename_i h; rw [h]
    · rename_i n r h
      have := dec1_lt hs0 h
      rw [dif_pos this, h]
theorem decL_encL {fam : Int} {add : Bool} (hs0 : sizeN fam ≠ 0) : ∀ l : List Nl, (∀ n ∈ l, NlOk fam add n) → ∀ t, decL fam add (encL add l ++ t) = (decL fam add t).map (l ++ ·)
  | [], _, t => by simp [encL]
  | n :: l, h, t => by
    have ih := decL_encL hs0 l (fun x hx => h x (by simp [hx])) t
    have e : encL add (n :: l) ++ t = enc1 add n ++ (encL add l ++ t) := by simp [encL]
    have hp := enc1_pos add n
    have hne : enc1 add n ++ (encL add l ++ t) ≠ [] := by
      intro h0
      have := congrArg List.length h0
      simp only [List.length_append, List.length_nil] at this
      omega
    rw [e, decL_step hs0 hne, dec1_enc1 (h n (by simp))]
    simp only
    rw [ih]
    cases decL fam add t <;> rfl
theorem decL_ok {fam : Int} {add : Bool} (hs0 : sizeN fam ≠ 0) : ∀ (k : Nat) (s : List UInt8) (l : List Nl), s.length ≤ k → decL fam add s = some l → (∀ n ∈ l, NlOk fam add n) ∧ (encL add l).length = s.length
  | k, [], l, _, h => by rw [decL] at h; cases h; simp [encL]
  | 0, b :: s, l, hk, _ => by simp at hk
  | k + 1, b :: s, l, hk, h => by
    rw [decL_step hs0 (by simp)] at h
    split at h
    · cases h
    · rename_i n r hd
      cases hr : decL fam add r with
      | none => rw [hr] at h; cases h
      | some l' =>
        rw [hr] at h
        cases h
        obtain ⟨h1, pre, e1, e2⟩ := dec1_ok hs0 hd
        have hlt := dec1_lt hs0 hd
        obtain ⟨i1, i2⟩ := decL_ok hs0 k r l' (by simp at hk hlt; omega) hr
        refine ⟨fun x hx => ?_, ?_⟩
        · rcases List.mem_cons.1 hx with rfl | hx
          · exact h1
          · exact i1 x hx
        · have e3 : encL add (n :: l') = enc1 add n ++ encL add l' := by simp [encL]
          rw [e3, e1, List.length_append, List.length_append, i2, e2]
/-- THERE AND BACK. -/
theorem decL_back {fam : Int} {add : Bool} (hs0 : sizeN fam ≠ 0) (l : List Nl) (h : ∀ n ∈ l, NlOk fam add n) : decL fam add (encL add l) = some l := by
  have := decL_encL hs0 l h []
  rw [List.append_nil, decL] at this
  simpa using this
/-- All but the last byte: none, where the last one has more than one. -/
theorem decL_cut {fam : Int} {add : Bool} (hs0 : sizeN fam ≠ 0) (l : List Nl) (n : Nl) (h : ∀ x ∈ l ++ [n], NlOk fam add x) (hn : 1 < (enc1 add n).length) : decL fam add ((encL add (l ++ [n])).take ((encL add (l ++ [n])).length - 1)) = none := by
  have e : encL add (l ++ [n]) = encL add l ++ enc1 add n := by simp [encL]
  have e2 : (encL add l ++ enc1 add n).take ((encL add l ++ enc1 add n).length - 1) = encL add l ++ (enc1 add n).take ((enc1 add n).length - 1) := by
    rw [List.take_append, List.take_of_length_le (by simp; omega)]
    congr 2
    simp; omega
  have hk : ((enc1 add n).take ((enc1 add n).length - 1)) ≠ [] := fun h0 => by
    have := congrArg List.length h0
    simp at this; omega
  rw [e, e2, decL_encL hs0 l (fun x hx => h x (by simp [hx])), decL_step hs0 hk, dec1_cut (h n (by simp)) _ (by omega)]
  rfl
end Go.Am
