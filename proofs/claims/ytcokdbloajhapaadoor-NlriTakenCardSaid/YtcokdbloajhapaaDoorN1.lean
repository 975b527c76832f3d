/-
  Plain laws of prefixes: an address cut to its first bits; its bits.
-/
import Derived.Test.YtcokdbloajhapaaDoorN0
namespace Go.Am

set_option maxRecDepth 100000
structure Pfx where
  fam : Int
  rd : Nat
  addr : List UInt8
  len : Int
  deriving DecidableEq
def pfxC (p : Pfx) : List V := [.int .i64 p.fam, .int .u64 (p.rd : Nat), .str p.addr, .int .i64 p.len]
structure Nl where
  p : Pfx
  id : Nat
  label : Nat
  deriving DecidableEq
def nlC (n : Nl) : List V := [.int .i64 n.p.fam, .int .u64 (n.p.rd : Nat), .str n.p.addr, .int .i64 n.p.len, .int .u32 (n.id : Nat), .int .u32 (n.label : Nat)]
def zeroP : Pfx := ⟨0, 0, [], 0⟩
/-- How many bytes an address of a family has. -/
def sizeN (fam : Int) : Nat := if fam = 1 ∨ fam = 3 ∨ fam = 4 then 4 else if fam = 2 ∨ fam = 5 then 16 else 0
def apartF (fam : Int) : Bool := fam == 4 || fam == 5
def labelF (fam : Int) : Bool := decide (3 ≤ fam) && decide (fam ≤ 5)
/-- A byte with its first bits alone. -/
def maskN (b : Nat) (left : Int) : Nat := if left ≤ 0 then 0 else if left < 8 then b / 2 ^ (8 - left.toNat) * 2 ^ (8 - left.toNat) else b
theorem maskN_le (b : Nat) (left : Int) : maskN b left ≤ b := by
  unfold maskN
  split
  · omega
  · split
    · exact Nat.div_mul_le_self _ _
    · omega
def maskL : List UInt8 → Int → List UInt8
  | [], _ => []
  | b :: l, n => UInt8.ofNat (maskN b.toNat n) :: maskL l (n - 8)
theorem maskL_len : ∀ (l : List UInt8) (n : Int), (maskL l n).length = l.length
  | [], _ => rfl
  | b :: l, n => by simp [maskL, maskL_len l]
theorem maskL_get : ∀ (l : List UInt8) (n : Int) (i : Nat) (h : i < l.length), (maskL l n)[i]'(by rw [maskL_len]; exact h) = UInt8.ofNat (maskN (l[i]).toNat (n - 8 * (i : Int)))
  | [], _, i, h => by simp at h
  | b :: l, n, 0, h => by simp [maskL]
  | b :: l, n, i + 1, h => by
    simp only [maskL, List.getElem_cons_succ]
    rw [maskL_get l (n - 8) i (by simpa using h)]
    congr 2
    omega
/-- A bit of an address. -/
def bitN (l : List UInt8) (n : Nat) : Nat := match l[n / 8]? with | some b => b.toNat / 2 ^ (7 - n % 8) % 2 | none => 0
theorem maskB_iff : ∀ b : Nat, b < 256 → ∀ n : Nat, n < 9 → ((∀ k < 8, n ≤ k → b / 2 ^ (7 - k) % 2 = 0) ↔ maskN b n = b) := by decide +kernel
theorem maskN_idem : ∀ b : Nat, b < 256 → ∀ n : Nat, n < 9 → maskN (maskN b n) n = maskN b n := by decide +kernel
theorem maskN_big {b : Nat} {n : Int} (h : 8 ≤ n) : maskN b n = b := by unfold maskN; rw [if_neg (by omega), if_neg (by omega)]
theorem maskN_small {b : Nat} {n : Int} (h : n ≤ 0) : maskN b n = 0 := by unfold maskN; rw [if_pos h]
/-- The clipped number of bits of a byte. -/
def clip (n : Int) : Nat := if n ≤ 0 then 0 else if n < 8 then n.toNat else 8
theorem clip_lt (n : Int) : clip n < 9 := by unfold clip; repeat' split
                                             all_goals omega
theorem maskN_clip (b : Nat) (n : Int) : maskN b n = maskN b (clip n : Nat) := by
  unfold clip
  split
  · rename_i h; rw [maskN_small h, maskN_small (by omega)]
  · split
    · congr 1; omega
    · rw [maskN_big (by omega), maskN_big (by omega)]
theorem ofNat_inj {a : Nat} {b : UInt8} (h : a < 256) : UInt8.ofNat a = b ↔ a = b.toNat := by
  constructor
  · rintro rfl; simp; omega
  · rintro rfl; simp
/-- All bits beyond are 0: it is cut already. -/
theorem tail_iff : ∀ (l : List UInt8) (n : Int), (∀ j : Nat, n ≤ j → j < 8 * l.length → bitN l j = 0) ↔ maskL l n = l
  | [], n => by simp [maskL]
  | b :: l, n => by
    have hb : b.toNat < 256 := b.toNat_lt
    have ih := tail_iff l (n - 8)
    have bb := maskB_iff b.toNat hb (clip n) (clip_lt n)
    have hm := maskN_le b.toNat n
    rw [maskL, List.cons.injEq, ofNat_inj (by omega), ← ih, maskN_clip, ← bb]
    constructor
    · intro h
      refine ⟨fun k hk hn => ?_, fun j hj hl => ?_⟩
      · have := h k (by unfold clip at hn; split at hn <;> (try split at hn) <;> omega) (by simp; omega)
        simp only [bitN] at this
        rw [show k / 8 = 0 by omega, show k % 8 = k by omega] at this
        simpa using this
      · have := h (j + 8) (by omega) (by simp; omega)
        simp only [bitN] at this ⊢
        rw [show (j + 8) / 8 = j / 8 + 1 by omega, show (j + 8) % 8 = j % 8 by omega, List.getElem?_cons_succ] at this
        exact this
    · rintro ⟨h1, h2⟩ j hj hl
      simp only [List.length_cons] at hl
      simp only [bitN]
      by_cases hj8 : j < 8
      · rw [show j / 8 = 0 by omega, show j % 8 = j by omega]
        have := h1 j hj8 (by unfold clip; repeat' split
                             all_goals omega)
        simpa using this
      · have := h2 (j - 8) (by omega) (by omega)
        simp only [bitN] at this
        rw [show j / 8 = (j - 8) / 8 + 1 by omega, show j % 8 = (j - 8) % 8 by omega, List.getElem?_cons_succ]
        exact this
theorem maskL_idem : ∀ (l : List UInt8) (n : Int), maskL (maskL l n) n = maskL l n
  | [], _ => rfl
  | b :: l, n => by
    have hb : b.toNat < 256 := b.toNat_lt
    have hm := maskN_le b.toNat n
    have := maskN_idem b.toNat hb (clip n) (clip_lt n)
    rw [← maskN_clip, ← maskN_clip] at this
    simp only [maskL, maskL_idem l, List.cons.injEq, and_true]
    congr 1
    rw [show (UInt8.ofNat (maskN b.toNat n)).toNat = maskN b.toNat n by simp; omega]
    exact this
/-- What Check says. -/
def mayP (p : Pfx) : Bool := decide (sizeN p.fam ≠ 0) && decide (p.addr.length = sizeN p.fam) && decide (0 ≤ p.len) && decide (p.len ≤ 8 * (sizeN p.fam : Int)) && (decide (p.rd = 0) || apartF p.fam) && decide (maskL p.addr p.len = p.addr)
def mayN (n : Nl) : Bool := mayP n.p && decide (n.label ≤ 1048575) && (decide (n.label = 0) || labelF n.p.fam)
end Go.Am
