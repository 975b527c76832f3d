/-
  C0, C1, C1b, NU, in one text.
-/
import Derived.Test.YtanegkchnleccaaGreatDoorPA
import Derived.Test.YtanegkchnleccaaGreatDoorAm35
import Derived.Test.YtanegkchnleccaaGreatDoorAm31
/-
  Communities, plainly: rising lists, bytes in pieces, what is decoded.
-/
namespace Go.Am

section
variable {α : Type} {c : α → α → Int}
/-- Each below the next. -/
def adjB (c : α → α → Int) : List α → Bool
  | a :: b :: l => decide (c a b < 0) && adjB c (b :: l)
  | _ => true
theorem adjB_iff : ∀ l : List α, adjB c l = true ↔ ∀ k (h : k + 1 < l.length), c l[k] l[k + 1] < 0
  | [] => by simp [adjB]
  | [a] => by simp [adjB]
  | a :: b :: l => by
    rw [adjB, Bool.and_eq_true, decide_eq_true_eq, adjB_iff (b :: l)]
    constructor
    · rintro ⟨h1, h2⟩ k hk
      cases k with
      | zero => exact h1
      | succ k => exact h2 k (by simpa using hk)
    · intro h
      exact ⟨h 0 (by simp), fun k hk => h (k + 1) (by simpa using hk)⟩
theorem adjB_rise (o : Ordr c) : ∀ l : List α, adjB c l = true ↔ Rise c l
  | [] => by simp [adjB, Rise]
  | [a] => by simp [adjB, Rise]
  | a :: b :: l => by
    rw [adjB, Bool.and_eq_true, decide_eq_true_eq, adjB_rise o (b :: l)]
    unfold Rise
    rw [List.pairwise_cons (a := a)]
    constructor
    · rintro ⟨h1, h2⟩
      refine ⟨fun x hx => ?_, h2⟩
      rcases List.mem_cons.1 hx with rfl | hx
      · exact h1
      · exact o.down _ _ _ h1 ((List.pairwise_cons.1 h2).1 x hx)
    · rintro ⟨h1, h2⟩
      exact ⟨h1 b (by simp), h2⟩
/-- A text in pieces of 'k' bytes. -/
def chop (k : Nat) (f : List UInt8 → α) : Nat → List UInt8 → List α
  | 0, _ => []
  | n + 1, s => f (s.take k) :: chop k f n (s.drop k)
theorem chop_len (k : Nat) (f : List UInt8 → α) : ∀ n s, (chop k f n s).length = n
  | 0, _ => rfl
  | n + 1, s => by rw [chop, List.length_cons, chop_len k f n]
theorem chop_snoc (k : Nat) (f : List UInt8 → α) : ∀ n s, chop k f (n + 1) s = chop k f n s ++ [f ((s.drop (n * k)).take k)]
  | 0, s => by simp [chop]
  | n + 1, s => by
    rw [chop, chop_snoc k f n, chop, List.cons_append, List.drop_drop, Nat.add_mul, Nat.one_mul, Nat.add_comm k]
theorem chop_at (k : Nat) (f : List UInt8 → α) : ∀ n s i (h : i < n), (chop k f n s)[i]'(by rw [chop_len]; exact h) = f ((s.drop (i * k)).take k)
  | n + 1, s, 0, _ => by simp [chop]
  | n + 1, s, i + 1, h => by
    simp only [chop, List.getElem_cons_succ]
    rw [chop_at k f n (s.drop k) i (by omega), List.drop_drop, Nat.add_mul, Nat.one_mul, Nat.add_comm k]
theorem chop_flat (k : Nat) (f : List UInt8 → α) (g : α → List UInt8) (hg : ∀ x, (g x).length = k) : ∀ l : List α, chop k f l.length (l.flatMap g) = l.map fun x => f (g x)
  | [] => rfl
  | x :: l => by
    have e1 : ((x :: l).flatMap g).take k = g x := by rw [List.flatMap_cons, List.take_left' (hg x)]
    have e2 : ((x :: l).flatMap g).drop k = l.flatMap g := by rw [List.flatMap_cons, List.drop_left' (hg x)]
    rw [List.length_cons, chop, e1, e2, chop_flat k f g hg l, List.map_cons]
theorem flatMap_len (k : Nat) (g : α → List UInt8) (hg : ∀ x, (g x).length = k) : ∀ l : List α, (l.flatMap g).length = l.length * k
  | [] => by simp
  | x :: l => by rw [List.flatMap_cons, List.length_append, hg, flatMap_len k g hg l, List.length_cons, Nat.add_mul]; omega
/-- An append at the end of a prefix. -/
theorem flatMap_take (g : α → List UInt8) (l : List α) {i : Nat} (h : i < l.length) : (l.take (i + 1)).flatMap g = (l.take i).flatMap g ++ g l[i] := by
  rw [List.take_add_one, List.getElem?_eq_getElem h, List.flatMap_append]
  simp only [Option.toList_some, List.flatMap_cons, List.flatMap_nil, List.append_nil]
variable [DecidableEq α]
theorem foldl_put_len (c : α → α → Int) : ∀ (m l : List α), l.length ≤ (m.foldl (putL c) l).length
  | [], l => Nat.le_refl _
  | x :: m, l => by
    have h1 := foldl_put_len c m (putL c l x)
    have h2 : l.length ≤ (putL c l x).length := by
      unfold putL
      simp only
      split
      · exact Nat.le_refl _
      · have := spot_le (c := c) x l l.length
        simp only [List.length_append, List.length_take, List.length_cons, List.length_drop]; omega
    rw [List.foldl_cons]; omega
theorem puts_take_len (c : α → α → Int) (l : List α) (i : Nat) : (putsL c (l.take i)).length ≤ (putsL c l).length := by
  have : putsL c l = (l.drop i).foldl (putL c) (putsL c (l.take i)) := by
    unfold putsL
    rw [← List.foldl_append, List.take_append_drop]
  rw [this]
  exact foldl_put_len c _ _
theorem puts_snoc (c : α → α → Int) (l : List α) {i : Nat} (h : i < l.length) : putsL c (l.take (i + 1)) = putL c (putsL c (l.take i)) l[i] := by
  unfold putsL
  rw [List.take_add_one, List.getElem?_eq_getElem h, List.foldl_append]; rfl
/-- What is decoded: nothing, with the answer's number; or the list. -/
def decLc (c : α → α → Int) (k : Nat) (f : List UInt8 → α) (s : List UInt8) : List α × Int :=
  if s.length = 0 ∨ s.length % k ≠ 0 then ([], 4) else
  let l := putsL c (chop k f (s.length / k) s)
  if 64 < l.length then ([], 3) else (l, 0)
end

/-! ### The three kinds -/
abbrev Lg := Nat × Nat × Nat
def cP (x : Nat) : List V := [.int .u32 x]
def cX (x : Nat) : List V := [.int .u64 x]
def cL (x : Lg) : List V := [.int .u32 x.1, .int .u32 x.2.1, .int .u32 x.2.2]
def oN (a b : Nat) : Int := cmpI a b
def oL (a b : Lg) : Int := orI (cmpI a.1 b.1) (orI (cmpI a.2.1 b.2.1) (cmpI a.2.2 b.2.2))
theorem ordr_n : Ordr oN := ordr_int.on (fun x : Nat => (x : Int))
theorem ordr_l : Ordr oL := (ordr_int.on (fun x : Lg => (x.1 : Int))).or ((ordr_int.on (fun x : Lg => (x.2.1 : Int))).or (ordr_int.on (fun x : Lg => (x.2.2 : Int))))
theorem oN_eq (a b : Nat) (h : oN a b = 0) : a = b := by unfold oN at h; rw [cmpI_zero] at h; omega
theorem oL_eq (a b : Lg) (h : oL a b = 0) : a = b := by
  unfold oL at h
  rw [orI_eq, orI_eq, cmpI_zero, cmpI_zero, cmpI_zero] at h
  obtain ⟨a1, a2, a3⟩ := a
  obtain ⟨b1, b2, b3⟩ := b
  simp only [Prod.mk.injEq]
  simp only at h
  omega
def bP (x : Nat) : List UInt8 := be 4 x
def bX (x : Nat) : List UInt8 := be 4 (x / 4294967296) ++ be 4 x
def bL (x : Lg) : List UInt8 := be 4 x.1 ++ be 4 x.2.1 ++ be 4 x.2.2
def fP (s : List UInt8) : Nat := val s
def fX (s : List UInt8) : Nat := val (s.take 4) * 4294967296 + val (s.drop 4)
def fL (s : List UInt8) : Lg := (val (s.take 4), val ((s.drop 4).take 4), val (s.drop 8))
theorem bP_len (x : Nat) : (bP x).length = 4 := be_len _ _
theorem bX_len (x : Nat) : (bX x).length = 8 := by simp [bX, be_len]
theorem bL_len (x : Lg) : (bL x).length = 12 := by simp [bL, be_len]
end Go.Am

/-
  Contracts: comparisons, put, what lays one, Four, what two are apart.
-/
namespace Go.Am
open Go.Proofs

set_option maxRecDepth 100000
def cmp32P_c : List V → Option V
  | [.int .u32 a, .int .u32 b] => some (.int .i64 (cmpI a b))
  | _ => none
theorem plain1_c {P : Program} {k : Nat} {fn : List V → Option V} (c : ∀ vals v, fn vals = some v → ∀ h, Pure P k vals h v) : ∀ p ∈ [(k, fn)], ∀ vals v, p.2 vals = some v → ∀ h, Acalls P p.1 vals h fun u h' => u = v ∧ h' = h := by
  intro p hp vals v e h
  rw [List.mem_singleton] at hp
  subst hp
  exact c vals v e h _ ⟨rfl, rfl⟩
theorem fd24 (n : Nat) : ((n : Nat) : Int).fdiv (2 ^ min 24 IntKind.u32.bits) = (n : Int) / 16777216 := Int.fdiv_eq_ediv_of_nonneg _ (by decide)
theorem fd16 (n : Nat) : ((n : Nat) : Int).fdiv (2 ^ min 16 IntKind.u32.bits) = (n : Int) / 65536 := Int.fdiv_eq_ediv_of_nonneg _ (by decide)
theorem fd8 (n : Nat) : ((n : Nat) : Int).fdiv (2 ^ min 8 IntKind.u32.bits) = (n : Int) / 256 := Int.fdiv_eq_ediv_of_nonneg _ (by decide)
/-- A number's low byte. -/
theorem lowb {z : Int} {m : Nat} (h : z = (m : Int)) : ∃ b : UInt8, b = UInt8.ofNat m ∧ IntKind.u8.wrap z = (b.toNat : Int) := ⟨_, rfl, by subst h; simp [IntKind.wrap, IntKind.bits, IntKind.signed]⟩
theorem u8n (b : UInt8) : u8Of (.int .u8 (b.toNat : Int)) = some b := by simp [u8Of]
theorem be1 (n : Nat) : be 1 n = [UInt8.ofNat n] := by simp [be]
theorem be3 (n : Nat) : be 3 n = [UInt8.ofNat (n / 65536), UInt8.ofNat (n / 256), UInt8.ofNat n] := by simp [be]
theorem be4 (n : Nat) : be 4 n = [UInt8.ofNat (n / 16777216), UInt8.ofNat (n / 65536), UInt8.ofNat (n / 256), UInt8.ofNat n] := by simp [be]
theorem fd32 (n : Nat) : ((n : Nat) : Int).fdiv (2 ^ min 32 IntKind.u64.bits) = (n : Int) / 4294967296 := Int.fdiv_eq_ediv_of_nonneg _ (by decide)
theorem be8 (n : Nat) : be 8 n = be 4 (n / 4294967296) ++ be 4 n := by
  simp [be, Nat.div_div_eq_div_mul]
theorem ofNat_mod {a b : Nat} (h : a % 256 = b % 256) : UInt8.ofNat a = UInt8.ofNat b := UInt8.toNat_inj.1 (by simpa using h)
theorem be4_mod (n : Nat) : be 4 (n % 4294967296) = be 4 n := by
  simp only [be4, List.cons.injEq, and_true]
  exact ⟨ofNat_mod (by omega), ofNat_mod (by omega), ofNat_mod (by omega), ofNat_mod (by omega)⟩
end Go.Am

/-
  The reference's Four.
-/
namespace Go.Am
open Go.Proofs

set_option maxRecDepth 100000
theorem four_ct {h : H} {n : Nat} : Pure Tryz.prog 50 [.int .u32 (n : Nat)] h (.str (be 4 n)) := by
  refine pure_to Tryz.func50 S.Href05_Four_code S.Href05_Four_enter rfl (Nat.le_of_ble_eq_true rfl) fun wf => ?_; simp only [S.Href05_Four]
  have r4 : repCells 4 [V.int .u8 0] = [.int .u8 0, .int .u8 0, .int .u8 0, .int .u8 0] := rfl
  obtain ⟨b1, h1, w1⟩ := lowb (z := (n : Int) / 16777216) (m := n / 16777216) (by omega)
  obtain ⟨b2, h2, w2⟩ := lowb (z := (n : Int) / 65536) (m := n / 65536) (by omega)
  obtain ⟨b3, h3, w3⟩ := lowb (z := (n : Int) / 256) (m := n / 256) (by omega)
  obtain ⟨b4, h4, w4⟩ := lowb (z := (n : Int)) (m := n) rfl
  rw [be4, ← h1, ← h2, ← h3, ← h4]
  simp [fd24, fd16, fd8, r4, w1, w2, w3, w4, elemsV_sl, u8n]
def fourP : List V → Option V
  | [.int .u32 x] => if 0 ≤ x then some (.str (be 4 x.toNat)) else none
  | _ => none
theorem fourP_eq (n : Nat) : fourP [.int .u32 (n : Int)] = some (.str (be 4 n)) := by simp [fourP]
theorem fourP_ok : ∀ vals v, fourP vals = some v → ∀ h, Pure Tryz.prog 50 vals h v := by
  intro vals v e h
  unfold fourP at e
  split at e
  · rename_i x
    split at e
    · rename_i hx
      cases e
      obtain ⟨n, rfl⟩ : ∃ n : Nat, x = n := ⟨x.toNat, by omega⟩
      simp only [Int.toNat_natCast]
      exact four_ct
    · cases e
  · cases e

end Go.Am

/-
  The reference's: a number of four bytes.
-/
namespace Go.Am
open Go.Proofs

set_option maxRecDepth 100000
theorem or32 (k x b : Nat) (hb : b < 2 ^ k) (hv : x * 2 ^ k + b < 4294967296) {p q r : Int} (hp : p = ((x * 2 ^ k : Nat) : Int)) (hq : q = (b : Int)) (hr : r = ((x * 2 ^ k + b : Nat) : Int)) : intV .or .u32 p q = some (.int .u32 r) := by
  subst hp hq hr
  have hy : ∀ y : Nat, y < 4294967296 → (BitVec.ofInt 32 (y : Int)).toNat = y := fun y h => by simp; omega
  have h1 := hy (x * 2 ^ k) (by omega)
  have h2 := hy b (by omega)
  have h3 : (BitVec.ofInt 32 ((x * 2 ^ k : Nat) : Int) ||| BitVec.ofInt 32 (b : Int)).toNat = x * 2 ^ k + b := by
    rw [BitVec.toNat_or, h1, h2, Nat.mul_comm x, ← Nat.two_pow_add_eq_or_of_lt hb]
  show some (V.int .u32 (IntKind.u32.wrap ((BitVec.ofInt 32 ((x * 2 ^ k : Nat) : Int) ||| BitVec.ofInt 32 (b : Int)).toNat : Int))) = _
  rw [h3]
  congr 2
  simp only [IntKind.wrap, IntKind.bits, IntKind.signed, Bool.false_and, Bool.false_eq_true, if_false]
  omega
theorem u32w {n : Nat} {z : Int} (e : z = (n : Int)) (h : n < 4294967296) : IntKind.u32.wrap z = (n : Int) := by subst e; simp [IntKind.wrap, IntKind.bits, IntKind.signed]; omega
theorem num_ct {h : H} {s : List UInt8} (hs : 4 ≤ s.length) : Pure Tryz.prog 45 [.str s] h (.int .u32 (val (s.take 4) : Nat)) := by
  refine pure_to Tryz.func45 S.Href05_Number_code S.Href05_Number_enter rfl (Nat.le_of_ble_eq_true rfl) fun wf => ?_; simp only [S.Href05_Number]
  match s, hs with
  | b0 :: b1 :: b2 :: b3 :: r, _ =>
    have hv : val ((b0 :: b1 :: b2 :: b3 :: r).take 4) = b0.toNat * 16777216 + b1.toNat * 65536 + b2.toNat * 256 + b3.toNat := by
      simp [val]; omega
    rw [hv]
    have l0 := b0.toNat_lt
    have l1 := b1.toNat_lt
    have l2 := b2.toNat_lt
    have l3 := b3.toNat_lt
    obtain ⟨n0, e0⟩ : ∃ n, n = b0.toNat := ⟨_, rfl⟩
    obtain ⟨n1, e1⟩ : ∃ n, n = b1.toNat := ⟨_, rfl⟩
    obtain ⟨n2, e2⟩ : ∃ n, n = b2.toNat := ⟨_, rfl⟩
    obtain ⟨n3, e3⟩ : ∃ n, n = b3.toNat := ⟨_, rfl⟩
    rw [← e0] at l0
    rw [← e1] at l1
    rw [← e2] at l2
    rw [← e3] at l3
    rw [← e0, ← e1, ← e2, ← e3]
    obtain ⟨p1, hp1⟩ : ∃ p : Int, p = ((n0 * 16777216 : Nat) : Int) := ⟨_, rfl⟩
    obtain ⟨p2, hp2⟩ : ∃ p : Int, p = ((n1 * 65536 : Nat) : Int) := ⟨_, rfl⟩
    obtain ⟨p3, hp3⟩ : ∃ p : Int, p = ((n2 * 256 : Nat) : Int) := ⟨_, rfl⟩
    obtain ⟨q1, hq1⟩ : ∃ p : Int, p = ((n0 * 16777216 + n1 * 65536 : Nat) : Int) := ⟨_, rfl⟩
    obtain ⟨q2, hq2⟩ : ∃ p : Int, p = ((n0 * 16777216 + n1 * 65536 + n2 * 256 : Nat) : Int) := ⟨_, rfl⟩
    obtain ⟨q3, hq3⟩ : ∃ p : Int, p = ((n0 * 16777216 + n1 * 65536 + n2 * 256 + n3 : Nat) : Int) := ⟨_, rfl⟩
    have s1 : IntKind.u32.wrap ((n0 : Int) * 2 ^ min 24 IntKind.u32.bits) = p1 := by rw [hp1]; exact u32w (by rw [show min 24 IntKind.u32.bits = 24 from rfl]; omega) (by omega)
    have s2 : IntKind.u32.wrap ((n1 : Int) * 2 ^ min 16 IntKind.u32.bits) = p2 := by rw [hp2]; exact u32w (by rw [show min 16 IntKind.u32.bits = 16 from rfl]; omega) (by omega)
    have s3 : IntKind.u32.wrap ((n2 : Int) * 2 ^ min 8 IntKind.u32.bits) = p3 := by rw [hp3]; exact u32w (by rw [show min 8 IntKind.u32.bits = 8 from rfl]; omega) (by omega)
    have o1 : intV .or .u32 p1 p2 = some (.int .u32 q1) := or32 24 n0 (n1 * 65536) (by omega) (by omega) hp1 hp2 hq1
    have o2 : intV .or .u32 q1 p3 = some (.int .u32 q2) := or32 16 (n0 * 256 + n1) (n2 * 256) (by omega) (by omega) (by rw [hq1]; omega) hp3 (by rw [hq2]; omega)
    have o3 : intV .or .u32 q2 (n3 : Int) = some (.int .u32 q3) := or32 8 (n0 * 65536 + n1 * 256 + n2) n3 (by omega) (by omega) (by rw [hq2]; omega) rfl (by rw [hq3]; omega)
    have c0 : IntKind.u32.wrap (n0 : Int) = n0 := u32w rfl (by omega)
    have c1 : IntKind.u32.wrap (n1 : Int) = n1 := u32w rfl (by omega)
    have c2 : IntKind.u32.wrap (n2 : Int) = n2 := u32w rfl (by omega)
    have c3 : IntKind.u32.wrap (n3 : Int) = n3 := u32w rfl (by omega)
    rw [← hq3]
    clear hp1 hp2 hp3 hq1 hq2 hq3
    simp
    refine dreg_of ?_
    simp [← e0, ← e1, ← e2, ← e3, c0, c1, c2, c3, s1, s2, s3, o1, o2, o3]
end Go.Am
