/-
  Communities, plainly: rising lists, bytes in pieces, what is decoded.
-/
import Derived.Test.YtfbmffkgphgoaaaDoorNW
import Derived.Test.YtfbmffkgphgoaaaDoorAm35
namespace Go.Am

section
variable {α : Type} {c : α → α → Int}
/-- Each below the next. -/
def adjB (c : α → α → Int) : List α → Bool
  | a :: b :: l => decide (c a b < 0) && adjB c (b :: l)
  | _ => true
theorem adjB_iff : ∀ l : List α, adjB c l = true ↔ ∀ k (h : k + 1 < l.length), c l[k] l[k + 1] < 0
  | [] => by simp [adjB]
  | [a] => by simp [adjB]
  | a :: b :: l => by
    rw [adjB, Bool.and_eq_true, decide_eq_true_eq, adjB_iff (b :: l)]
    constructor
    · rintro ⟨h1, h2⟩ k hk
      cases k with
      | zero => exact h1
      | succ k => exact h2 k (by simpa using hk)
    · intro h
      exact ⟨h 0 (by simp), fun k hk => h (k + 1) (by simpa using hk)⟩
theorem adjB_rise (o : Ordr c) : ∀ l : List α, adjB c l = true ↔ Rise c l
  | [] => by simp [adjB, Rise]
  | [a] => by simp [adjB, Rise]
  | a :: b :: l => by
    rw [adjB, Bool.and_eq_true, decide_eq_true_eq, adjB_rise o (b :: l)]
    unfold Rise
    rw [List.pairwise_cons (a := a)]
    constructor
    · rintro ⟨h1, h2⟩
      refine ⟨fun x hx => ?_, h2⟩
      rcases List.mem_cons.1 hx with rfl | hx
      · exact h1
      · exact o.down _ _ _ h1 ((List.pairwise_cons.1 h2).1 x hx)
    · rintro ⟨h1, h2⟩
      exact ⟨h1 b (by simp), h2⟩
/-- A text in pieces of 'k' bytes. -/
def chop (k : Nat) (f : List UInt8 → α) : Nat → List UInt8 → List α
  | 0, _ => []
  | n + 1, s => f (s.take k) :: chop k f n (s.drop k)
theorem chop_len (k : Nat) (f : List UInt8 → α) : ∀ n s, (chop k f n s).length = n
  | 0, _ => rfl
  | n + 1, s => by rw [chop, List.length_cons, chop_len k f n]
theorem chop_snoc (k : Nat) (f : List UInt8 → α) : ∀ n s, chop k f (n + 1) s = chop k f n s ++ [f ((s.drop (n * k)).take k)]
  | 0, s => by simp [chop]
  | n + 1, s => by
    rw [chop, chop_snoc k f n, chop, List.cons_append, List.drop_drop, Nat.add_mul, Nat.one_mul, Nat.add_comm k]
theorem chop_at (k : Nat) (f : List UInt8 → α) : ∀ n s i (h : i < n), (chop k f n s)[i]'(by rw [chop_len]; exact h) = f ((s.drop (i * k)).take k)
  | n + 1, s, 0, _ => by simp [chop]
  | n + 1, s, i + 1, h => by
    simp only [chop, List.getElem_cons_succ]
    rw [chop_at k f n (s.drop k) i (by omega), List.drop_drop, Nat.add_mul, Nat.one_mul, Nat.add_comm k]
theorem chop_flat (k : Nat) (f : List UInt8 → α) (g : α → List UInt8) (hg : ∀ x, (g x).length = k) : ∀ l : List α, chop k f l.length (l.flatMap g) = l.map fun x => f (g x)
  | [] => rfl
  | x :: l => by
    have e1 : ((x :: l).flatMap g).take k = g x := by rw [List.flatMap_cons, List.take_left' (hg x)]
    have e2 : ((x :: l).flatMap g).drop k = l.flatMap g := by rw [List.flatMap_cons, List.drop_left' (hg x)]
    rw [List.length_cons, chop, e1, e2, chop_flat k f g hg l, List.map_cons]
theorem flatMap_len (k : Nat) (g : α → List UInt8) (hg : ∀ x, (g x).length = k) : ∀ l : List α, (l.flatMap g).length = l.length * k
  | [] => by simp
  | x :: l => by rw [List.flatMap_cons, List.length_append, hg, flatMap_len k g hg l, List.length_cons, Nat.add_mul]; omega
/-- An append at the end of a prefix. -/
theorem flatMap_take (g : α → List UInt8) (l : List α) {i : Nat} (h : i < l.length) : (l.take (i + 1)).flatMap g = (l.take i).flatMap g ++ g l[i] := by
  rw [List.take_add_one, List.getElem?_eq_getElem h, List.flatMap_append]
  simp only [Option.toList_some, List.flatMap_cons, List.flatMap_nil, List.append_nil]
variable [DecidableEq α]
theorem foldl_put_len (c : α → α → Int) : ∀ (m l : List α), l.length ≤ (m.foldl (putL c) l).length
  | [], l => Nat.le_refl _
  | x :: m, l => by
    have h1 := foldl_put_len c m (putL c l x)
    have h2 : l.length ≤ (putL c l x).length := by
      unfold putL
      simp only
      split
      · exact Nat.le_refl _
      · have := spot_le (c := c) x l l.length
        simp only [List.length_append, List.length_take, List.length_cons, List.length_drop]; omega
    rw [List.foldl_cons]; omega
theorem puts_take_len (c : α → α → Int) (l : List α) (i : Nat) : (putsL c (l.take i)).length ≤ (putsL c l).length := by
  have : putsL c l = (l.drop i).foldl (putL c) (putsL c (l.take i)) := by
    unfold putsL
    rw [← List.foldl_append, List.take_append_drop]
  rw [this]
  exact foldl_put_len c _ _
theorem puts_snoc (c : α → α → Int) (l : List α) {i : Nat} (h : i < l.length) : putsL c (l.take (i + 1)) = putL c (putsL c (l.take i)) l[i] := by
  unfold putsL
  rw [List.take_add_one, List.getElem?_eq_getElem h, List.foldl_append]; rfl
/-- What is decoded: nothing, with the answer's number; or the list. -/
def decL (c : α → α → Int) (k : Nat) (f : List UInt8 → α) (s : List UInt8) : List α × Int :=
  if s.length = 0 ∨ s.length % k ≠ 0 then ([], 4) else
  let l := putsL c (chop k f (s.length / k) s)
  if 64 < l.length then ([], 3) else (l, 0)
end

/-! ### The three kinds -/
abbrev Lg := Nat × Nat × Nat
def cP (x : Nat) : List V := [.int .u32 x]
def cX (x : Nat) : List V := [.int .u64 x]
def cL (x : Lg) : List V := [.int .u32 x.1, .int .u32 x.2.1, .int .u32 x.2.2]
def oN (a b : Nat) : Int := cmpI a b
def oL (a b : Lg) : Int := orI (cmpI a.1 b.1) (orI (cmpI a.2.1 b.2.1) (cmpI a.2.2 b.2.2))
theorem ordr_n : Ordr oN := ordr_int.on (fun x : Nat => (x : Int))
theorem ordr_l : Ordr oL := (ordr_int.on (fun x : Lg => (x.1 : Int))).or ((ordr_int.on (fun x : Lg => (x.2.1 : Int))).or (ordr_int.on (fun x : Lg => (x.2.2 : Int))))
theorem oN_eq (a b : Nat) (h : oN a b = 0) : a = b := by unfold oN at h; rw [cmpI_zero] at h; omega
theorem oL_eq (a b : Lg) (h : oL a b = 0) : a = b := by
  unfold oL at h
  rw [orI_eq, orI_eq, cmpI_zero, cmpI_zero, cmpI_zero] at h
  obtain ⟨a1, a2, a3⟩ := a
  obtain ⟨b1, b2, b3⟩ := b
  simp only [Prod.mk.injEq]
  simp only at h
  omega
def bP (x : Nat) : List UInt8 := be 4 x
def bX (x : Nat) : List UInt8 := be 4 (x / 4294967296) ++ be 4 x
def bL (x : Lg) : List UInt8 := be 4 x.1 ++ be 4 x.2.1 ++ be 4 x.2.2
def fP (s : List UInt8) : Nat := val s
def fX (s : List UInt8) : Nat := val (s.take 4) * 4294967296 + val (s.drop 4)
def fL (s : List UInt8) : Lg := (val (s.take 4), val ((s.drop 4).take 4), val (s.drop 8))
theorem bP_len (x : Nat) : (bP x).length = 4 := be_len _ _
theorem bX_len (x : Nat) : (bX x).length = 8 := by simp [bX, be_len]
theorem bL_len (x : Lg) : (bL x).length = 12 := by simp [bL, be_len]
end Go.Am
