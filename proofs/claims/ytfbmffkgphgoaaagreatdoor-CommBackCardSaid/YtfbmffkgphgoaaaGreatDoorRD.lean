/-
  C0, RA, in one text.
-/
import Derived.Test.YtfbmffkgphgoaaaGreatDoorNW
import Derived.Test.YtfbmffkgphgoaaaGreatDoorAm35
import Derived.Test.YtfbmffkgphgoaaaGreatDoorAm31
import Derived.Test.YtfbmffkgphgoaaaGreatDoorAm37
/-
  Communities, plainly: rising lists, bytes in pieces, what is decoded.
-/
namespace Go.Am

section
variable {α : Type} {c : α → α → Int}
/-- Each below the next. -/
def adjB (c : α → α → Int) : List α → Bool
  | a :: b :: l => decide (c a b < 0) && adjB c (b :: l)
  | _ => true
theorem adjB_iff : ∀ l : List α, adjB c l = true ↔ ∀ k (h : k + 1 < l.length), c l[k] l[k + 1] < 0
  | [] => by simp [adjB]
  | [a] => by simp [adjB]
  | a :: b :: l => by
    rw [adjB, Bool.and_eq_true, decide_eq_true_eq, adjB_iff (b :: l)]
    constructor
    · rintro ⟨h1, h2⟩ k hk
      cases k with
      | zero => exact h1
      | succ k => exact h2 k (by simpa using hk)
    · intro h
      exact ⟨h 0 (by simp), fun k hk => h (k + 1) (by simpa using hk)⟩
theorem adjB_rise (o : Ordr c) : ∀ l : List α, adjB c l = true ↔ Rise c l
  | [] => by simp [adjB, Rise]
  | [a] => by simp [adjB, Rise]
  | a :: b :: l => by
    rw [adjB, Bool.and_eq_true, decide_eq_true_eq, adjB_rise o (b :: l)]
    unfold Rise
    rw [List.pairwise_cons (a := a)]
    constructor
    · rintro ⟨h1, h2⟩
      refine ⟨fun x hx => ?_, h2⟩
      rcases List.mem_cons.1 hx with rfl | hx
      · exact h1
      · exact o.down _ _ _ h1 ((List.pairwise_cons.1 h2).1 x hx)
    · rintro ⟨h1, h2⟩
      exact ⟨h1 b (by simp), h2⟩
/-- A text in pieces of 'k' bytes. -/
def chop (k : Nat) (f : List UInt8 → α) : Nat → List UInt8 → List α
  | 0, _ => []
  | n + 1, s => f (s.take k) :: chop k f n (s.drop k)
theorem chop_len (k : Nat) (f : List UInt8 → α) : ∀ n s, (chop k f n s).length = n
  | 0, _ => rfl
  | n + 1, s => by rw [chop, List.length_cons, chop_len k f n]
theorem chop_snoc (k : Nat) (f : List UInt8 → α) : ∀ n s, chop k f (n + 1) s = chop k f n s ++ [f ((s.drop (n * k)).take k)]
  | 0, s => by simp [chop]
  | n + 1, s => by
    rw [chop, chop_snoc k f n, chop, List.cons_append, List.drop_drop, Nat.add_mul, Nat.one_mul, Nat.add_comm k]
theorem chop_at (k : Nat) (f : List UInt8 → α) : ∀ n s i (h : i < n), (chop k f n s)[i]'(by rw [chop_len]; exact h) = f ((s.drop (i * k)).take k)
  | n + 1, s, 0, _ => by simp [chop]
  | n + 1, s, i + 1, h => by
    simp only [chop, List.getElem_cons_succ]
    rw [chop_at k f n (s.drop k) i (by omega), List.drop_drop, Nat.add_mul, Nat.one_mul, Nat.add_comm k]
theorem chop_flat (k : Nat) (f : List UInt8 → α) (g : α → List UInt8) (hg : ∀ x, (g x).length = k) : ∀ l : List α, chop k f l.length (l.flatMap g) = l.map fun x => f (g x)
  | [] => rfl
  | x :: l => by
    have e1 : ((x :: l).flatMap g).take k = g x := by rw [List.flatMap_cons, List.take_left' (hg x)]
    have e2 : ((x :: l).flatMap g).drop k = l.flatMap g := by rw [List.flatMap_cons, List.drop_left' (hg x)]
    rw [List.length_cons, chop, e1, e2, chop_flat k f g hg l, List.map_cons]
theorem flatMap_len (k : Nat) (g : α → List UInt8) (hg : ∀ x, (g x).length = k) : ∀ l : List α, (l.flatMap g).length = l.length * k
  | [] => by simp
  | x :: l => by rw [List.flatMap_cons, List.length_append, hg, flatMap_len k g hg l, List.length_cons, Nat.add_mul]; omega
/-- An append at the end of a prefix. -/
theorem flatMap_take (g : α → List UInt8) (l : List α) {i : Nat} (h : i < l.length) : (l.take (i + 1)).flatMap g = (l.take i).flatMap g ++ g l[i] := by
  rw [List.take_add_one, List.getElem?_eq_getElem h, List.flatMap_append]
  simp only [Option.toList_some, List.flatMap_cons, List.flatMap_nil, List.append_nil]
variable [DecidableEq α]
theorem foldl_put_len (c : α → α → Int) : ∀ (m l : List α), l.length ≤ (m.foldl (putL c) l).length
  | [], l => Nat.le_refl _
  | x :: m, l => by
    have h1 := foldl_put_len c m (putL c l x)
    have h2 : l.length ≤ (putL c l x).length := by
      unfold putL
      simp only
      split
      · exact Nat.le_refl _
      · have := spot_le (c := c) x l l.length
        simp only [List.length_append, List.length_take, List.length_cons, List.length_drop]; omega
    rw [List.foldl_cons]; omega
theorem puts_take_len (c : α → α → Int) (l : List α) (i : Nat) : (putsL c (l.take i)).length ≤ (putsL c l).length := by
  have : putsL c l = (l.drop i).foldl (putL c) (putsL c (l.take i)) := by
    unfold putsL
    rw [← List.foldl_append, List.take_append_drop]
  rw [this]
  exact foldl_put_len c _ _
theorem puts_snoc (c : α → α → Int) (l : List α) {i : Nat} (h : i < l.length) : putsL c (l.take (i + 1)) = putL c (putsL c (l.take i)) l[i] := by
  unfold putsL
  rw [List.take_add_one, List.getElem?_eq_getElem h, List.foldl_append]; rfl
/-- What is decoded: nothing, with the answer's number; or the list. -/
def decL (c : α → α → Int) (k : Nat) (f : List UInt8 → α) (s : List UInt8) : List α × Int :=
  if s.length = 0 ∨ s.length % k ≠ 0 then ([], 4) else
  let l := putsL c (chop k f (s.length / k) s)
  if 64 < l.length then ([], 3) else (l, 0)
end

/-! ### The three kinds -/
abbrev Lg := Nat × Nat × Nat
def cP (x : Nat) : List V := [.int .u32 x]
def cX (x : Nat) : List V := [.int .u64 x]
def cL (x : Lg) : List V := [.int .u32 x.1, .int .u32 x.2.1, .int .u32 x.2.2]
def oN (a b : Nat) : Int := cmpI a b
def oL (a b : Lg) : Int := orI (cmpI a.1 b.1) (orI (cmpI a.2.1 b.2.1) (cmpI a.2.2 b.2.2))
theorem ordr_n : Ordr oN := ordr_int.on (fun x : Nat => (x : Int))
theorem ordr_l : Ordr oL := (ordr_int.on (fun x : Lg => (x.1 : Int))).or ((ordr_int.on (fun x : Lg => (x.2.1 : Int))).or (ordr_int.on (fun x : Lg => (x.2.2 : Int))))
theorem oN_eq (a b : Nat) (h : oN a b = 0) : a = b := by unfold oN at h; rw [cmpI_zero] at h; omega
theorem oL_eq (a b : Lg) (h : oL a b = 0) : a = b := by
  unfold oL at h
  rw [orI_eq, orI_eq, cmpI_zero, cmpI_zero, cmpI_zero] at h
  obtain ⟨a1, a2, a3⟩ := a
  obtain ⟨b1, b2, b3⟩ := b
  simp only [Prod.mk.injEq]
  simp only at h
  omega
def bP (x : Nat) : List UInt8 := be 4 x
def bX (x : Nat) : List UInt8 := be 4 (x / 4294967296) ++ be 4 x
def bL (x : Lg) : List UInt8 := be 4 x.1 ++ be 4 x.2.1 ++ be 4 x.2.2
def fP (s : List UInt8) : Nat := val s
def fX (s : List UInt8) : Nat := val (s.take 4) * 4294967296 + val (s.drop 4)
def fL (s : List UInt8) : Lg := (val (s.take 4), val ((s.drop 4).take 4), val (s.drop 8))
theorem bP_len (x : Nat) : (bP x).length = 4 := be_len _ _
theorem bX_len (x : Nat) : (bX x).length = 8 := by simp [bX, be_len]
theorem bL_len (x : Lg) : (bL x).length = 12 := by simp [bL, be_len]
end Go.Am

/-
  C1, CL, CR0, CR1, CR3, in one text.
-/
namespace Go.Am
open Go.Proofs

set_option maxRecDepth 100000
theorem nan32_ct {h : H} {a : Int} : Pure Tryz.prog 58 [.int .u32 a] h (.bool false) := by
  refine pure_to Tryz.func58 S.cmp_isNaN_uint32_code S.cmp_isNaN_uint32_enter rfl (Nat.le_of_ble_eq_true rfl) fun wf => ?_; simp only [S.cmp_isNaN_uint32]
  simp
theorem nan64_ct {h : H} {a : Int} : Pure Tryz.prog 63 [.int .u64 a] h (.bool false) := by
  refine pure_to Tryz.func63 S.cmp_isNaN_uint64_code S.cmp_isNaN_uint64_enter rfl (Nat.le_of_ble_eq_true rfl) fun wf => ?_; simp only [S.cmp_isNaN_uint64]
  simp
theorem cmp32_ct {h : H} {a b : Int} : Pure Tryz.prog 27 [.int .u32 a, .int .u32 b] h (.int .i64 (cmpI a b)) := by
  refine pure_to Tryz.func27 S.cmp_Compare_uint32_code S.cmp_Compare_uint32_enter rfl (Nat.le_of_ble_eq_true rfl) fun wf => ?_; simp only [S.cmp_Compare_uint32]
  simp
  refine nan32_ct _ ?_
  simp
  refine nan32_ct _ ?_
  simp
  by_cases h1 : a < b
  · simp [h1, cmpI]
  · by_cases h2 : b < a <;> simp [h1, h2, cmpI]
theorem cmp64_ct {h : H} {a b : Int} : Pure Tryz.prog 32 [.int .u64 a, .int .u64 b] h (.int .i64 (cmpI a b)) := by
  refine pure_to Tryz.func32 S.cmp_Compare_uint64_code S.cmp_Compare_uint64_enter rfl (Nat.le_of_ble_eq_true rfl) fun wf => ?_; simp only [S.cmp_Compare_uint64]
  simp
  refine nan64_ct _ ?_
  simp
  refine nan64_ct _ ?_
  simp
  by_cases h1 : a < b
  · simp [h1, cmpI]
  · by_cases h2 : b < a <;> simp [h1, h2, cmpI]
theorem or3_ct {h : H} {q : Nat} {a b c : Int} (hq : h.get q = some (.row [.int .i64 a, .int .i64 b, .int .i64 c])) : Pure Tryz.prog 66 [.sl q 3 0 3 (some 3)] h (.int .i64 (orI a (orI b c))) := by
  refine pure_to Tryz.func66 S.cmp_Or_int_code S.cmp_Or_int_enter rfl (Nat.le_of_ble_eq_true rfl) fun wf => ?_; simp only [S.cmp_Or_int]
  have c1 : cellsAt h.get q 3 = some [.int .i64 a, .int .i64 b, .int .i64 c] := by rw [cellsAt_of hq (by rfl)]; rfl
  simp
  refine loop_up (fun i t h' => (t 3 = .int .i64 0 ∧ t 6 = .sl q 3 0 3 (some 3) ∧ t 7 = .int .i64 3 ∧ t 8 = .int .i64 (i : Nat)) ∧ h' = h ∧ (0 < i → a = 0) ∧ (1 < i → b = 0) ∧ (2 < i → c = 0)) 3 ⟨by simp, rfl, by omega, by omega, by omega⟩ ?_
  rintro i t h' hi ⟨⟨t3, t6, t7, t8⟩, rfl, k1, k2, k3⟩ K hK
  have w1 : IntKind.i64.wrap 1 = 1 := by decide
  have w2 : IntKind.i64.wrap 2 = 2 := by decide
  have w3 : IntKind.i64.wrap 3 = 3 := by decide
  rcases (by omega : i = 0 ∨ i = 1 ∨ i = 2 ∨ i = 3) with rfl | rfl | rfl | rfl
  · by_cases hz : a = 0
    · simp [t3, t6, t7, t8, c1, hz, w1]
      exact hK _ _ (by omega) ⟨by simp [t3, t6, t7], rfl, fun _ => hz, by omega, by omega⟩
    · have hb : (a != 0) = true := by simpa using hz
      simp [t3, t6, t7, t8, c1, hb, orI_nz hz]
  · have z1 := k1 (by omega)
    by_cases hz : b = 0
    · simp [t3, t6, t7, t8, c1, hz, w2]
      exact hK _ _ (by omega) ⟨by simp [t3, t6, t7], rfl, fun _ => z1, fun _ => hz, by omega⟩
    · have hb : (b != 0) = true := by simpa using hz
      simp [t3, t6, t7, t8, c1, hb, z1, orI_zero, orI_nz hz]
  · have z1 := k1 (by omega)
    have z2 := k2 (by omega)
    by_cases hz : c = 0
    · simp [t3, t6, t7, t8, c1, hz, w3]
      exact hK _ _ (by omega) ⟨by simp [t3, t6, t7], rfl, fun _ => z1, fun _ => z2, fun _ => hz⟩
    · have hb : (c != 0) = true := by simpa using hz
      simp [t3, t6, t7, t8, c1, hb, z1, z2, orI_zero]
  · have z1 := k1 (by omega)
    have z2 := k2 (by omega)
    have z3 := k3 (by omega)
    simp [t3, t7, t8, z1, z2, z3, orI_zero]
def cmp32P : List V → Option V
  | [.int .u32 a, .int .u32 b] => some (.int .i64 (cmpI a b))
  | _ => none
theorem cmp32P_ok : ∀ p ∈ [(27, cmp32P)], ∀ vals v, p.2 vals = some v → ∀ h, Acalls Tryz.prog p.1 vals h fun u h' => u = v ∧ h' = h := by
  intro p hp vals v e h
  simp only [List.mem_cons, List.not_mem_nil, or_false] at hp
  subst hp
  simp only [cmp32P] at e
  split at e
  · cases e; exact cmp32_ct _ ⟨rfl, rfl⟩
  · cases e
theorem larger_ct {h : H} {x y : Lg} : Pure Tryz.prog 35 [.agg (cL x), .agg (cL y)] h (.int .i64 (oL x y)) := by
  refine pure_to Tryz.func35 S.comm_larger_code S.comm_larger_enter rfl (Nat.le_of_ble_eq_true rfl) fun wf => ?_; simp only [S.comm_larger]
  obtain ⟨h2, hh2⟩ : ∃ h2, h2 = (h.push (.row (cL x))).push (.row (cL y)) := ⟨_, rfl⟩
  have g2 : Ge h h2 := by rw [hh2]; exact ((Ge.refl _).push _).push _
  have c1 : cellsAt h2.get h.next 3 = some (cL x) := by rw [hh2]; simp [cL]
  have c2 : cellsAt h2.get (h.next + 1) 3 = some (cL y) := by rw [hh2]; simp [cL]
  simp only [cL] at hh2 c1 c2
  simp [cL]
  rw [← hh2]
  have r3 : repCells 3 [V.int .i64 0] = [.int .i64 0, .int .i64 0, .int .i64 0] := rfl
  refine dreg_plain _ cmp32P_ok (by rfl) ?_
  simp [List.lookup, c1, c2, r3, cmp32P]
  refine scall_of (or3_ct (q := h2.next) (a := cmpI x.1 y.1) (b := cmpI x.2.1 y.2.1) (c := cmpI x.2.2 y.2.2) (by simp)) ?_
  simp [oL]
  exact g2.push _
theorem plain1 {P : Program} {k : Nat} {fn : List V → Option V} (c : ∀ vals v, fn vals = some v → ∀ h, Pure P k vals h v) : ∀ p ∈ [(k, fn)], ∀ vals v, p.2 vals = some v → ∀ h, Acalls P p.1 vals h fun u h' => u = v ∧ h' = h := by
  intro p hp vals v e h
  rw [List.mem_singleton] at hp
  subst hp
  exact c vals v e h _ ⟨rfl, rfl⟩
theorem fd24 (n : Nat) : ((n : Nat) : Int).fdiv (2 ^ min 24 IntKind.u32.bits) = (n : Int) / 16777216 := Int.fdiv_eq_ediv_of_nonneg _ (by decide)
theorem fd16 (n : Nat) : ((n : Nat) : Int).fdiv (2 ^ min 16 IntKind.u32.bits) = (n : Int) / 65536 := Int.fdiv_eq_ediv_of_nonneg _ (by decide)
theorem fd8 (n : Nat) : ((n : Nat) : Int).fdiv (2 ^ min 8 IntKind.u32.bits) = (n : Int) / 256 := Int.fdiv_eq_ediv_of_nonneg _ (by decide)
/-- A number's low byte. -/
theorem lowb {z : Int} {m : Nat} (h : z = (m : Int)) : ∃ b : UInt8, b = UInt8.ofNat m ∧ IntKind.u8.wrap z = (b.toNat : Int) := ⟨_, rfl, by subst h; simp [IntKind.wrap, IntKind.bits, IntKind.signed]⟩
theorem u8n (b : UInt8) : u8Of (.int .u8 (b.toNat : Int)) = some b := by simp [u8Of]
theorem be1 (n : Nat) : be 1 n = [UInt8.ofNat n] := by simp [be]
theorem be3 (n : Nat) : be 3 n = [UInt8.ofNat (n / 65536), UInt8.ofNat (n / 256), UInt8.ofNat n] := by simp [be]
theorem be4 (n : Nat) : be 4 n = [UInt8.ofNat (n / 16777216), UInt8.ofNat (n / 65536), UInt8.ofNat (n / 256), UInt8.ofNat n] := by simp [be]
theorem fd32 (n : Nat) : ((n : Nat) : Int).fdiv (2 ^ min 32 IntKind.u64.bits) = (n : Int) / 4294967296 := Int.fdiv_eq_ediv_of_nonneg _ (by decide)
theorem be8 (n : Nat) : be 8 n = be 4 (n / 4294967296) ++ be 4 n := by
  simp [be, Nat.div_div_eq_div_mul]
theorem ofNat_mod {a b : Nat} (h : a % 256 = b % 256) : UInt8.ofNat a = UInt8.ofNat b := UInt8.toNat_inj.1 (by simpa using h)
theorem be4_mod (n : Nat) : be 4 (n % 4294967296) = be 4 n := by
  simp only [be4, List.cons.injEq, and_true]
  exact ⟨ofNat_mod (by omega), ofNat_mod (by omega), ofNat_mod (by omega), ofNat_mod (by omega)⟩
/-- Several numbers of four bytes put. -/
theorem cput_ct {h : H} {v : V} {s : List UInt8} {l : List Nat} (hs : Sls h.get 1 v (l.map cP)) (hf : ∀ x ∈ l, x < 4294967296) (hl : s.length + l.length * 4 ≤ 100000) : Pure Tryz.prog 41 [.str s, v] h (.str (s ++ l.flatMap bP)) := by
  refine pure_to Tryz.func41 S.comm_put_code S.comm_put_enter rfl (Nat.le_of_ble_eq_true rfl) fun wf => ?_; simp only [S.comm_put]
  have hlen := hs.len
  simp at hlen
  simp [hlen]
  refine loop_up (fun i t h' => (t 0 = .str (s ++ (l.take i).flatMap bP) ∧ t 7 = v ∧ t 8 = .int .i64 l.length ∧ t 9 = .int .i64 (i : Nat)) ∧ h' = h) l.length ⟨by simp, rfl⟩ ?_
  rintro i t h' hi ⟨⟨t0, t7, t8, t9⟩, rfl⟩ K hK
  by_cases hlt : i < l.length
  · obtain ⟨p, qq, o, cs, e1, e2, e3⟩ := hs.at1 (f := fun x : Nat => V.int .u32 x) hlt
    have hw := wrap_succ hlt (by omega)
    have hx := hf _ (List.getElem_mem hlt)
    have w64 : IntKind.u64.wrap ((l[i] : Nat) : Int) = (l[i] : Nat) := u64_id (by omega)
    have hfl : ((l.take i).flatMap bP).length = i * 4 := by rw [flatMap_len 4 bP bP_len]; simp; omega
    simp [t0, t7, t8, t9, hlt, e1, e2, e3, w64]
    refine put_ct (size := 4) (by omega) (by omega) (by omega) (by rw [List.length_append, hfl]; omega) _ ?_
    simp [t9, hw]
    refine hK _ _ hlt ⟨by simp [t7, t8, flatMap_take bP l hlt, bP], rfl⟩
  · have : i = l.length := by omega
    subst this
    simp [t0, t8, t9]
end Go.Am

/-
  The reference's order of large ones.
-/
namespace Go.Am
open Go.Proofs

set_option maxRecDepth 100000
theorem less_iff (x y : Lg) : oL x y < 0 ↔ if x.1 = y.1 then (if x.2.1 = y.2.1 then x.2.2 < y.2.2 else x.2.1 < y.2.1) else x.1 < y.1 := by
  unfold oL orI cmpI
  by_cases e1 : x.1 = y.1
  · by_cases e2 : x.2.1 = y.2.1
    · simp only [e1, e2, Int.lt_irrefl, if_true, if_false]
      (repeat' split) <;> omega
    · simp only [e1, e2, Int.lt_irrefl, if_true, if_false]
      (repeat' split) <;> omega
  · simp only [e1, if_false]
    (repeat' split) <;> omega
theorem less_ct {h : H} {x y : Lg} : Pure Tryz.prog 37 [.agg (cL x), .agg (cL y)] h (.bool (decide (oL x y < 0))) := by
  refine pure_to Tryz.func37 S.Href05_less_code S.Href05_less_enter rfl (Nat.le_of_ble_eq_true rfl) fun wf => ?_; simp only [S.Href05_less]
  have li := less_iff x y
  simp [cL]
  by_cases e1 : x.1 = y.1
  · rw [if_pos e1] at li
    by_cases e2 : x.2.1 = y.2.1
    · rw [if_pos e2] at li
      simp [e1, e2, li]
    · have e2' : ((x.2.1 : Int) != (y.2.1 : Int)) = true := by simpa using (show ¬ (x.2.1 : Int) = y.2.1 by omega)
      rw [if_neg e2] at li
      simp [e1, e2', li]
  · have e1' : ((x.1 : Int) != (y.1 : Int)) = true := by simpa using (show ¬ (x.1 : Int) = y.1 by omega)
    rw [if_neg e1] at li
    simp [e1', li]
end Go.Am

/-
  Lists of numbers and of large ones, cell by cell (written by program, wip/comm/CR3.py).
-/
namespace Go.Am
open Go.Proofs

set_option maxRecDepth 100000
theorem compact_snoc {α : Type} [DecidableEq α] : ∀ (l : List α) (y x : α), compactL (l ++ [y, x]) = if y = x then compactL (l ++ [y]) else compactL (l ++ [y]) ++ [x]
  | [], y, x => by
    simp only [List.nil_append, compactL]
    split
    · rename_i e; subst e; rfl
    · rfl
  | [a], y, x => by
    simp only [List.cons_append, List.nil_append, compactL]
    by_cases h1 : a = y <;> by_cases h2 : y = x <;> simp [h1, h2]
  | a :: b :: l, y, x => by
    have ih := compact_snoc (b :: l) y x
    simp only [List.cons_append] at ih ⊢
    rw [compactL, compactL]
    split
    · exact ih
    · rw [ih]
      split <;> simp
theorem compact_at {α : Type} [DecidableEq α] (l : List α) {m : Nat} (h1 : 0 < m) (h2 : m < l.length) : compactL (l.take (m + 1)) = if l[m - 1] = l[m] then compactL (l.take m) else compactL (l.take m) ++ [l[m]] := by
  obtain ⟨k, rfl⟩ : ∃ k, m = k + 1 := ⟨m - 1, by omega⟩
  have e1 : l.take (k + 1) = l.take k ++ [l[k]] := by rw [List.take_add_one, List.getElem?_eq_getElem (by omega)]; rfl
  have e3 : l.take (k + 1 + 1) = l.take (k + 1) ++ l[k + 1]?.toList := List.take_add_one
  have e2 : l.take (k + 1 + 1) = l.take k ++ [l[k], l[k + 1]] := by
    rw [e3, e1, List.getElem?_eq_getElem h2, List.append_assoc]
    rfl
  rw [e2, compact_snoc, e1]
  rfl
theorem compact_len {α : Type} [DecidableEq α] : ∀ l : List α, (compactL l).length ≤ l.length
  | [] => Nat.le_refl _
  | [_] => Nat.le_refl _
  | a :: b :: l => by
    have ih := compact_len (b :: l)
    unfold compactL
    split
    · simp only [List.length_cons] at ih ⊢; omega
    · simp only [List.length_cons] at ih ⊢; omega

section
variable {α : Type} {sz : Nat} {c : α → List V} (hc : ∀ x, (c x).length = sz)
include hc
theorem map_lenc (l : List α) : ∀ e ∈ l.map c, e.length = sz := fun e he => by obtain ⟨n, _, rfl⟩ := List.mem_map.1 he; exact hc n
theorem flatc_set (l : List α) (t : Nat) (x : α) (ht : t < l.length) : putCells (l.map c).flatten (t * sz) (c x) = ((l.set t x).map c).flatten := by
  have hs := map_lenc hc l
  have e1 := flat_take hs t
  have e2 := flat_drop hs (t + 1)
  rw [List.set_eq_take_append_cons_drop, if_pos ht, List.map_append, List.map_cons, List.flatten_append, List.flatten_cons, List.map_take, List.map_drop, e1, e2]
  unfold putCells
  rw [show t * sz + (c x).length = (t + 1) * sz by rw [hc, Nat.add_mul]; omega, List.append_assoc]
theorem slsc_part {g : Nat → Option O} {j : Nat} {l : List α} (hg : g j = some (.grow sz (l.map c).flatten)) (hb : l.length < 9223372036854775808) (k : Nat) (hk : k ≤ l.length) : Sls g sz (.sl j (l.length * sz) (k * sz) (l.length - k) none) ((l.drop k).map c) := by
  have hfl := flat_len (map_lenc hc l)
  simp only [List.length_map] at hfl
  refine ⟨.inr ⟨j, l.length * sz, k * sz, none, by simp⟩, map_lenc hc _, ?_, by simp; omega⟩
  rw [elemsV_sl]
  split
  · rename_i h0; rw [List.drop_of_length_le (by omega)]; rfl
  · rename_i h0
    have hm : k * sz + (l.length - k) * sz = l.length * sz := by rw [← Nat.add_mul]; congr 1; omega
    rw [cellsAt_of hg (by simp [hfl])]
    simp only [cells_grow]
    rw [if_pos (by omega), List.length_map, List.length_drop, List.map_drop, flat_drop (map_lenc hc l), List.take_of_length_le (by rw [List.length_drop, hfl, Nat.sub_mul]; omega)]
theorem slsc_all {g : Nat → Option O} {j : Nat} {l : List α} (hg : g j = some (.grow sz (l.map c).flatten)) (hb : l.length < 9223372036854775808) : Sls g sz (.sl j (l.length * sz) 0 l.length none) (l.map c) := by
  have := slsc_part hc hg hb 0 (Nat.zero_le _)
  simpa using this
end
theorem cP_len (x : Nat) : (cP x).length = 1 := rfl
theorem cX_len (x : Nat) : (cX x).length = 1 := rfl
theorem cL_len (x : Lg) : (cL x).length = 3 := rfl
theorem cut_of {α : Type} {g : Nat → Option O} {sz : Nat} {v : V} {f : α → List V} {l : List α} (n : Nat) (hs : Sls g sz v (l.map f)) (hc : CapOk v) : ∃ v' k, ((if (n : Int) < (l.length : Int) then (n : Int) else (l.length : Int)) = ((k : Nat) : Int)) ∧ sliceSlV sz none (some (.int .i64 (k : Int))) none v = some v' ∧ Sls g sz v' ((l.take n).map f) ∧ CapOk v' := by
  obtain ⟨k, hk⟩ : ∃ k, k = min l.length n := ⟨_, rfl⟩
  have hk2 : (if (n : Int) < (l.length : Int) then (n : Int) else (l.length : Int)) = (k : Int) := by rw [hk]; split <;> omega
  obtain ⟨v', e1, s1, c1⟩ := hs.take hc (k := k) (by simp; omega) .i64
  have hlt : (l.map f).take k = (l.take n).map f := by
    rw [← List.map_take]; congr 1
    rw [hk]
    by_cases h60 : l.length ≤ n
    · rw [Nat.min_eq_left h60, List.take_of_length_le (Nat.le_refl _), List.take_of_length_le h60]
    · rw [Nat.min_eq_right (by omega)]
  rw [hlt] at s1
  exact ⟨v', k, hk2, e1, s1, c1⟩
end Go.Am

/-
  Reading one thing; comparing cells.
-/
namespace Go.Am
open Go.Proofs

set_option maxRecDepth 100000
theorem bq (x y : Int) : (x == y) = decide (x = y) := by by_cases h : x = y <;> simp [h]
theorem eqFs_cons {off sz : Nat} {agg : Bool} {ts : TS} {fs : List (Nat × Nat × Bool × TS)} {xs ys : List V} {x y : V} {b : Bool} (hx : partV agg off sz xs = some x) (hy : partV agg off sz ys = some y) (hb : eqV ts x y = some b) :
    eqFs ((off, sz, agg, ts) :: fs) xs ys = if b = true then eqFs fs xs ys else some false := by
  simp only [eqFs, hx, hy, hb]
  cases b <;> rfl
theorem eqV_int (k : IntKind) (a b : Int) : eqV .int (.int k a) (.int k b) = some (decide (a = b)) := by simp [eqV, bq]
theorem eqV_nat (k : IntKind) (a b : Nat) : eqV .int (.int k (a : Int)) (.int k (b : Int)) = some (decide (a = b)) := by
  rw [eqV_int]
  by_cases h : a = b
  · simp [h]
  · have : ¬ (a : Int) = b := by omega
    simp [h, this]
theorem ifs (a b : Bool) : (if a = true then some b else some false) = some (a && b) := by cases a <;> rfl

theorem loop_cut {body : (Exit → Tm → H → Prop) → Tm → H → Prop} {Q : Exit → Tm → H → Prop} {t : Tm} {h : H} {id : Nat} (J : Tm → H → Prop) (ha : ∀ R : Exit → Tm → H → Prop, (∀ t' h', J t' h' → R .normal t' h') → loopA body (blockA id R) t h) (k : ∀ t' h', J t' h' → Q .normal t' h') : loopA body (blockA id Q) t h := ha Q k
theorem swp_cut {P : Program} {K : Tm → H → Prop} {ops : List SI} {t : Tm} {h : H} (J : Tm → H → Prop) (ha : ∀ K' : Tm → H → Prop, (∀ t' h', J t' h' → K' t' h') → Swp P K' ops t h) (k : ∀ t' h', J t' h' → K t' h') : Swp P K ops t h := ha K k
theorem take4_ct {h : H} {i : Nat} {l : List UInt8} (r : h.get i = some (rdr l)) (hn : 4 ≤ l.length) {Q : V → H → Prop} (q : Q (.int .u32 (val (l.take 4) : Nat)) (h.set i (rdr (l.drop 4)))) : Acalls Tryz.prog 28 [.ptr i 2 0] h Q := by
  refine acalls_to Tryz.func28 S.comm_take_code S.comm_take_enter (Nat.le_of_ble_eq_true rfl) fun wf => ?_; simp only [S.comm_take]
  simp
  refine number_yes r 4 rfl (by omega) hn ?_
  have hv := val_lt 4 (l.take 4) (by simp; omega)
  have w : IntKind.u32.wrap (val (l.take 4) : Int) = (val (l.take 4) : Nat) := by simp [IntKind.wrap, IntKind.bits, IntKind.signed]; omega
  simp [w]
  exact q
theorem u64_high (a b : Nat) (ha : a < 4294967296) (hb : b < 4294967296) : intV .or .u64 ((a * 4294967296 : Nat) : Int) (b : Int) = some (.int .u64 ((a * 4294967296 + b : Nat) : Int)) := by
  have h1 : (BitVec.ofInt 64 ((a * 4294967296 : Nat) : Int)).toNat = 2 ^ 32 * a := by simp [BitVec.toNat_ofInt]; omega
  have h2 : (BitVec.ofInt 64 (b : Int)).toNat = b := by simp; omega
  have h3 : (BitVec.ofInt 64 ((a * 4294967296 : Nat) : Int) ||| BitVec.ofInt 64 (b : Int)).toNat = a * 4294967296 + b := by
    rw [BitVec.toNat_or, h1, h2, ← Nat.two_pow_add_eq_or_of_lt (by omega)]; omega
  show some (V.int .u64 (IntKind.u64.wrap ((BitVec.ofInt 64 ((a * 4294967296 : Nat) : Int) ||| BitVec.ofInt 64 (b : Int)).toNat : Int))) = _
  rw [h3, u64_id (by omega)]
theorem shl32 (a : Nat) (ha : a < 4294967296) : IntKind.u64.wrap ((a : Int) * 2 ^ min 32 IntKind.u64.bits) = ((a * 4294967296 : Nat) : Int) := by
  have : (a : Int) * 2 ^ min 32 IntKind.u64.bits = ((a * 4294967296 : Nat) : Int) := by
    rw [show min 32 IntKind.u64.bits = 32 from rfl]; omega
  rw [this, u64_id (by omega)]
theorem oneX8_ct {h : H} {i : Nat} {l : List UInt8} (r : h.get i = some (rdr l)) (hn : 8 ≤ l.length) {Q : V → H → Prop} (q : Q (.int .u64 (fX (l.take 8) : Nat)) (h.set i (rdr (l.drop 8)))) : Acalls Tryz.prog 33 [.ptr i 2 0] h Q := by
  refine acalls_to Tryz.func33 S.comm_DecodeExts_1_code S.comm_DecodeExts_1_enter (Nat.le_of_ble_eq_true rfl) fun wf => ?_; simp only [S.comm_DecodeExts_1]
  simp
  refine take4_ct r (by omega) ?_
  have v1 := val_lt 4 (l.take 4) (by simp; omega)
  have v2 := val_lt 4 ((l.drop 4).take 4) (by simp; omega)
  have e1 : (l.take 8).take 4 = l.take 4 := by rw [List.take_take]; rfl
  have e2 : (l.take 8).drop 4 = (l.drop 4).take 4 := by rw [List.drop_take]
  have hq : fX (l.take 8) = val (l.take 4) * 4294967296 + val ((l.drop 4).take 4) := by unfold fX; rw [e1, e2]
  rw [hq] at q
  obtain ⟨a, ha⟩ : ∃ a, a = val (l.take 4) := ⟨_, rfl⟩
  obtain ⟨b, hb⟩ : ∃ b, b = val ((l.drop 4).take 4) := ⟨_, rfl⟩
  rw [← ha] at q v1
  rw [← hb] at q v2
  have wa : IntKind.u64.wrap (a : Int) = a := u64_id (by omega)
  have wb : IntKind.u64.wrap (b : Int) = b := u64_id (by omega)
  simp [← ha, wa, shl32 a (by omega)]
  refine take4_ct (i := i) (l := l.drop 4) (by simp) (by simp; omega) ?_
  have o := u64_high a b (by omega) (by omega)
  obtain ⟨x, hx⟩ : ∃ x : Int, x = ((a * 4294967296 : Nat) : Int) := ⟨_, rfl⟩
  rw [← hx] at o
  have hx' : (a : Int) * 4294967296 = x := by rw [hx]; omega
  simp [← hb, wb, hx', o]
  rw [← hx']
  simpa using q
theorem oneL12_ct {h : H} {i : Nat} {l : List UInt8} (r : h.get i = some (rdr l)) (hn : 12 ≤ l.length) {Q : V → H → Prop} (q : Q (.agg (cL (fL (l.take 12)))) (h.set i (rdr (l.drop 12)))) : Acalls Tryz.prog 36 [.ptr i 2 0] h Q := by
  refine Acalls.turn (i := i) (o' := rdr (l.drop 12)) ⟨_, r⟩ rfl (fun wf => ?_) (by kernel_rfl)
  refine acalls_to Tryz.func36 S.comm_DecodeLarges_1_code S.comm_DecodeLarges_1_enter (Nat.le_of_ble_eq_true rfl) fun wf => ?_; simp only [S.comm_DecodeLarges_1]
  have hlt := wf.lt r
  have e1 : (l.take 12).take 4 = l.take 4 := by rw [List.take_take]; rfl
  have e2 : ((l.take 12).drop 4).take 4 = (l.drop 4).take 4 := by rw [List.drop_take, List.take_take]; rfl
  have e3 : (l.take 12).drop 8 = (l.drop 8).take 4 := by rw [List.drop_take]
  have hq : fL (l.take 12) = (val (l.take 4), val ((l.drop 4).take 4), val ((l.drop 8).take 4)) := by unfold fL; rw [e1, e2, e3]
  rw [hq] at q
  have v1 := val_lt 4 (l.take 4) (by simp; omega)
  simp
  refine take4_ct (i := i) (l := l) (by simp [r]; omega) (by omega) ?_
  have v2 := val_lt 4 ((l.drop 4).take 4) (by simp; omega)
  have v3 := val_lt 4 ((l.drop 8).take 4) (by simp; omega)
  obtain ⟨a, ha⟩ : ∃ a, a = val (l.take 4) := ⟨_, rfl⟩
  obtain ⟨b, hb⟩ : ∃ b, b = val ((l.drop 4).take 4) := ⟨_, rfl⟩
  obtain ⟨c, hcc⟩ : ∃ c, c = val ((l.drop 8).take 4) := ⟨_, rfl⟩
  rw [← ha, ← hb, ← hcc] at q
  rw [← ha]
  have ne1 : ¬ i = h.next := by omega
  have ne2 : ¬ i = h.next + 1 := by omega
  have ne3 : ¬ h.next = i := by omega
  have ne4 : ¬ h.next + 1 = i := by omega
  simp
  refine take4_ct (i := i) (l := l.drop 4) (by simp [ne2]) (by simp; omega) ?_
  rw [← hb]
  simp [ne4]
  refine take4_ct (i := i) (l := l.drop 8) (by simp [ne2]) (by simp; omega) ?_
  rw [← hcc]
  simp [ne3, ne4]
  refine ⟨⟨by simp, fun k hk => ?_⟩, rfl, q⟩
  simp only [H.next_set] at hk
  have k1 : ¬ k = h.next := by omega
  have k2 : ¬ k = h.next + 1 := by omega
  by_cases ki : k = i
  · subst ki; simp [k1, k2]
  · simp [k1, k2, ki]
end Go.Am

/-
  slices.Compact at numbers and at large ones (written by program, wip/comm/CR3.py).
-/
namespace Go.Am
open Go.Proofs

set_option maxRecDepth 100000

theorem eq_lg (a b : Lg) : eqV (TS.st [(0, 1, false, TS.int), (1, 1, false, TS.int), (2, 1, false, TS.int)]) (.agg (cL a)) (.agg (cL b)) = some (decide (a = b)) := by
  show eqFs _ _ _ = _
  have e : ∀ x y : Nat, eqV TS.int (.int .u32 (x : Int)) (.int .u32 (y : Int)) = some (decide (x = y)) := fun x y => eqV_nat _ _ _
  rw [eqFs_cons (x := .int .u32 a.1) (y := .int .u32 b.1) rfl rfl (e _ _), eqFs_cons rfl rfl (e _ _), eqFs_cons rfl rfl (e _ _), show eqFs [] (cL a) (cL b) = some true from rfl]
  simp only [ifs]
  obtain ⟨a1, a2, a3⟩ := a
  obtain ⟨b1, b2, b3⟩ := b
  simp only [Prod.mk.injEq, Bool.and_true, Bool.decide_and]
theorem compactP_ct {h : H} {j : Nat} {l : List Nat} (hg : h.get j = some (.grow 1 (l.map cP).flatten)) (hl : l.length ≤ 140737488355328) (hne : l ≠ []) {Q : V → H → Prop}
    (q : ∀ v' h', (∀ i, i ≠ j → h'.get i = h.get i) → h'.next = h.next → h'.WF → Sls h'.get 1 v' ((compactL l).map cP) → CapOk v' → Q v' h') : Acalls Tryz.prog 57 [.sl j (l.length) 0 l.length none] h Q := by
  refine acalls_to Tryz.func57 S.slices_Compact_uint32_uint32_code S.slices_Compact_uint32_uint32_enter (Nat.le_of_ble_eq_true rfl) fun wf => ?_; simp only [S.slices_Compact_uint32_uint32]
  have hlt := wf.lt hg
  have s0 := slsc_all cP_len hg (by omega)
  simp only [Nat.mul_one] at s0
  have hpos : 0 < l.length := List.length_pos_iff.2 hne
  by_cases h2 : l.length < 2
  · have e1 : compactL l = l := by
      match l, hpos, h2 with
      | [a], _, _ => rfl
    have h2' : (l.length : Int) < 2 := by omega
    simp [h2']
    exact q _ _ (fun _ _ => rfl) rfl wf (by rw [e1]; exact s0) trivial
  have h2' : ¬ (l.length : Int) < 2 := by omega
  simp [h2']
  refine loop_up (fun i t h' => (t 0 = .sl j (l.length) 0 l.length none ∧ t 3 = .int .i64 ((i + 1 : Nat) : Int)) ∧ h' = h ∧ i + 1 ≤ l.length ∧ compactL (l.take (i + 1)) = l.take (i + 1)) (l.length - 1) ⟨by simp, rfl, by omega, by
    match l, hpos with
    | a :: r, _ => rfl⟩ ?_
  rintro i t h' hi ⟨⟨t0, t3⟩, rfl, hil, hci⟩ K hK
  obtain ⟨m, hm⟩ : ∃ m, m = i + 1 := ⟨_, rfl⟩
  rw [← hm] at t3 hci hil
  by_cases hlt2 : m < l.length
  · have hltI : (m : Int) < (l.length : Int) := by omega
    obtain ⟨p, qq, o, cs, e1, e2, e3⟩ := s0.at1 (f := fun x : Nat => V.int .u32 x) (k := m) hlt2
    obtain ⟨p', qq', o', cs', b1, b2, b3⟩ := s0.at1 (f := fun x : Nat => V.int .u32 x) (k := m - 1) (by omega)
    have wm : IntKind.i64.wrap ((m : Int) - 1) = ((m - 1 : Nat) : Int) := by rw [wrap_i64_id (by omega) (by omega)]; omega
    simp [t0, t3, hlt2]
    refine dreg_of ?_
    simp [t0, t3, e1, e2, e3, wm, b1, b2, b3]
    by_cases hx : l[m] = l[m - 1]
    · have esl : sliceSlV 1 (some (.int .i64 (m : Int))) none none (.sl j (l.length) 0 l.length none) = some (.sl j (l.length) (m) (l.length - m) none) := by
        simp only [sliceSlV, boundV_none, boundV_nat hil]
        rw [if_pos hlt2, Nat.zero_add, Nat.mul_one]
      simp [hx, t0, t3, esl]
      refine loop_cut (id := 2) (fun t h2 => ∃ cur, cur = compactL l ++ l.drop (compactL l).length ∧ (t 0 = .sl j (l.length) 0 l.length none ∧ t 3 = .int .i64 ((compactL l).length : Nat)) ∧ (compactL l).length < l.length ∧ h2 = h'.set j (.grow 1 (cur.map cP).flatten)) (fun R hR => ?_) ?_
      · refine loop_up (fun k2 t h2 => ∃ cur tt, tt = (compactL (l.take (m + 1 + k2))).length ∧ cur = compactL (l.take (m + 1 + k2)) ++ l.drop tt ∧ tt < m + 1 + k2 ∧ m + 1 + k2 ≤ l.length ∧ (t 0 = .sl j (l.length) 0 l.length none ∧ t 3 = .int .i64 (tt : Nat) ∧ t 4 = .sl j (l.length) (m) (l.length - m) none ∧ t 5 = .int .i64 ((k2 + 1 : Nat) : Int)) ∧ h2 = h'.set j (.grow 1 (cur.map cP).flatten)) (l.length - m - 1) ?_ ?_
        · have ec : compactL (l.take (m + 1)) = l.take m := by rw [compact_at l (by omega) hlt2, if_pos hx.symm, hci]
          refine ⟨l, m, by rw [Nat.add_zero, ec, List.length_take]; omega, by rw [Nat.add_zero, ec, List.take_append_drop], by omega, by omega, by simp [t0, t3], ?_⟩
          exact (H.ext' rfl fun i => by rw [H.get_set]; split <;> simp_all)
        · rintro k2 t h2 hk2 ⟨cur, tt, htt, hcur, htm, hml, ⟨u0, u3, u4, u5⟩, rfl⟩ K hK
          obtain ⟨m2, hm2⟩ : ∃ m2, m2 = m + 1 + k2 := ⟨_, rfl⟩
          rw [← hm2] at htt hcur htm hml
          have hcl : cur.length = l.length := by rw [hcur, List.length_append, List.length_drop, ← htt]; omega
          obtain ⟨h2, hh2⟩ : ∃ h2, h2 = h'.set j (.grow 1 (cur.map cP).flatten) := ⟨_, rfl⟩
          have hgj : h2.get j = some (.grow 1 (cur.map cP).flatten) := by rw [hh2]; simp
          rw [← hh2]
          by_cases hlt3 : m2 < l.length
          · have cA : ∀ x (hx1 : x < cur.length), tt ≤ x → cur[x]'hx1 = l[x]'(by omega) := fun x hx1 hx2 => by
              subst hcur
              rw [List.getElem_append_right (by omega), List.getElem_drop]
              congr 1; omega
            have sp := slsc_part cP_len hgj (by omega) m (by omega)
            rw [hcl] at sp
            simp only [Nat.mul_one] at sp
            obtain ⟨p, qq, o, cs, e1, e2, e3⟩ := sp.at1 (f := fun x : Nat => V.int .u32 x) (k := k2 + 1) (by simp; omega)
            obtain ⟨p', qq', o', cs', b1, b2, b3⟩ := sp.at1 (f := fun x : Nat => V.int .u32 x) (k := k2) (by simp; omega)
            have e4' : cs[o]? = some (.int .u32 (l[m2] : Nat)) := by
              rw [e3]; simp only [List.getElem_drop]
              rw [cA _ (by omega) (by omega)]; simp only [show m + (k2 + 1) = m2 by omega]
            have b4' : cs'[o']? = some (.int .u32 (l[m2 - 1] : Nat)) := by
              rw [b3]; simp only [List.getElem_drop]
              rw [cA _ (by omega) (by omega)]; simp only [show m + k2 = m2 - 1 by omega]
            have e1' := e1 .i64
            have b1' := b1 .i64
            have hc1 : ((k2 + 1 : Nat) : Int) < ((l.length - m : Nat) : Int) := by omega
            have w1 : IntKind.i64.wrap (((k2 + 1 : Nat) : Int) - 1) = (k2 : Int) := by rw [wrap_i64_id (by omega) (by omega)]; omega
            have w2 : IntKind.i64.wrap (((k2 + 1 : Nat) : Int) + 1) = ((k2 + 1 + 1 : Nat) : Int) := by rw [wrap_i64_id (by omega) (by omega)]; omega
            obtain ⟨k3, hk3⟩ : ∃ k3, k3 = k2 + 1 := ⟨_, rfl⟩
            rw [← hk3] at u5 hc1 w1 w2 e1'
            obtain ⟨ln, hln⟩ : ∃ ln, ln = l.length - m := ⟨_, rfl⟩
            rw [← hln] at u4 hc1 e1' b1'
            have hc2 : k3 < ln := by omega
            simp [u4, u5, hc2]
            refine dreg_of ?_
            clear e3 b3
            simp [u4, u5, e1', e2, e4', w1, b1', b2, b4']
            by_cases hy : l[m2] = l[m2 - 1]
            · simp [hy, u5, w2]
              refine hK _ _ (by omega) ⟨cur, tt, ?_, ?_, by omega, by omega, ?_, by rw [hh2]⟩
              · rw [show m + 1 + (k2 + 1) = m2 + 1 by omega, compact_at l (by omega) hlt3, if_pos hy.symm, htt]
              · rw [show m + 1 + (k2 + 1) = m2 + 1 by omega, compact_at l (by omega) hlt3, if_pos hy.symm, hcur]
              · simp [u0, u3, u4, hk3, hln]
            · have hy2 : ((l[m2] : Int) != (l[m2 - 1] : Int)) = true := bne_iff_ne.2 (by omega)
              have htl : tt < l.length := by omega
              have hcs : (V.int .u32 (l[m2] : Nat)).cells = cP l[m2] := rfl
              have hso : (V.int .u32 (l[m2] : Nat)).solid = true := rfl
              have hnl : (cP l[m2]).length = 1 := rfl
              have hfl : (cur.map cP).flatten.length = l.length := by rw [flat_len (map_lenc cP_len cur)]; simp [hcl]
              have hput : O.put (.grow 1 (cur.map cP).flatten) (tt) (cP l[m2]) = some (.grow 1 ((cur.set tt l[m2]).map cP).flatten) := by
                simp only [O.put, hfl, hnl]
                rw [if_pos (by omega), ← flatc_set cP_len cur tt _ (by omega), Nat.mul_one]
              have w3 : IntKind.i64.wrap ((tt : Int) + 1) = ((tt + 1 : Nat) : Int) := by rw [wrap_i64_id (by omega) (by omega)]; omega
              have hst : storeV h2.get 1 (.ptr j (l.length) (tt)) (.int .u32 (l[m2] : Nat)) = some (.set j (.grow 1 ((cur.set tt l[m2]).map cP).flatten)) := by
                rw [storeV_ptr, hcs, hso, hnl, hgj]
                simp only [Bool.true_and, beq_self_eq_true, if_true, Option.bind_some]
                rw [if_pos (by simp only [O.len, O.cells]; exact hfl), hput]; rfl
              simp [-storeV_ptr, hy2, u0, u3, u4, u5, e1', e2, e4', htl, hst, w3, w2]
              have hset : compactL (l.take (m + 1 + (k2 + 1))) = compactL (l.take m2) ++ [l[m2]] := by
                rw [show m + 1 + (k2 + 1) = m2 + 1 by omega, compact_at l (by omega) hlt3, if_neg (fun e => hy e.symm)]
              refine hK _ _ (by omega) ⟨cur.set tt l[m2], tt + 1, ?_, ?_, by omega, by omega, ?_, by rw [hh2, H.set_set, List.map_set]⟩
              · rw [hset, List.length_append, ← htt]; rfl
              · rw [hset, hcur, List.set_append_right _ _ (by omega), ← htt, Nat.sub_self, List.drop_eq_getElem_cons htl, List.set_cons_zero, List.append_assoc]; rfl
              · simp [u0, u4, hk3, hln]
          · have hml2 : m2 = l.length := by omega
            have hle : l.take m2 = l := List.take_of_length_le (by omega)
            rw [hle] at htt hcur
            have hc1 : ¬ ((k2 + 1 : Nat) : Int) < ((l.length - m : Nat) : Int) := by omega
            obtain ⟨k3, hk3⟩ : ∃ k3, k3 = k2 + 1 := ⟨_, rfl⟩
            obtain ⟨ln, hln⟩ : ∃ ln, ln = l.length - m := ⟨_, rfl⟩
            rw [← hk3] at u5 hc1
            rw [← hln] at u4 hc1
            have hc2 : ¬ k3 < ln := by omega
            simp [u4, u5, hc2]
            refine hR _ _ ⟨cur, by rw [hcur, htt], by simp [u0, u3, htt], by rw [htt] at htm; omega, hh2⟩
      · rintro t h2 ⟨cur, hcur, ⟨u0, u3⟩, htl, rfl⟩
        obtain ⟨tt, htt⟩ : ∃ tt, tt = (compactL l).length := ⟨_, rfl⟩
        rw [← htt] at hcur u3 htl
        have hcl : cur.length = l.length := by rw [hcur, List.length_append, List.length_drop, ← htt]; omega
        have hfl : (cur.map cP).flatten.length = l.length := by rw [flat_len (map_lenc cP_len cur)]; simp [hcl]
        have s1 : sliceSlV 1 (some (.int .i64 (tt : Int))) none none (.sl j (l.length) 0 l.length none) = some (.sl j (l.length) (tt) (l.length - tt) none) := by
          simp only [sliceSlV, boundV_none, boundV_nat (show tt ≤ l.length by omega)]
          rw [if_pos htl, Nat.zero_add, Nat.mul_one]
        have s2 : sliceSlV 1 none (some (.int .i64 (tt : Int))) none (.sl j (l.length) 0 l.length none) = some (.sl j (l.length) 0 tt none) := by
          simp only [sliceSlV, boundV_none, boundV_nat (show tt ≤ l.length by omega)]
          rw [if_pos hpos]; simp
        obtain ⟨h2, hh2⟩ : ∃ h2, h2 = h'.set j (.grow 1 (cur.map cP).flatten) := ⟨_, rfl⟩
        have hgj : h2.get j = some (.grow 1 (cur.map cP).flatten) := by rw [hh2]; simp
        rw [← hh2]
        obtain ⟨zs, hzs⟩ : ∃ zs, zs = repCells (l.length - tt) [V.int .u32 0] := ⟨_, rfl⟩
        have hzl : zs.length = (l.length - tt) := by rw [hzs]; unfold repCells; simp
        obtain ⟨pc, hpc⟩ : ∃ pc, pc = putCells (cur.map cP).flatten (tt) zs := ⟨_, rfl⟩
        have hclr : clearSlV h2.get [V.int .u32 0] (.sl j (l.length) (tt) (l.length - tt) none) = some (.set j (.grow 1 pc)) := by
          rw [hpc]
          unfold clearSlV
          simp only
          rw [if_neg (by omega), hgj]
          simp only [len_grow]
          rw [if_pos hfl, put_grow, ← hzs, if_pos (by rw [hzl, hfl]; omega)]; rfl
        simp [u0, u3, s1, s2, hclr]
        have w2 : h2.WF := by rw [hh2]; exact wf.set hlt _
        have hpl : pc.length = l.length := by rw [hpc, put_len _ _ _ (by rw [hzl, hfl]; omega), hfl]
        have hct : cur.take tt = compactL l := by rw [hcur, List.take_append_of_le_length (by omega), List.take_of_length_le (by omega)]
        have hpt : pc.take (tt) = ((compactL l).map cP).flatten := by
          rw [hpc]
          unfold putCells
          rw [List.append_assoc, List.take_append_of_le_length (by rw [List.length_take, hfl]; omega), List.take_take, Nat.min_self, ← Nat.mul_one tt, ← flat_take (map_lenc cP_len cur), ← List.map_take, hct]
        refine q _ _ (fun i hi => by rw [H.get_set, if_neg hi, hh2, H.get_set, if_neg hi]) (by rw [hh2]; simp) (w2.set (by rw [hh2]; simpa using hlt) _) ⟨.inr ⟨j, l.length, 0, none, by simp [htt]⟩, map_lenc cP_len _, ?_, by simp; omega⟩ trivial
        rw [elemsV_sl]
        split
        · rename_i h0
          have : compactL l = [] := List.eq_nil_of_length_eq_zero (by omega)
          rw [this]; rfl
        · rw [cellsAt_of (by rw [H.get_set, if_pos rfl]) (by rw [len_grow]; exact hpl)]
          simp only [cells_grow, Nat.zero_add, List.drop_zero]
          rw [if_pos (by rw [hpl]; omega), Nat.mul_one, hpt]
          simp [htt]
    · have hx2 : ((l[m] : Int) == (l[m - 1] : Int)) = false := beq_eq_false_iff_ne.2 (by omega)
      have w1 : IntKind.i64.wrap ((m : Int) + 1) = ((m + 1 : Nat) : Int) := by rw [wrap_i64_id (by omega) (by omega)]; omega
      simp [hx2, t3, w1]
      refine hK _ _ (by omega) ⟨?_, rfl, by omega, ?_⟩
      · first | (simp [t0, hm]; done) | (simp [t0]; omega)
      rw [← hm, compact_at l (by omega) hlt2, if_neg (fun e => hx e.symm), hci, List.take_add_one, List.getElem?_eq_getElem hlt2]; rfl
  · have hmm : m = l.length := by omega
    have hle : l.take m = l := List.take_of_length_le (by omega)
    rw [hle] at hci
    simp [t0, t3, hlt2]
    exact q _ _ (fun _ _ => rfl) rfl wf (by rw [hci]; exact s0) trivial
theorem compactX_ct {h : H} {j : Nat} {l : List Nat} (hg : h.get j = some (.grow 1 (l.map cX).flatten)) (hl : l.length ≤ 140737488355328) (hne : l ≠ []) {Q : V → H → Prop}
    (q : ∀ v' h', (∀ i, i ≠ j → h'.get i = h.get i) → h'.next = h.next → h'.WF → Sls h'.get 1 v' ((compactL l).map cX) → CapOk v' → Q v' h') : Acalls Tryz.prog 62 [.sl j (l.length) 0 l.length none] h Q := by
  refine acalls_to Tryz.func62 S.slices_Compact_uint64_uint64_code S.slices_Compact_uint64_uint64_enter (Nat.le_of_ble_eq_true rfl) fun wf => ?_; simp only [S.slices_Compact_uint64_uint64]
  have hlt := wf.lt hg
  have s0 := slsc_all cX_len hg (by omega)
  simp only [Nat.mul_one] at s0
  have hpos : 0 < l.length := List.length_pos_iff.2 hne
  by_cases h2 : l.length < 2
  · have e1 : compactL l = l := by
      match l, hpos, h2 with
      | [a], _, _ => rfl
    have h2' : (l.length : Int) < 2 := by omega
    simp [h2']
    exact q _ _ (fun _ _ => rfl) rfl wf (by rw [e1]; exact s0) trivial
  have h2' : ¬ (l.length : Int) < 2 := by omega
  simp [h2']
  refine loop_up (fun i t h' => (t 0 = .sl j (l.length) 0 l.length none ∧ t 3 = .int .i64 ((i + 1 : Nat) : Int)) ∧ h' = h ∧ i + 1 ≤ l.length ∧ compactL (l.take (i + 1)) = l.take (i + 1)) (l.length - 1) ⟨by simp, rfl, by omega, by
    match l, hpos with
    | a :: r, _ => rfl⟩ ?_
  rintro i t h' hi ⟨⟨t0, t3⟩, rfl, hil, hci⟩ K hK
  obtain ⟨m, hm⟩ : ∃ m, m = i + 1 := ⟨_, rfl⟩
  rw [← hm] at t3 hci hil
  by_cases hlt2 : m < l.length
  · have hltI : (m : Int) < (l.length : Int) := by omega
    obtain ⟨p, qq, o, cs, e1, e2, e3⟩ := s0.at1 (f := fun x : Nat => V.int .u64 x) (k := m) hlt2
    obtain ⟨p', qq', o', cs', b1, b2, b3⟩ := s0.at1 (f := fun x : Nat => V.int .u64 x) (k := m - 1) (by omega)
    have wm : IntKind.i64.wrap ((m : Int) - 1) = ((m - 1 : Nat) : Int) := by rw [wrap_i64_id (by omega) (by omega)]; omega
    simp [t0, t3, hlt2]
    refine dreg_of ?_
    simp [t0, t3, e1, e2, e3, wm, b1, b2, b3]
    by_cases hx : l[m] = l[m - 1]
    · have esl : sliceSlV 1 (some (.int .i64 (m : Int))) none none (.sl j (l.length) 0 l.length none) = some (.sl j (l.length) (m) (l.length - m) none) := by
        simp only [sliceSlV, boundV_none, boundV_nat hil]
        rw [if_pos hlt2, Nat.zero_add, Nat.mul_one]
      simp [hx, t0, t3, esl]
      refine loop_cut (id := 2) (fun t h2 => ∃ cur, cur = compactL l ++ l.drop (compactL l).length ∧ (t 0 = .sl j (l.length) 0 l.length none ∧ t 3 = .int .i64 ((compactL l).length : Nat)) ∧ (compactL l).length < l.length ∧ h2 = h'.set j (.grow 1 (cur.map cX).flatten)) (fun R hR => ?_) ?_
      · refine loop_up (fun k2 t h2 => ∃ cur tt, tt = (compactL (l.take (m + 1 + k2))).length ∧ cur = compactL (l.take (m + 1 + k2)) ++ l.drop tt ∧ tt < m + 1 + k2 ∧ m + 1 + k2 ≤ l.length ∧ (t 0 = .sl j (l.length) 0 l.length none ∧ t 3 = .int .i64 (tt : Nat) ∧ t 4 = .sl j (l.length) (m) (l.length - m) none ∧ t 5 = .int .i64 ((k2 + 1 : Nat) : Int)) ∧ h2 = h'.set j (.grow 1 (cur.map cX).flatten)) (l.length - m - 1) ?_ ?_
        · have ec : compactL (l.take (m + 1)) = l.take m := by rw [compact_at l (by omega) hlt2, if_pos hx.symm, hci]
          refine ⟨l, m, by rw [Nat.add_zero, ec, List.length_take]; omega, by rw [Nat.add_zero, ec, List.take_append_drop], by omega, by omega, by simp [t0, t3], ?_⟩
          exact (H.ext' rfl fun i => by rw [H.get_set]; split <;> simp_all)
        · rintro k2 t h2 hk2 ⟨cur, tt, htt, hcur, htm, hml, ⟨u0, u3, u4, u5⟩, rfl⟩ K hK
          obtain ⟨m2, hm2⟩ : ∃ m2, m2 = m + 1 + k2 := ⟨_, rfl⟩
          rw [← hm2] at htt hcur htm hml
          have hcl : cur.length = l.length := by rw [hcur, List.length_append, List.length_drop, ← htt]; omega
          obtain ⟨h2, hh2⟩ : ∃ h2, h2 = h'.set j (.grow 1 (cur.map cX).flatten) := ⟨_, rfl⟩
          have hgj : h2.get j = some (.grow 1 (cur.map cX).flatten) := by rw [hh2]; simp
          rw [← hh2]
          by_cases hlt3 : m2 < l.length
          · have cA : ∀ x (hx1 : x < cur.length), tt ≤ x → cur[x]'hx1 = l[x]'(by omega) := fun x hx1 hx2 => by
              subst hcur
              rw [List.getElem_append_right (by omega), List.getElem_drop]
              congr 1; omega
            have sp := slsc_part cX_len hgj (by omega) m (by omega)
            rw [hcl] at sp
            simp only [Nat.mul_one] at sp
            obtain ⟨p, qq, o, cs, e1, e2, e3⟩ := sp.at1 (f := fun x : Nat => V.int .u64 x) (k := k2 + 1) (by simp; omega)
            obtain ⟨p', qq', o', cs', b1, b2, b3⟩ := sp.at1 (f := fun x : Nat => V.int .u64 x) (k := k2) (by simp; omega)
            have e4' : cs[o]? = some (.int .u64 (l[m2] : Nat)) := by
              rw [e3]; simp only [List.getElem_drop]
              rw [cA _ (by omega) (by omega)]; simp only [show m + (k2 + 1) = m2 by omega]
            have b4' : cs'[o']? = some (.int .u64 (l[m2 - 1] : Nat)) := by
              rw [b3]; simp only [List.getElem_drop]
              rw [cA _ (by omega) (by omega)]; simp only [show m + k2 = m2 - 1 by omega]
            have e1' := e1 .i64
            have b1' := b1 .i64
            have hc1 : ((k2 + 1 : Nat) : Int) < ((l.length - m : Nat) : Int) := by omega
            have w1 : IntKind.i64.wrap (((k2 + 1 : Nat) : Int) - 1) = (k2 : Int) := by rw [wrap_i64_id (by omega) (by omega)]; omega
            have w2 : IntKind.i64.wrap (((k2 + 1 : Nat) : Int) + 1) = ((k2 + 1 + 1 : Nat) : Int) := by rw [wrap_i64_id (by omega) (by omega)]; omega
            obtain ⟨k3, hk3⟩ : ∃ k3, k3 = k2 + 1 := ⟨_, rfl⟩
            rw [← hk3] at u5 hc1 w1 w2 e1'
            obtain ⟨ln, hln⟩ : ∃ ln, ln = l.length - m := ⟨_, rfl⟩
            rw [← hln] at u4 hc1 e1' b1'
            have hc2 : k3 < ln := by omega
            simp [u4, u5, hc2]
            refine dreg_of ?_
            clear e3 b3
            simp [u4, u5, e1', e2, e4', w1, b1', b2, b4']
            by_cases hy : l[m2] = l[m2 - 1]
            · simp [hy, u5, w2]
              refine hK _ _ (by omega) ⟨cur, tt, ?_, ?_, by omega, by omega, ?_, by rw [hh2]⟩
              · rw [show m + 1 + (k2 + 1) = m2 + 1 by omega, compact_at l (by omega) hlt3, if_pos hy.symm, htt]
              · rw [show m + 1 + (k2 + 1) = m2 + 1 by omega, compact_at l (by omega) hlt3, if_pos hy.symm, hcur]
              · simp [u0, u3, u4, hk3, hln]
            · have hy2 : ((l[m2] : Int) != (l[m2 - 1] : Int)) = true := bne_iff_ne.2 (by omega)
              have htl : tt < l.length := by omega
              have hcs : (V.int .u64 (l[m2] : Nat)).cells = cX l[m2] := rfl
              have hso : (V.int .u64 (l[m2] : Nat)).solid = true := rfl
              have hnl : (cX l[m2]).length = 1 := rfl
              have hfl : (cur.map cX).flatten.length = l.length := by rw [flat_len (map_lenc cX_len cur)]; simp [hcl]
              have hput : O.put (.grow 1 (cur.map cX).flatten) (tt) (cX l[m2]) = some (.grow 1 ((cur.set tt l[m2]).map cX).flatten) := by
                simp only [O.put, hfl, hnl]
                rw [if_pos (by omega), ← flatc_set cX_len cur tt _ (by omega), Nat.mul_one]
              have w3 : IntKind.i64.wrap ((tt : Int) + 1) = ((tt + 1 : Nat) : Int) := by rw [wrap_i64_id (by omega) (by omega)]; omega
              have hst : storeV h2.get 1 (.ptr j (l.length) (tt)) (.int .u64 (l[m2] : Nat)) = some (.set j (.grow 1 ((cur.set tt l[m2]).map cX).flatten)) := by
                rw [storeV_ptr, hcs, hso, hnl, hgj]
                simp only [Bool.true_and, beq_self_eq_true, if_true, Option.bind_some]
                rw [if_pos (by simp only [O.len, O.cells]; exact hfl), hput]; rfl
              simp [-storeV_ptr, hy2, u0, u3, u4, u5, e1', e2, e4', htl, hst, w3, w2]
              have hset : compactL (l.take (m + 1 + (k2 + 1))) = compactL (l.take m2) ++ [l[m2]] := by
                rw [show m + 1 + (k2 + 1) = m2 + 1 by omega, compact_at l (by omega) hlt3, if_neg (fun e => hy e.symm)]
              refine hK _ _ (by omega) ⟨cur.set tt l[m2], tt + 1, ?_, ?_, by omega, by omega, ?_, by rw [hh2, H.set_set, List.map_set]⟩
              · rw [hset, List.length_append, ← htt]; rfl
              · rw [hset, hcur, List.set_append_right _ _ (by omega), ← htt, Nat.sub_self, List.drop_eq_getElem_cons htl, List.set_cons_zero, List.append_assoc]; rfl
              · simp [u0, u4, hk3, hln]
          · have hml2 : m2 = l.length := by omega
            have hle : l.take m2 = l := List.take_of_length_le (by omega)
            rw [hle] at htt hcur
            have hc1 : ¬ ((k2 + 1 : Nat) : Int) < ((l.length - m : Nat) : Int) := by omega
            obtain ⟨k3, hk3⟩ : ∃ k3, k3 = k2 + 1 := ⟨_, rfl⟩
            obtain ⟨ln, hln⟩ : ∃ ln, ln = l.length - m := ⟨_, rfl⟩
            rw [← hk3] at u5 hc1
            rw [← hln] at u4 hc1
            have hc2 : ¬ k3 < ln := by omega
            simp [u4, u5, hc2]
            refine hR _ _ ⟨cur, by rw [hcur, htt], by simp [u0, u3, htt], by rw [htt] at htm; omega, hh2⟩
      · rintro t h2 ⟨cur, hcur, ⟨u0, u3⟩, htl, rfl⟩
        obtain ⟨tt, htt⟩ : ∃ tt, tt = (compactL l).length := ⟨_, rfl⟩
        rw [← htt] at hcur u3 htl
        have hcl : cur.length = l.length := by rw [hcur, List.length_append, List.length_drop, ← htt]; omega
        have hfl : (cur.map cX).flatten.length = l.length := by rw [flat_len (map_lenc cX_len cur)]; simp [hcl]
        have s1 : sliceSlV 1 (some (.int .i64 (tt : Int))) none none (.sl j (l.length) 0 l.length none) = some (.sl j (l.length) (tt) (l.length - tt) none) := by
          simp only [sliceSlV, boundV_none, boundV_nat (show tt ≤ l.length by omega)]
          rw [if_pos htl, Nat.zero_add, Nat.mul_one]
        have s2 : sliceSlV 1 none (some (.int .i64 (tt : Int))) none (.sl j (l.length) 0 l.length none) = some (.sl j (l.length) 0 tt none) := by
          simp only [sliceSlV, boundV_none, boundV_nat (show tt ≤ l.length by omega)]
          rw [if_pos hpos]; simp
        obtain ⟨h2, hh2⟩ : ∃ h2, h2 = h'.set j (.grow 1 (cur.map cX).flatten) := ⟨_, rfl⟩
        have hgj : h2.get j = some (.grow 1 (cur.map cX).flatten) := by rw [hh2]; simp
        rw [← hh2]
        obtain ⟨zs, hzs⟩ : ∃ zs, zs = repCells (l.length - tt) [V.int .u64 0] := ⟨_, rfl⟩
        have hzl : zs.length = (l.length - tt) := by rw [hzs]; unfold repCells; simp
        obtain ⟨pc, hpc⟩ : ∃ pc, pc = putCells (cur.map cX).flatten (tt) zs := ⟨_, rfl⟩
        have hclr : clearSlV h2.get [V.int .u64 0] (.sl j (l.length) (tt) (l.length - tt) none) = some (.set j (.grow 1 pc)) := by
          rw [hpc]
          unfold clearSlV
          simp only
          rw [if_neg (by omega), hgj]
          simp only [len_grow]
          rw [if_pos hfl, put_grow, ← hzs, if_pos (by rw [hzl, hfl]; omega)]; rfl
        simp [u0, u3, s1, s2, hclr]
        have w2 : h2.WF := by rw [hh2]; exact wf.set hlt _
        have hpl : pc.length = l.length := by rw [hpc, put_len _ _ _ (by rw [hzl, hfl]; omega), hfl]
        have hct : cur.take tt = compactL l := by rw [hcur, List.take_append_of_le_length (by omega), List.take_of_length_le (by omega)]
        have hpt : pc.take (tt) = ((compactL l).map cX).flatten := by
          rw [hpc]
          unfold putCells
          rw [List.append_assoc, List.take_append_of_le_length (by rw [List.length_take, hfl]; omega), List.take_take, Nat.min_self, ← Nat.mul_one tt, ← flat_take (map_lenc cX_len cur), ← List.map_take, hct]
        refine q _ _ (fun i hi => by rw [H.get_set, if_neg hi, hh2, H.get_set, if_neg hi]) (by rw [hh2]; simp) (w2.set (by rw [hh2]; simpa using hlt) _) ⟨.inr ⟨j, l.length, 0, none, by simp [htt]⟩, map_lenc cX_len _, ?_, by simp; omega⟩ trivial
        rw [elemsV_sl]
        split
        · rename_i h0
          have : compactL l = [] := List.eq_nil_of_length_eq_zero (by omega)
          rw [this]; rfl
        · rw [cellsAt_of (by rw [H.get_set, if_pos rfl]) (by rw [len_grow]; exact hpl)]
          simp only [cells_grow, Nat.zero_add, List.drop_zero]
          rw [if_pos (by rw [hpl]; omega), Nat.mul_one, hpt]
          simp [htt]
    · have hx2 : ((l[m] : Int) == (l[m - 1] : Int)) = false := beq_eq_false_iff_ne.2 (by omega)
      have w1 : IntKind.i64.wrap ((m : Int) + 1) = ((m + 1 : Nat) : Int) := by rw [wrap_i64_id (by omega) (by omega)]; omega
      simp [hx2, t3, w1]
      refine hK _ _ (by omega) ⟨?_, rfl, by omega, ?_⟩
      · first | (simp [t0, hm]; done) | (simp [t0]; omega)
      rw [← hm, compact_at l (by omega) hlt2, if_neg (fun e => hx e.symm), hci, List.take_add_one, List.getElem?_eq_getElem hlt2]; rfl
  · have hmm : m = l.length := by omega
    have hle : l.take m = l := List.take_of_length_le (by omega)
    rw [hle] at hci
    simp [t0, t3, hlt2]
    exact q _ _ (fun _ _ => rfl) rfl wf (by rw [hci]; exact s0) trivial
theorem compactL_ct {h : H} {j : Nat} {l : List Lg} (hg : h.get j = some (.grow 3 (l.map cL).flatten)) (hl : l.length ≤ 140737488355328) (hne : l ≠ []) {Q : V → H → Prop}
    (q : ∀ v' h', (∀ i, i ≠ j → h'.get i = h.get i) → h'.next = h.next → h'.WF → Sls h'.get 3 v' ((compactL l).map cL) → CapOk v' → Q v' h') : Acalls Tryz.prog 65 [.sl j (l.length * 3) 0 l.length none] h Q := by
  refine acalls_to Tryz.func65 S.slices_Compact_api_Large_api_Large_code S.slices_Compact_api_Large_api_Large_enter (Nat.le_of_ble_eq_true rfl) fun wf => ?_; simp only [S.slices_Compact_api_Large_api_Large]
  have hlt := wf.lt hg
  have s0 := slsc_all cL_len hg (by omega)
  have hpos : 0 < l.length := List.length_pos_iff.2 hne
  by_cases h2 : l.length < 2
  · have e1 : compactL l = l := by
      match l, hpos, h2 with
      | [a], _, _ => rfl
    have h2' : (l.length : Int) < 2 := by omega
    simp [h2']
    exact q _ _ (fun _ _ => rfl) rfl wf (by rw [e1]; exact s0) trivial
  have h2' : ¬ (l.length : Int) < 2 := by omega
  simp [h2']
  refine loop_up (fun i t h' => (t 0 = .sl j (l.length * 3) 0 l.length none ∧ t 3 = .int .i64 ((i + 1 : Nat) : Int)) ∧ h' = h ∧ i + 1 ≤ l.length ∧ compactL (l.take (i + 1)) = l.take (i + 1)) (l.length - 1) ⟨by simp, rfl, by omega, by
    match l, hpos with
    | a :: r, _ => rfl⟩ ?_
  rintro i t h' hi ⟨⟨t0, t3⟩, rfl, hil, hci⟩ K hK
  obtain ⟨m, hm⟩ : ∃ m, m = i + 1 := ⟨_, rfl⟩
  rw [← hm] at t3 hci hil
  by_cases hlt2 : m < l.length
  · have hltI : (m : Int) < (l.length : Int) := by omega
    obtain ⟨p, qq, o, cs, e1, e2, e3, e4, e5⟩ := s0.at (k := m) (by simpa using hlt2)
    obtain ⟨p', qq', o', cs', b1, b2, b3, b4, b5⟩ := s0.at (k := m - 1) (by simp; omega)
    have e4' : (cs.drop o).take 3 = cL l[m] := by rw [e4]; simp
    have b4' : (cs'.drop o').take 3 = cL l[m - 1] := by rw [b4]; simp
    have wm : IntKind.i64.wrap ((m : Int) - 1) = ((m - 1 : Nat) : Int) := by rw [wrap_i64_id (by omega) (by omega)]; omega
    have eq := eq_lg l[m] l[m - 1]
    simp [t0, t3, hlt2]
    refine dreg_of ?_
    simp [t0, t3, e1, e2, e3, e4', wm, b1, b2, b3, b4', eq]
    by_cases hx : l[m] = l[m - 1]
    · have esl : sliceSlV 3 (some (.int .i64 (m : Int))) none none (.sl j (l.length * 3) 0 l.length none) = some (.sl j (l.length * 3) (m * 3) (l.length - m) none) := by
        simp only [sliceSlV, boundV_none, boundV_nat hil]
        rw [if_pos hlt2, Nat.zero_add]
      simp [hx, t0, t3, esl]
      refine loop_cut (id := 2) (fun t h2 => ∃ cur, cur = compactL l ++ l.drop (compactL l).length ∧ (t 0 = .sl j (l.length * 3) 0 l.length none ∧ t 3 = .int .i64 ((compactL l).length : Nat)) ∧ (compactL l).length < l.length ∧ h2 = h'.set j (.grow 3 (cur.map cL).flatten)) (fun R hR => ?_) ?_
      · refine loop_up (fun k2 t h2 => ∃ cur tt, tt = (compactL (l.take (m + 1 + k2))).length ∧ cur = compactL (l.take (m + 1 + k2)) ++ l.drop tt ∧ tt < m + 1 + k2 ∧ m + 1 + k2 ≤ l.length ∧ (t 0 = .sl j (l.length * 3) 0 l.length none ∧ t 3 = .int .i64 (tt : Nat) ∧ t 4 = .sl j (l.length * 3) (m * 3) (l.length - m) none ∧ t 5 = .int .i64 ((k2 + 1 : Nat) : Int)) ∧ h2 = h'.set j (.grow 3 (cur.map cL).flatten)) (l.length - m - 1) ?_ ?_
        · have ec : compactL (l.take (m + 1)) = l.take m := by rw [compact_at l (by omega) hlt2, if_pos hx.symm, hci]
          refine ⟨l, m, by rw [Nat.add_zero, ec, List.length_take]; omega, by rw [Nat.add_zero, ec, List.take_append_drop], by omega, by omega, by simp [t0, t3], ?_⟩
          exact (H.ext' rfl fun i => by rw [H.get_set]; split <;> simp_all)
        · rintro k2 t h2 hk2 ⟨cur, tt, htt, hcur, htm, hml, ⟨u0, u3, u4, u5⟩, rfl⟩ K hK
          obtain ⟨m2, hm2⟩ : ∃ m2, m2 = m + 1 + k2 := ⟨_, rfl⟩
          rw [← hm2] at htt hcur htm hml
          have hcl : cur.length = l.length := by rw [hcur, List.length_append, List.length_drop, ← htt]; omega
          obtain ⟨h2, hh2⟩ : ∃ h2, h2 = h'.set j (.grow 3 (cur.map cL).flatten) := ⟨_, rfl⟩
          have hgj : h2.get j = some (.grow 3 (cur.map cL).flatten) := by rw [hh2]; simp
          rw [← hh2]
          by_cases hlt3 : m2 < l.length
          · have cA : ∀ x (hx1 : x < cur.length), tt ≤ x → cur[x]'hx1 = l[x]'(by omega) := fun x hx1 hx2 => by
              subst hcur
              rw [List.getElem_append_right (by omega), List.getElem_drop]
              congr 1; omega
            have sp := slsc_part cL_len hgj (by omega) m (by omega)
            rw [hcl] at sp
            obtain ⟨p, qq, o, cs, e1, e2, e3, e4, e5⟩ := sp.at (k := k2 + 1) (by simp; omega)
            obtain ⟨p', qq', o', cs', b1, b2, b3, b4, b5⟩ := sp.at (k := k2) (by simp; omega)
            have e4' : (cs.drop o).take 3 = cL l[m2] := by
              rw [e4]; simp only [List.getElem_map, List.getElem_drop]
              rw [cA _ (by omega) (by omega)]; congr 2; omega
            have b4' : (cs'.drop o').take 3 = cL l[m2 - 1] := by
              rw [b4]; simp only [List.getElem_map, List.getElem_drop]
              rw [cA _ (by omega) (by omega)]; congr 2; omega
            have e1' := e1 .i64
            have b1' := b1 .i64
            have hc1 : ((k2 + 1 : Nat) : Int) < ((l.length - m : Nat) : Int) := by omega
            have w1 : IntKind.i64.wrap (((k2 + 1 : Nat) : Int) - 1) = (k2 : Int) := by rw [wrap_i64_id (by omega) (by omega)]; omega
            have w2 : IntKind.i64.wrap (((k2 + 1 : Nat) : Int) + 1) = ((k2 + 1 + 1 : Nat) : Int) := by rw [wrap_i64_id (by omega) (by omega)]; omega
            obtain ⟨k3, hk3⟩ : ∃ k3, k3 = k2 + 1 := ⟨_, rfl⟩
            rw [← hk3] at u5 hc1 w1 w2 e1'
            obtain ⟨ln, hln⟩ : ∃ ln, ln = l.length - m := ⟨_, rfl⟩
            rw [← hln] at u4 hc1 e1' b1'
            have hc2 : k3 < ln := by omega
            have eq := eq_lg l[m2] l[m2 - 1]
            simp [u4, u5, hc2]
            refine dreg_of ?_
            simp [u4, u5, e1', e2, e3, e4', w1, b1', b2, b3, b4', eq]
            by_cases hy : l[m2] = l[m2 - 1]
            · simp [hy, u5, w2]
              refine hK _ _ (by omega) ⟨cur, tt, ?_, ?_, by omega, by omega, ?_, by rw [hh2]⟩
              · rw [show m + 1 + (k2 + 1) = m2 + 1 by omega, compact_at l (by omega) hlt3, if_pos hy.symm, htt]
              · rw [show m + 1 + (k2 + 1) = m2 + 1 by omega, compact_at l (by omega) hlt3, if_pos hy.symm, hcur]
              · simp [u0, u3, u4, hk3, hln]
            · have htl : tt < l.length := by omega
              have hcs : (V.agg (cL l[m2])).cells = cL l[m2] := rfl
              have hso : (V.agg (cL l[m2])).solid = true := rfl
              have hnl : (cL l[m2]).length = 3 := rfl
              have hfl : (cur.map cL).flatten.length = l.length * 3 := by rw [flat_len (map_lenc cL_len cur)]; simp [hcl]
              have hput : O.put (.grow 3 (cur.map cL).flatten) (tt * 3) (cL l[m2]) = some (.grow 3 ((cur.set tt l[m2]).map cL).flatten) := by
                simp only [O.put, hfl, hnl]
                rw [if_pos (by omega), flatc_set cL_len cur tt _ (by omega)]
              have w3 : IntKind.i64.wrap ((tt : Int) + 1) = ((tt + 1 : Nat) : Int) := by rw [wrap_i64_id (by omega) (by omega)]; omega
              have hst : storeV h2.get 3 (.ptr j (l.length * 3) (tt * 3)) (.agg (cL l[m2])) = some (.set j (.grow 3 ((cur.set tt l[m2]).map cL).flatten)) := by
                rw [storeV_ptr, hcs, hso, hnl, hgj]
                simp only [Bool.true_and, beq_self_eq_true, if_true, Option.bind_some]
                rw [if_pos (by simp only [O.len, O.cells]; exact hfl), hput]; rfl
              simp [-storeV_ptr, hy, u0, u3, u4, u5, e1', e2, e3, e4', htl, hst, w3, w2]
              have hset : compactL (l.take (m + 1 + (k2 + 1))) = compactL (l.take m2) ++ [l[m2]] := by
                rw [show m + 1 + (k2 + 1) = m2 + 1 by omega, compact_at l (by omega) hlt3, if_neg (fun e => hy e.symm)]
              refine hK _ _ (by omega) ⟨cur.set tt l[m2], tt + 1, ?_, ?_, by omega, by omega, ?_, by rw [hh2, H.set_set, List.map_set]⟩
              · rw [hset, List.length_append, ← htt]; rfl
              · rw [hset, hcur, List.set_append_right _ _ (by omega), ← htt, Nat.sub_self, List.drop_eq_getElem_cons htl, List.set_cons_zero, List.append_assoc]; rfl
              · simp [u0, u4, hk3, hln]
          · have hml2 : m2 = l.length := by omega
            have hle : l.take m2 = l := List.take_of_length_le (by omega)
            rw [hle] at htt hcur
            have hc1 : ¬ ((k2 + 1 : Nat) : Int) < ((l.length - m : Nat) : Int) := by omega
            obtain ⟨k3, hk3⟩ : ∃ k3, k3 = k2 + 1 := ⟨_, rfl⟩
            obtain ⟨ln, hln⟩ : ∃ ln, ln = l.length - m := ⟨_, rfl⟩
            rw [← hk3] at u5 hc1
            rw [← hln] at u4 hc1
            have hc2 : ¬ k3 < ln := by omega
            simp [u4, u5, hc2]
            refine hR _ _ ⟨cur, by rw [hcur, htt], by simp [u0, u3, htt], by rw [htt] at htm; omega, hh2⟩
      · rintro t h2 ⟨cur, hcur, ⟨u0, u3⟩, htl, rfl⟩
        obtain ⟨tt, htt⟩ : ∃ tt, tt = (compactL l).length := ⟨_, rfl⟩
        rw [← htt] at hcur u3 htl
        have hcl : cur.length = l.length := by rw [hcur, List.length_append, List.length_drop, ← htt]; omega
        have hfl : (cur.map cL).flatten.length = l.length * 3 := by rw [flat_len (map_lenc cL_len cur)]; simp [hcl]
        have s1 : sliceSlV 3 (some (.int .i64 (tt : Int))) none none (.sl j (l.length * 3) 0 l.length none) = some (.sl j (l.length * 3) (tt * 3) (l.length - tt) none) := by
          simp only [sliceSlV, boundV_none, boundV_nat (show tt ≤ l.length by omega)]
          rw [if_pos htl, Nat.zero_add]
        have s2 : sliceSlV 3 none (some (.int .i64 (tt : Int))) none (.sl j (l.length * 3) 0 l.length none) = some (.sl j (l.length * 3) 0 tt none) := by
          simp only [sliceSlV, boundV_none, boundV_nat (show tt ≤ l.length by omega)]
          rw [if_pos hpos]; simp
        obtain ⟨h2, hh2⟩ : ∃ h2, h2 = h'.set j (.grow 3 (cur.map cL).flatten) := ⟨_, rfl⟩
        have hgj : h2.get j = some (.grow 3 (cur.map cL).flatten) := by rw [hh2]; simp
        rw [← hh2]
        obtain ⟨zs, hzs⟩ : ∃ zs, zs = repCells (l.length - tt) [V.int .u32 0, .int .u32 0, .int .u32 0] := ⟨_, rfl⟩
        have hzl : zs.length = (l.length - tt) * 3 := by rw [hzs]; unfold repCells; simp
        obtain ⟨pc, hpc⟩ : ∃ pc, pc = putCells (cur.map cL).flatten (tt * 3) zs := ⟨_, rfl⟩
        have hclr : clearSlV h2.get [V.int .u32 0, .int .u32 0, .int .u32 0] (.sl j (l.length * 3) (tt * 3) (l.length - tt) none) = some (.set j (.grow 3 pc)) := by
          rw [hpc]
          unfold clearSlV
          simp only
          rw [if_neg (by omega), hgj]
          simp only [len_grow]
          rw [if_pos hfl, put_grow, ← hzs, if_pos (by rw [hzl, hfl]; omega)]; rfl
        simp [u0, u3, s1, s2, hclr]
        have w2 : h2.WF := by rw [hh2]; exact wf.set hlt _
        have hpl : pc.length = l.length * 3 := by rw [hpc, put_len _ _ _ (by rw [hzl, hfl]; omega), hfl]
        have hct : cur.take tt = compactL l := by rw [hcur, List.take_append_of_le_length (by omega), List.take_of_length_le (by omega)]
        have hpt : pc.take (tt * 3) = ((compactL l).map cL).flatten := by
          rw [hpc]
          unfold putCells
          rw [List.append_assoc, List.take_append_of_le_length (by rw [List.length_take, hfl]; omega), List.take_take, Nat.min_self, ← flat_take (map_lenc cL_len cur), ← List.map_take, hct]
        refine q _ _ (fun i hi => by rw [H.get_set, if_neg hi, hh2, H.get_set, if_neg hi]) (by rw [hh2]; simp) (w2.set (by rw [hh2]; simpa using hlt) _) ⟨.inr ⟨j, l.length * 3, 0, none, by simp [htt]⟩, map_lenc cL_len _, ?_, by simp; omega⟩ trivial
        rw [elemsV_sl]
        split
        · rename_i h0
          have : compactL l = [] := List.eq_nil_of_length_eq_zero (by omega)
          rw [this]; rfl
        · rw [cellsAt_of (by rw [H.get_set, if_pos rfl]) (by rw [len_grow]; exact hpl)]
          simp only [cells_grow, Nat.zero_add, List.drop_zero]
          rw [if_pos (by rw [hpl]; omega), hpt]
          simp [htt]
    · have w1 : IntKind.i64.wrap ((m : Int) + 1) = ((m + 1 : Nat) : Int) := by rw [wrap_i64_id (by omega) (by omega)]; omega
      simp [hx, t3, w1]
      refine hK _ _ (by omega) ⟨?_, rfl, by omega, ?_⟩
      · first | (simp [t0, hm]; done) | (simp [t0]; omega)
      rw [← hm, compact_at l (by omega) hlt2, if_neg (fun e => hx e.symm), hci, List.take_add_one, List.getElem?_eq_getElem hlt2]; rfl
  · have hmm : m = l.length := by omega
    have hle : l.take m = l := List.take_of_length_le (by omega)
    rw [hle] at hci
    simp [t0, t3, hlt2]
    exact q _ _ (fun _ _ => rfl) rfl wf (by rw [hci]; exact s0) trivial
end Go.Am
