/-
  TXE1, TXE2, TXE3, TXE4, in one text.
-/
import Derived.Test.YtfbmffkgphgoaaaDoorTXA
import Derived.Test.YtfbmffkgphgoaaaDoorCloD
import Derived.Test.YtfbmffkgphgoaaaDoorTX4
/-
  strconv.ParseUint at any string: its errors are objects that the caller compares with nil alone.
-/
namespace Go.Am
open Go.Proofs

set_option maxRecDepth 100000
theorem clone_any {h : H} {s : List UInt8} (hl : s.length < 140737488355328) : Pure Tryd.prog 108 [.str s] h (.str s) := by
  by_cases h0 : s = []
  · subst h0
    refine pure_to Tryd.func108 S.internal_stringslite_Clone_code S.internal_stringslite_Clone_enter rfl (Nat.le_of_ble_eq_true rfl) fun wf => ?_; simp only [S.internal_stringslite_Clone]
    simp
  · exact Go.Proofs.YtfbmffkgphgoaaaDoor.clone_ct s (List.length_pos_iff.2 h0) hl h
def cloP : List V → Option V
  | [.str s] => if s.length < 140737488355328 then some (.str s) else none
  | _ => none
theorem cloP_ok : ∀ p ∈ [(108, cloP)], ∀ vals v, p.2 vals = some v → ∀ h, Acalls Tryd.prog p.1 vals h fun u h' => u = v ∧ h' = h :=
  plain1 fun vals v e h => by
    unfold cloP at e
    split at e
    · split at e
      · rename_i hl
        cases e
        exact clone_any hl
      · cases e
    · cases e
theorem synerr_ct {h : H} {fn s : List UInt8} (hl : s.length < 140737488355328) {Q : V → H → Prop} (q : ∀ p h', Ge h h' → h'.WF → Q (.ptr p 3 0) h') : Acalls Tryd.prog 86 [.str fn, .str s] h Q := by
  refine acalls_to Tryd.func86 S.strconv_syntaxError_code S.strconv_syntaxError_enter (Nat.le_of_ble_eq_true rfl) fun wf => ?_; simp only [S.strconv_syntaxError]
  have g1 : GT.lookup 1 = some [.any] := rfl
  have c1 : cloP [.str s] = some (.str s) := if_pos hl
  have a1 : V.any.solid = true := rfl
  have a2 : V.any.cells = [V.any] := rfl
  have ob : ∀ n, boxV n (.agg [.str fn, .str s, .any]) = some (.ptr n 3 0, .push (.row [.str fn, .str s, .any])) := fun n => rfl
  simp
  refine dreg_plain _ cloP_ok (by rfl) ?_
  simp [List.lookup, c1, g1, a1, a2, ob]
  exact q _ _ ((Ge.refl _).push _) (wf.push _)
theorem ranerr_ct {h : H} {fn s : List UInt8} (hl : s.length < 140737488355328) {Q : V → H → Prop} (q : ∀ p h', Ge h h' → h'.WF → Q (.ptr p 3 0) h') : Acalls Tryd.prog 87 [.str fn, .str s] h Q := by
  refine acalls_to Tryd.func87 S.strconv_rangeError_code S.strconv_rangeError_enter (Nat.le_of_ble_eq_true rfl) fun wf => ?_; simp only [S.strconv_rangeError]
  have g1 : GT.lookup 2 = some [.any] := rfl
  have c1 : cloP [.str s] = some (.str s) := if_pos hl
  have a1 : V.any.solid = true := rfl
  have a2 : V.any.cells = [V.any] := rfl
  have ob : ∀ n, boxV n (.agg [.str fn, .str s, .any]) = some (.ptr n 3 0, .push (.row [.str fn, .str s, .any])) := fun n => rfl
  simp
  refine dreg_plain _ cloP_ok (by rfl) ?_
  simp [List.lookup, c1, g1, a1, a2, ob]
  exact q _ _ ((Ge.refl _).push _) (wf.push _)
/-- toError of the two codes that come. -/
theorem toerr_ct {h : H} {fn s : List UInt8} {k : Nat} (hk : k = 1 ∨ k = 2) (hl : s.length < 140737488355328) {Q : V → H → Prop} (q : ∀ p h', Ge h h' → h'.WF → Q (.iface 109 (.ptr p 3 0)) h') : Acalls Tryd.prog 71 [.str fn, .str s, .int .i64 10, .int .i64 16, .iface 106 (.int .i64 (k : Nat))] h Q := by
  refine acalls_to Tryd.func71 S.strconv_toError_code S.strconv_toError_enter (Nat.le_of_ble_eq_true rfl) fun wf => ?_; simp only [S.strconv_toError]
  have e22 : eqV (TS.ifc [2, 3, 5, 6, 12, 21, 27, 34, 39, 42, 59, 106, 114, 142, 176, 177, 179, 180]) (.iface 106 (.int .i64 2)) (.iface 106 (.int .i64 2)) = some true := rfl
  have e12 : eqV (TS.ifc [2, 3, 5, 6, 12, 21, 27, 34, 39, 42, 59, 106, 114, 142, 176, 177, 179, 180]) (.iface 106 (.int .i64 1)) (.iface 106 (.int .i64 2)) = some false := rfl
  have e11 : eqV (TS.ifc [2, 3, 5, 6, 12, 21, 27, 34, 39, 42, 59, 106, 114, 142, 176, 177, 179, 180]) (.iface 106 (.int .i64 1)) (.iface 106 (.int .i64 1)) = some true := rfl
  rcases hk with rfl | rfl
  · simp [e12, e11]
    refine ranerr_ct hl fun p h' g w => ?_
    simp
    exact q p h' g w
  · simp [e22]
    refine synerr_ct hl fun p h' g w => ?_
    simp
    exact q p h' g w
theorem puE_code : ∀ (l : List UInt8) (acc : Nat), (puE acc l).2 = 0 ∨ (puE acc l).2 = 1 ∨ (puE acc l).2 = 2
  | [], acc => .inl rfl
  | b :: l, acc => by
    rw [puE]
    split
    · split
      · exact puE_code l _
      · exact .inr (.inl rfl)
    · exact .inr (.inr rfl)
theorem puR_code (s : List UInt8) : (puR s).2 = 0 ∨ (puR s).2 = 1 ∨ (puR s).2 = 2 := by
  unfold puR
  split
  · exact .inr (.inr rfl)
  · exact puE_code s 0
/-- strconv.ParseUint(s, 10, 16). -/
theorem puint_any {h : H} {s : List UInt8} (hl : s.length < 140737488355328) {Q : V → H → Prop}
    (q1 : (puR s).2 = 0 → Q (.tup [.int .u64 ((puR s).1 : Nat), .niliface]) h) (q2 : (puR s).2 ≠ 0 → ∀ p h', Ge h h' → h'.WF → Q (.tup [.int .u64 ((puR s).1 : Nat), .iface 109 (.ptr p 3 0)]) h') : Acalls Tryd.prog 51 [.str s, .int .i64 10, .int .i64 16] h Q := by
  refine acalls_to Tryd.func51 S.strconv_ParseUint_code S.strconv_ParseUint_enter (Nat.le_of_ble_eq_true rfl) fun wf => ?_; simp only [S.strconv_ParseUint]
  simp
  refine pui_ct (by omega) _ ?_
  by_cases h0 : (puR s).2 = 0
  · have e : eqV TS.iface .niliface .niliface = some true := rfl
    simp [errV, h0, e]
    exact q1 h0
  · have e : eqV TS.iface (.iface 106 (.int .i64 ((puR s).2 : Nat))) .niliface = some false := rfl
    simp [errV, h0, e]
    refine toerr_ct (by have := puR_code s; omega) hl fun p h' g w => ?_
    simp
    exact q2 h0 p h' g w
end Go.Am

/-
  comm.Parse of what is no community's text.
-/
namespace Go.Am
open Go.Proofs

set_option maxRecDepth 100000
theorem puE_le : ∀ (l : List UInt8) (acc : Nat), acc ≤ 65535 → (puE acc l).1 ≤ 65535
  | [], _, h => h
  | b :: l, acc, h => by
    rw [puE]
    split
    · split
      · rename_i h2; exact puE_le l _ h2
      · exact Nat.le_refl _
    · exact Nat.zero_le _
theorem puR_le (s : List UInt8) : (puR s).1 ≤ 65535 := by
  unfold puR
  split
  · exact Nat.zero_le _
  · exact puE_le s 0 (Nat.zero_le _)
theorem cutS_len : ∀ s : List UInt8, (cutS s).1.length ≤ s.length ∧ (cutS s).2.1.length ≤ s.length
  | [] => ⟨Nat.le_refl _, Nat.le_refl _⟩
  | b :: s => by
    have ih := cutS_len s
    rw [cutS]
    split
    · simp
    · simp only [List.length_cons]; omega
theorem parse_no {h : H} {s : List UInt8} (hl : s.length < 140737488355328) (hno : ∀ c, c < 4294967296 → textC c ≠ s) {Q : V → H → Prop} (q : ∀ h', Ge h h' → h'.WF → Q (.tup [.int .u32 0, .int .i64 4]) h') : Acalls Tryd.prog 15 [.str s] h Q := by
  refine acalls_to Tryd.func15 S.comm_Parse_code S.comm_Parse_enter (Nat.le_of_ble_eq_true rfl) fun wf => ?_; simp only [S.comm_Parse]
  simp
  refine loop_up (fun i t h' => (t 0 = .str s ∧ t 4 = .int .u32 ((4294967041 + i : Nat) : Int)) ∧ h = h') 3 ⟨by simp, rfl⟩ ?_
  rintro i t _ hi ⟨⟨t0, t4⟩, rfl⟩ K hK
  by_cases hlt : i < 3
  · obtain ⟨k, hk⟩ : ∃ k, k = 4294967041 + i := ⟨_, rfl⟩
    rw [← hk] at t4
    have hkI : (k : Int) ≤ 4294967043 := by omega
    have wk : IntKind.u32.wrap ((k : Int) + 1) = ((k + 1 : Nat) : Int) := w32 (by omega) (by omega)
    simp [t4, hkI]
    refine named_ct _ ?_
    have he : nameC k ≠ s := by
      have hk3 : k = 4294967041 ∨ k = 4294967042 ∨ k = 4294967043 := by omega
      have hn : nameC k ≠ [] := by rcases hk3 with rfl | rfl | rfl <;> decide
      have := hno k (by omega)
      unfold textC at this
      rwa [if_neg hn] at this
    have b1 : (nameC k == s) = false := beq_eq_false_iff_ne.2 he
    simp [b1, t0, t4, wk]
    refine hK _ _ hlt ⟨⟨by simp [t0], by simp; omega⟩, rfl⟩
  · have hi3 : i = 3 := by omega
    subst hi3
    obtain ⟨l1, l2⟩ := cutS_len s
    simp [t0, t4]
    refine scut_ct (by omega) _ ?_
    simp
    obtain ⟨a, ha⟩ : ∃ a, a = (puR (cutS s).1).1 := ⟨_, rfl⟩
    obtain ⟨b, hb⟩ : ∃ b, b = (puR (cutS s).2.1).1 := ⟨_, rfl⟩
    have ha2 : a ≤ 65535 := by rw [ha]; exact puR_le _
    have hb2 : b ≤ 65535 := by rw [hb]; exact puR_le _
    have sh : IntKind.u64.wrap ((a : Int) * 2 ^ min 16 IntKind.u64.bits) = ((a * 65536 : Nat) : Int) := by
      rw [show min 16 IntKind.u64.bits = 16 from rfl, show (a : Int) * 2 ^ 16 = ((a * 65536 : Nat) : Int) by omega]; exact u64_id (by omega)
    have o := hl16 a b (by omega) (by omega)
    obtain ⟨x, hx⟩ : ∃ x : Int, x = ((a * 65536 : Nat) : Int) := ⟨_, rfl⟩
    rw [← hx] at sh o
    obtain ⟨c, hc⟩ : ∃ c, c = a * 65536 + b := ⟨_, rfl⟩
    have hc2 : c < 4294967296 := by omega
    rw [← hc] at o
    have wc : IntKind.u32.wrap (c : Int) = c := w32 rfl hc2
    have eqn : eqV TS.iface .niliface .niliface = some true := rfl
    have eqi : ∀ p, eqV TS.iface (.iface 109 (.ptr p 3 0)) .niliface = some false := fun p => rfl
    have wf0 : h.WF := ‹h.WF›
    refine puint_any (by omega) (fun e1 => ?_) (fun e1 p1 h1 g1 w1 => ?_)
    · simp
      refine puint_any (by omega) (fun e2 => ?_) (fun e2 p2 h2 g2 w2 => ?_)
      · simp [← ha, ← hb, sh, o, wc, eqn]
        refine text_ct hc2 _ ?_
        have bt : (textC c == s) = false := beq_eq_false_iff_ne.2 (hno c hc2)
        simp [t0, bt]
        exact q _ (Ge.refl _) wf0
      · simp [← ha, ← hb, sh, o, wc, eqn, eqi]
        exact q _ g2 w2
    · simp
      refine puint_any (by omega) (fun e2 => ?_) (fun e2 p2 h2 g2 w2 => ?_)
      · simp [← ha, ← hb, sh, o, wc, eqi]
        exact q _ g1 w1
      · simp [← ha, ← hb, sh, o, wc, eqi]
        exact q _ (g1.trans g2) w2
end Go.Am

/-
  The reference's Number, Text, Read: of any text.
-/
namespace Go.Am
open Go.Proofs

set_option maxRecDepth 100000
theorem dec_step {n : Nat} (h : 10 ≤ n) (hn : n < 65536) : dec n = dec (n / 10) ++ [dg (n % 10)] := by
  unfold dec
  rw [if_neg (show ¬ n < 10 by omega)]
  by_cases h1 : n < 100
  · rw [if_pos h1, if_pos (show n / 10 < 10 by omega)]; rfl
  · rw [if_neg h1, if_neg (show ¬ n / 10 < 10 by omega)]
    by_cases h2 : n < 1000
    · rw [if_pos h2, if_pos (show n / 10 < 100 by omega), show n / 10 / 10 = n / 100 by omega, show n / 10 % 10 = n % 100 / 10 by omega, show n % 10 = n % 100 % 10 by omega]; rfl
    · rw [if_neg h2, if_neg (show ¬ n / 10 < 100 by omega)]
      by_cases h3 : n < 10000
      · rw [if_pos h3, if_pos (show n / 10 < 1000 by omega), show n / 10 / 100 = n / 100 / 10 by omega, show n / 10 % 100 / 10 = n / 100 % 10 by omega, show n / 10 % 100 % 10 = n % 100 / 10 by omega, show n % 10 = n % 100 % 10 by omega]; rfl
      · rw [if_neg h3, if_neg (show ¬ n / 10 < 1000 by omega), if_pos (show n / 10 < 10000 by omega), show n / 10 / 100 / 10 = n / 10000 by omega, show n / 10 / 100 % 10 = n % 10000 / 100 / 10 by omega,
          show n / 10 % 100 / 10 = n % 10000 / 100 % 10 by omega, show n / 10 % 100 % 10 = n % 10000 % 100 / 10 by omega, show n % 10 = n % 10000 % 100 % 10 by omega]; rfl
theorem rem64 (n k r : Nat) (hk : 0 < k) (h : n % k = r) : intV .rem .u64 (n : Int) (k : Int) = some (.int .u64 (r : Int)) := by
  show (if (k : Int) = 0 then none else some (V.int .u64 ((n : Int).tmod k))) = _
  rw [if_neg (by omega), Int.tmod_eq_emod_of_nonneg (by omega), ← Int.natCast_emod, h]
theorem quo64 (n k r : Nat) (hk : 0 < k) (hn : n < 18446744073709551616) (h : n / k = r) : intV .quo .u64 (n : Int) (k : Int) = some (.int .u64 (r : Int)) := by
  show (if (k : Int) = 0 then none else some (V.int .u64 (IntKind.u64.wrap ((n : Int).tdiv k)))) = _
  have hr : r < 18446744073709551616 := by rw [← h]; exact Nat.lt_of_le_of_lt (Nat.div_le_self _ _) hn
  rw [if_neg (by omega), Int.tdiv_eq_ediv_of_nonneg (by omega), ← Int.natCast_ediv, h]
  simp [IntKind.wrap, IntKind.bits, IntKind.signed]; omega
theorem one_digit {r : Nat} (hr : r < 10) : sliceStrV (some (.int .u64 (r : Int))) (some (.int .u64 ((r + 1 : Nat) : Int))) (.str [48, 49, 50, 51, 52, 53, 54, 55, 56, 57, 97, 98, 99, 100, 101, 102]) = some (.str [dg r]) := by
  have : r = 0 ∨ r = 1 ∨ r = 2 ∨ r = 3 ∨ r = 4 ∨ r = 5 ∨ r = 6 ∨ r = 7 ∨ r = 8 ∨ r = 9 := by omega
  rcases this with rfl | rfl | rfl | rfl | rfl | rfl | rfl | rfl | rfl | rfl <;> rfl
theorem rnum_ct {h : H} (n : Nat) (hn : n < 65536) : Pure Tryd.prog 55 [.int .u64 (n : Nat), .int .u64 10] h (.str (dec n)) := by
  induction n using Nat.strongRecOn with
  | _ n ih =>
    refine pure_to Tryd.func55 S.Href01_Number_code S.Href01_Number_enter rfl (Nat.le_of_ble_eq_true rfl) fun wf => ?_; simp only [S.Href01_Number]
    obtain ⟨r, hr⟩ : ∃ r, r = n % 10 := ⟨_, rfl⟩
    have r1 : intV .rem .u64 (n : Int) 10 = some (.int .u64 (r : Int)) := rem64 n 10 r (by omega) hr.symm
    obtain ⟨n', hn'⟩ : ∃ n', n' = n / 10 := ⟨_, rfl⟩
    have q1 : intV .quo .u64 (n : Int) 10 = some (.int .u64 (n' : Int)) := quo64 n 10 n' (by omega) (by omega) hn'.symm
    have w1 : IntKind.u64.wrap ((r : Int) + 1) = ((r + 1 : Nat) : Int) := by rw [← u64_id (n := r + 1) (by omega)]; rfl
    have o1 := one_digit (r := r) (by omega)
    obtain ⟨r', hr'⟩ : ∃ r' : Int, r' = ((r + 1 : Nat) : Int) := ⟨_, rfl⟩
    rw [← hr'] at w1 o1
    simp
    refine dreg_of ?_
    by_cases h10 : n < 10
    · have i10 : (n : Int) < 10 := by omega
      have hd : dec n = [dg r] := by unfold dec; rw [if_pos h10, hr, Nat.mod_eq_of_lt h10]
      simp [-sliceStrV_str, r1, w1, o1, i10, hd]
    · have i10 : ¬ (n : Int) < 10 := by omega
      simp [-sliceStrV_str, r1, w1, o1, i10, q1]
      refine ih n' (by omega) (by omega) _ ?_
      have hl := dec_len (n := n')
      have hl5 : (dec n').length + 1 ≤ 9223372036854775807 := by rw [hl]; (repeat' split) <;> omega
      simp [hl5, dec_step (show 10 ≤ n by omega) hn, ← hr, ← hn']
theorem rtext_ct {h : H} {c : Nat} (hc : c < 4294967296) : Pure Tryd.prog 18 [.int .u32 (c : Nat)] h (.str (textC c)) := by
  refine pure_to Tryd.func18 S.Href05_Text_code S.Href05_Text_enter rfl (Nat.le_of_ble_eq_true rfl) fun wf => ?_; simp only [S.Href05_Text]
  unfold textC
  by_cases e1 : c = 4294967041
  · subst e1; simp [nameC]
  · have b1 : ((c : Int) == 4294967041) = false := beq_eq_false_iff_ne.2 (by omega)
    by_cases e2 : c = 4294967042
    · subst e2; simp [nameC]
    · have b2 : ((c : Int) == 4294967042) = false := beq_eq_false_iff_ne.2 (by omega)
      by_cases e3 : c = 4294967043
      · subst e3; simp [nameC]
      · have b3 : ((c : Int) == 4294967043) = false := beq_eq_false_iff_ne.2 (by omega)
        have hn : nameC c = [] := by unfold nameC; simp [e1, e2, e3]
        obtain ⟨hi, hhi⟩ : ∃ hi, hi = c / 65536 := ⟨_, rfl⟩
        obtain ⟨lo, hlo⟩ : ∃ lo, lo = c % 65536 := ⟨_, rfl⟩
        have a1 := and16 c hc
        rw [← hlo] at a1
        have w1 : IntKind.u64.wrap (hi : Int) = hi := u64_id (by omega)
        have w2 : IntKind.u64.wrap (lo : Int) = lo := u64_id (by omega)
        have f1 : ((c : Nat) : Int).fdiv (2 ^ min 16 IntKind.u32.bits) = (hi : Int) := by rw [hhi, fd16]; omega
        have k1 : (dec hi).length ≤ 5 := by rw [dec_len]; (repeat' split) <;> omega
        have k2 : (dec lo).length ≤ 5 := by rw [dec_len]; (repeat' split) <;> omega
        rw [← hhi, ← hlo]
        simp [b1, b2, b3, hn, f1, w1]
        refine rnum_ct hi (by omega) _ ?_
        have k3 : (dec hi).length + 1 ≤ 9223372036854775807 := by omega
        have k5 : (dec hi).length + ((dec lo).length + 1) ≤ 9223372036854775807 := by omega
        simp [a1, w2, k3]
        refine rnum_ct lo (by omega) _ ?_
        have k4 : (dec hi).length + 1 + (dec lo).length ≤ 9223372036854775807 := by omega
        simp [k4]
/-- What Read yields at base 10, 65535 at most. -/
def rdV (s : List UInt8) : V := if s = [] ∨ 20 < s.length ∨ (puE 0 s).2 ≠ 0 then .tup [.int .u64 0, .bool false] else .tup [.int .u64 ((puE 0 s).1 : Nat), .bool (dec (puE 0 s).1 == s)]
theorem rdV_ids (s : List UInt8) : (rdV s).ids = [] := by unfold rdV; split <;> rfl
theorem rdV_le (s : List UInt8) : ∃ (m : Nat) (b : Bool), rdV s = .tup [.int .u64 (m : Nat), .bool b] ∧ m ≤ 65535 := by
  unfold rdV
  split
  · exact ⟨0, false, rfl, by omega⟩
  · exact ⟨_, _, rfl, puE_le s 0 (by omega)⟩
theorem rdV_dec {n : Nat} (hn : n < 65536) : rdV (dec n) = .tup [.int .u64 (n : Nat), .bool true] := by
  have h1 := puR_dec hn
  unfold puR at h1
  rw [if_neg (dec_ne n)] at h1
  unfold rdV
  rw [h1, if_neg]
  · simp
  · rintro (h | h | h)
    · exact dec_ne n h
    · rw [dec_len] at h; (repeat' split at h) <;> omega
    · exact h rfl
theorem read_ct {h : H} {s : List UInt8} : Pure Tryd.prog 54 [.str s, .int .u64 10, .int .u64 65535] h (rdV s) := by
  refine pure_to Tryd.func54 S.Href01_Read_code S.Href01_Read_enter (by exact rdV_ids s) (Nat.le_of_ble_eq_true rfl) fun wf => ?_; simp only [S.Href01_Read]
  by_cases h0 : s = []
  · subst h0; simp [rdV]
  · have hp0 : 0 < s.length := List.length_pos_iff.2 h0
    have b0 : ((s.length : Int) == 0) = false := beq_eq_false_iff_ne.2 (by omega)
    by_cases h20 : 20 < s.length
    · have i20 : (20 : Int) < (s.length : Int) := by omega
      simp [b0, h0, i20, h20, rdV]
    · have i20 : ¬ (20 : Int) < (s.length : Int) := by omega
      simp [b0, i20]
      refine loop_up (fun i t h' => ∃ acc : Nat, (t 0 = .str s ∧ t 1 = .int .u64 10 ∧ t 2 = .int .u64 65535 ∧ t 8 = .int .u64 (acc : Nat) ∧ t 9 = .int .i64 (i : Nat)) ∧ h' = h ∧ acc ≤ 65535 ∧ puE 0 s = puE acc (s.drop i)) s.length ⟨0, by simp, rfl, by omega, by simp⟩ ?_
      rintro i t h' hi ⟨acc, ⟨t0, t1, t2, t8, t9⟩, rfl, ha, hp⟩ K hK
      by_cases hlt : i < s.length
      · have hw := wrap_succ hlt (by omega)
        rw [puE_step hlt] at hp
        obtain ⟨b, hb⟩ : ∃ b : Nat, b = s[i].toNat := ⟨_, rfl⟩
        rw [← hb] at hp
        have hb2 : b < 256 := by rw [hb]; exact UInt8.toNat_lt _
        have g1 : s[i]? = some s[i] := List.getElem?_eq_getElem hlt
        have bad : ¬ (48 ≤ b ∧ b ≤ 57) → rdV s = .tup [.int .u64 0, .bool false] := fun hn => by
          unfold rdV
          rw [if_pos]
          exact .inr (.inr (by rw [hp, if_neg hn]; simp))
        have hr : b < 48 ∨ (48 ≤ b ∧ b ≤ 57) ∨ (58 ≤ b ∧ b ≤ 96) ∨ (97 ≤ b ∧ b ≤ 102) ∨ 103 ≤ b := by omega
        rcases hr with hr | hr | hr | hr | hr
        · have n1 : ¬ (48 : Int) ≤ (b : Int) := by omega
          have n2 : ¬ (97 : Int) ≤ (b : Int) := by omega
          simp [t0, t1, t9, hlt, ← hb, n1, n2, bad (by omega)]
        · have n1 : (48 : Int) ≤ (b : Int) := by omega
          have n2 : (b : Int) ≤ 57 := by omega
          have n3 : ¬ (97 : Int) ≤ (b : Int) := by omega
          obtain ⟨k, hk⟩ : ∃ k, k = b - 48 := ⟨_, rfl⟩
          have w1 : IntKind.u8.wrap ((b : Int) - 48) = (k : Int) := w8 (by omega) (by omega)
          have w2 : IntKind.u64.wrap (k : Int) = (k : Int) := u64_id (by omega)
          have n4 : ¬ (10 : Int) ≤ (k : Int) := by omega
          have w3 : IntKind.u64.wrap (65535 - (k : Int)) = ((65535 - k : Nat) : Int) := by rw [← u64_id (n := 65535 - k) (by omega)]; congr 1; omega
          obtain ⟨q, hq⟩ : ∃ q, q = (65535 - k) / 10 := ⟨_, rfl⟩
          obtain ⟨y, hy⟩ : ∃ y, y = 65535 - k := ⟨_, rfl⟩
          rw [← hy] at w3 hq
          have q1 : intV .quo .u64 (y : Int) 10 = some (.int .u64 (q : Int)) := quo64 y 10 q (by omega) (by omega) hq.symm
          rw [if_pos hr, ← hk] at hp
          by_cases hle : acc * 10 + k ≤ 65535
          · have n5 : ¬ (q : Int) < (acc : Int) := by omega
            have w4 : IntKind.u64.wrap ((acc : Int) * 10) = ((acc * 10 : Nat) : Int) := by rw [← u64_id (n := acc * 10) (by omega)]; congr 1
            have w5 : IntKind.u64.wrap (((acc * 10 : Nat) : Int) + (k : Int)) = ((acc * 10 + k : Nat) : Int) := by rw [← u64_id (n := acc * 10 + k) (by omega)]; congr 1
            obtain ⟨m, hm⟩ : ∃ m : Int, m = ((acc * 10 : Nat) : Int) := ⟨_, rfl⟩
            rw [← hm] at w4 w5
            rw [if_pos hle] at hp
            simp [t0, t1, t2, t8, t9, hlt, ← hb, n1, n2, n3, w1, w2, n4, w3, q1, n5, w4, w5, hw]
            refine hK _ _ hlt ⟨acc * 10 + k, by simp [t0, t1, t2], rfl, hle, hp⟩
          · have n5 : (q : Int) < (acc : Int) := by omega
            rw [if_neg hle] at hp
            have bad2 : rdV s = .tup [.int .u64 0, .bool false] := by
              unfold rdV
              rw [if_pos]
              exact .inr (.inr (by rw [hp]; simp))
            simp [t0, t1, t2, t8, t9, hlt, ← hb, n1, n2, n3, w1, w2, n4, w3, q1, n5, bad2]
        · have n1 : (48 : Int) ≤ (b : Int) := by omega
          have n2 : ¬ (b : Int) ≤ 57 := by omega
          have n3 : ¬ (97 : Int) ≤ (b : Int) := by omega
          simp [t0, t1, t9, hlt, ← hb, n1, n2, n3, bad (by omega)]
        · have n1 : (48 : Int) ≤ (b : Int) := by omega
          have n2 : ¬ (b : Int) ≤ 57 := by omega
          have n3 : (97 : Int) ≤ (b : Int) := by omega
          have n4 : (b : Int) ≤ 102 := by omega
          obtain ⟨k, hk⟩ : ∃ k, k = b - 97 := ⟨_, rfl⟩
          have w1 : IntKind.u8.wrap ((b : Int) - 97) = (k : Int) := w8 (by omega) (by omega)
          have w2 : IntKind.u64.wrap (k : Int) = (k : Int) := u64_id (by omega)
          have w3 : IntKind.u64.wrap ((k : Int) + 10) = ((k + 10 : Nat) : Int) := by rw [← u64_id (n := k + 10) (by omega)]; congr 1
          have n5 : (10 : Int) ≤ ((k + 10 : Nat) : Int) := by omega
          obtain ⟨m, hm⟩ : ∃ m : Int, m = ((k + 10 : Nat) : Int) := ⟨_, rfl⟩
          rw [← hm] at w3 n5
          simp [t0, t1, t9, hlt, ← hb, n1, n2, n3, n4, w1, w2, w3, n5, bad (by omega)]
        · have n1 : (48 : Int) ≤ (b : Int) := by omega
          have n2 : ¬ (b : Int) ≤ 57 := by omega
          have n3 : (97 : Int) ≤ (b : Int) := by omega
          have n4 : ¬ (b : Int) ≤ 102 := by omega
          simp [t0, t1, t9, hlt, ← hb, n1, n2, n3, n4, bad (by omega)]
      · have : i = s.length := by omega
        subst this
        rw [List.drop_length] at hp
        have hv : rdV s = .tup [.int .u64 (acc : Nat), .bool (dec acc == s)] := by
          unfold rdV
          rw [hp, if_neg]
          · rfl
          · rintro (h | h | h)
            · exact h0 h
            · exact h20 h
            · exact h rfl
        simp [t0, t1, t8, t9]
        refine rnum_ct acc (by omega) _ ?_
        simp [t0, hv]
end Go.Am

/-
  The reference's Split and Parse of any text; targets; CommTexts' contract.
-/
namespace Go.Am
open Go.Proofs

set_option maxRecDepth 100000
def splitS : List UInt8 → List UInt8 → List (List UInt8)
  | [], acc => [acc]
  | b :: s, acc => if b = 58 then acc :: splitS s [] else splitS s (acc ++ [b])
theorem splitS_no : ∀ {s acc : List UInt8}, 58 ∉ s → splitS s acc = [acc ++ s]
  | [], acc, _ => by simp [splitS]
  | b :: s, acc, h => by
    rw [splitS, if_neg (fun e => h (by simp [e])), splitS_no (fun e => h (by simp [e]))]
    simp
theorem splitS_at : ∀ {a b acc : List UInt8}, 58 ∉ a → 58 ∉ b → splitS (a ++ 58 :: b) acc = [acc ++ a, b]
  | [], b, acc, _, hb => by
    rw [List.nil_append, splitS, if_pos rfl, splitS_no hb]
    simp
  | x :: a, b, acc, ha, hb => by
    rw [List.cons_append, splitS, if_neg (fun e => ha (by simp [e])), splitS_at (fun e => ha (by simp [e])) hb]
    simp
theorem splitS_len : ∀ (s acc : List UInt8), (splitS s acc).length ≤ s.length + 1
  | [], acc => by simp [splitS]
  | b :: s, acc => by
    rw [splitS]
    split
    · have := splitS_len s []; simp only [List.length_cons]; omega
    · have := splitS_len s (acc ++ [b]); simp only [List.length_cons]; omega
def cS (x : List UInt8) : List V := [.str x]
theorem map_cS (l : List (List UInt8)) : ∀ e ∈ l.map cS, e.length = 1 := fun e he => by obtain ⟨n, _, rfl⟩ := List.mem_map.1 he; rfl
theorem split_ct {h : H} {s : List UInt8} (hl : s.length ≤ 2000000) {Q : V → H → Prop} (q : ∀ v h', Ge h h' → h'.WF → Sls h'.get 1 v ((splitS s []).map cS) → Q v h') : Acalls Tryd.prog 53 [.str s, .int .u8 58] h Q := by
  refine acalls_to Tryd.func53 S.Href01_Split_code S.Href01_Split_enter (Nat.le_of_ble_eq_true rfl) fun wf => ?_; simp only [S.Href01_Split]
  simp
  refine loop_up (fun i t h' => ∃ (v : V) (f : Nat) (es : List (List UInt8)), (t 0 = .str s ∧ t 1 = .int .u8 58 ∧ t 5 = v ∧ t 6 = .int .i64 (f : Nat) ∧ t 7 = .int .i64 (i : Nat)) ∧ Ge h h' ∧ h'.WF ∧ Gl h' h.next 1 v (es.map cS) ∧ es.length ≤ i ∧ ((i ≤ s.length ∧ f ≤ i ∧ es ++ splitS (s.drop i) ((s.take i).drop f) = splitS s []) ∨ (i = s.length + 1 ∧ es = splitS s []))) (s.length + 1) ⟨.nilsl, 0, [], by simp, Ge.refl _, wf, Gl.nil _ _ _, by simp, .inl ⟨by omega, by omega, by simp⟩⟩ ?_
  rintro i t h' hi ⟨v, f, es, ⟨t0, t1, t5, t6, t7⟩, gb, wb, gl, hel, hcase⟩ K hK
  have hw : IntKind.i64.wrap ((i : Int) + 1) = (i : Int) + 1 := wrap_i64_id (by omega) (by omega)
  have more : ∀ x : List UInt8, ∃ v' d, appendV (h'.push (.row [V.str x])).get (h'.next + 1) 1 16 v (.sl h'.next 1 0 1 (some 1)) = some (v', d) ∧ Gl ((h'.push (.row [V.str x])).app d) h.next 1 v' ((es ++ [x]).map cS) ∧ Ge h ((h'.push (.row [V.str x])).app d) ∧ ((h'.push (.row [V.str x])).app d).WF := by
    intro x
    have gl3 : Gl (h'.push (.row (cS x))) h.next 1 v (es.map cS) := gl.keep (by simp) fun y hy => by
      have := (gl.lo y hy).2
      rw [H.get_push, if_neg (by omega)]
    obtain ⟨v', d, ea, gl4, hn4, hk4, hw4⟩ := gl3.append (bytes := 16) (x := .sl h'.next 1 0 1 (some 1)) (e := cS x) (by have := gb.1; simp; omega) (map_cS _) rfl (by simp [elemsV_sl, cS]) rfl (by decide) (by simp; omega) (by simp; omega)
    refine ⟨v', d, ea, by rw [List.map_append]; exact gl4, ⟨Nat.le_trans gb.1 (Nat.le_trans (by simp) hn4), fun y hy => ?_⟩, hw4 (wb.push _)⟩
    have := hk4 y (fun hx2 => by have := (gl.lo _ hx2).1; omega) (by have := gb.1; simp; omega)
    refine this.trans ?_
    rw [H.get_push, if_neg (by have := gb.1; omega)]
    exact gb.2 y hy
  rcases hcase with ⟨hi2, hf, hes⟩ | ⟨rfl, rfl⟩
  · by_cases hlt : i < s.length
    · have g1 : s[i]? = some s[i] := List.getElem?_eq_getElem hlt
      rw [List.drop_eq_getElem_cons hlt, splitS] at hes
      have bne : ((i : Int) == (s.length : Int)) = false := beq_eq_false_iff_ne.2 (by omega)
      by_cases hb : s[i] = 58
      · rw [if_pos hb] at hes
        have b2 : ((s[i].toNat : Int) == 58) = true := by rw [hb]; rfl
        obtain ⟨v', d, ea, gl', g', w'⟩ := more ((s.take i).drop f)
        simp [t0, t1, t5, t6, t7, hi2, bne, g1, b2, hf, ea, hw]
        refine hK _ _ (by omega) ⟨v', i + 1, es ++ [(s.take i).drop f], by simp [t0, t1], g', w', gl', by simp; omega, .inl ⟨by omega, by omega, ?_⟩⟩
        rw [List.drop_of_length_le (l := s.take (i + 1)) (by simp; omega)]
        simpa using hes
      · rw [if_neg hb] at hes
        have b2 : ((s[i].toNat : Int) == 58) = false := beq_eq_false_iff_ne.2 (fun e => hb (UInt8.toNat_inj.1 (by show s[i].toNat = 58; omega)))
        simp [t0, t1, t7, hi2, bne, g1, b2, hw]
        refine hK _ _ (by omega) ⟨v, f, es, by simp [t0, t1, t5, t6], gb, wb, gl, by omega, .inl ⟨by omega, by omega, ?_⟩⟩
        rw [List.take_add_one, g1, List.drop_append_of_le_length (by simp; omega)]
        exact hes
    · have : i = s.length := by omega
      subst this
      rw [List.drop_length, splitS] at hes
      obtain ⟨v', d, ea, gl', g', w'⟩ := more ((s.take s.length).drop f)
      rw [List.take_length] at ea gl' g' w' hes
      simp [t0, t5, t6, t7, hf, ea, hw]
      refine hK _ _ (by omega) ⟨v', s.length + 1, es ++ [s.drop f], by simp [t0, t1], g', w', gl', by simp; omega, .inr ⟨rfl, hes⟩⟩
  · have n1 : ¬ (s.length : Int) + 1 ≤ (s.length : Int) := by omega
    simp [t0, t5, t7, n1]
    exact q _ _ gb wb (gl.sls (map_cS _) (by have := splitS_len s []; simp; omega))
/-- The community that a text is of. -/
def parV : Option Nat → V
  | some c => .tup [.int .u32 (c : Nat), .int .i64 0]
  | none => .tup [.int .u32 0, .int .i64 4]
def parR (s : List UInt8) : Option Nat → Prop
  | some c => c < 4294967296 ∧ textC c = s
  | none => ∀ c, c < 4294967296 → textC c ≠ s
theorem parR_ex (s : List UInt8) : ∃ r, parR s r := by
  by_cases h : ∃ c, c < 4294967296 ∧ textC c = s
  · obtain ⟨c, h1, h2⟩ := h; exact ⟨some c, h1, h2⟩
  · exact ⟨none, fun c h1 h2 => h ⟨c, h1, h2⟩⟩
theorem textC_name {k : Nat} (h : nameC k ≠ []) : textC k = nameC k := by unfold textC; rw [if_neg h]
theorem nameC_is {k : Nat} (h : 4294967041 ≤ k ∧ k ≤ 4294967043) : nameC k ≠ [] := by
  have : k = 4294967041 ∨ k = 4294967042 ∨ k = 4294967043 := by omega
  rcases this with rfl | rfl | rfl <;> decide
theorem name_at {c k : Nat} (hk : nameC k ≠ []) (he : textC c = nameC k) : c = k := by
  by_cases hn : nameC c = []
  · exfalso
    have h58 : 58 ∈ textC c := by unfold textC; rw [if_pos hn]; simp
    exact nameC_no k (by rw [← he]; exact h58)
  · rw [textC_name hn] at he
    unfold nameC at he hn hk
    (repeat' split at he) <;> (repeat' split at hn) <;> (repeat' split at hk) <;> first | omega | (exact absurd he (by decide)) | (exact absurd rfl hk) | (exact absurd rfl hn)
theorem split_text {c : Nat} (hc : c < 4294967296) (hn : nameC c = []) : splitS (textC c) [] = [dec (c / 65536), dec (c % 65536)] := by
  have : textC c = dec (c / 65536) ++ 58 :: dec (c % 65536) := by unfold textC; rw [if_pos hn]; simp
  rw [this, splitS_at (dec_no (by omega)) (dec_no (by omega))]
  simp
theorem hl16u (hi lo : Nat) (h1 : hi < 65536) (h2 : lo < 65536) : intV .or .u32 ((hi * 65536 : Nat) : Int) (lo : Int) = some (.int .u32 ((hi * 65536 + lo : Nat) : Int)) := by
  have e1 : (BitVec.ofInt 32 ((hi * 65536 : Nat) : Int)).toNat = 2 ^ 16 * hi := by simp [BitVec.toNat_ofInt]; omega
  have e2 : (BitVec.ofInt 32 (lo : Int)).toNat = lo := by simp; omega
  have e3 : (BitVec.ofInt 32 ((hi * 65536 : Nat) : Int) ||| BitVec.ofInt 32 (lo : Int)).toNat = hi * 65536 + lo := by
    rw [BitVec.toNat_or, e1, e2, ← Nat.two_pow_add_eq_or_of_lt (by omega)]; omega
  show some (V.int .u32 (IntKind.u32.wrap ((BitVec.ofInt 32 ((hi * 65536 : Nat) : Int) ||| BitVec.ofInt 32 (lo : Int)).toNat : Int))) = _
  rw [e3, w32 rfl (by omega)]
theorem rparse_ct {h : H} {s : List UInt8} {r : Option Nat} (hl : s.length ≤ 2000000) (hr : parR s r) {Q : V → H → Prop} (q : ∀ h', Ge h h' → h'.WF → Q (parV r) h') : Acalls Tryd.prog 17 [.str s] h Q := by
  refine acalls_to Tryd.func17 S.Href05_Parse_code S.Href05_Parse_enter (Nat.le_of_ble_eq_true rfl) fun wf => ?_; simp only [S.Href05_Parse]
  have rc : repCells 3 [V.int .u32 0] = [V.int .u32 0, V.int .u32 0, V.int .u32 0] := rfl
  simp [rc]
  obtain ⟨L, hL⟩ : ∃ L, L = [V.int .u32 4294967041, V.int .u32 4294967042, V.int .u32 4294967043] := ⟨_, rfl⟩
  rw [← hL]
  obtain ⟨h1, hh1⟩ : ∃ h1, h1 = h.push (.row L) := ⟨_, rfl⟩
  rw [← hh1]
  have g1 : Ge h h1 := by rw [hh1]; exact (Ge.refl _).push _
  have w1 : h1.WF := by rw [hh1]; exact wf.push _
  have ca : cellsAt h1.get h.next 3 = some L := by rw [hh1, hL]; simp
  refine loop_up (fun i t h' => (t 0 = .str s ∧ t 12 = .sl h.next 3 0 3 (some 3) ∧ t 13 = .int .i64 3 ∧ t 14 = .int .i64 (i : Nat)) ∧ h' = h1 ∧ ∀ j, j < i → nameC (4294967041 + j) ≠ s) 3 ⟨by simp, rfl, by omega⟩ ?_
  rintro i t h' hi ⟨⟨t0, t12, t13, t14⟩, rfl, hne⟩ K hK
  by_cases hlt : i < 3
  · obtain ⟨k, hk⟩ : ∃ k, k = 4294967041 + i := ⟨_, rfl⟩
    have hLi : L[i]? = some (.int .u32 (k : Int)) := by
      have : i = 0 ∨ i = 1 ∨ i = 2 := by omega
      rw [hL, hk]
      rcases this with rfl | rfl | rfl <;> rfl
    have wk : IntKind.i64.wrap ((i : Int) + 1) = (i : Int) + 1 := wrap_i64_id (by omega) (by omega)
    have hkn : nameC k ≠ [] := nameC_is (by omega)
    have ht := textC_name hkn
    have i3 : (i : Int) < 3 := by omega
    simp [t12, t13, t14, i3, ca, hLi]
    refine rtext_ct (by omega) _ ?_
    rw [ht]
    by_cases he : nameC k = s
    · have hrk : r = some k := by
        cases r with
        | none => exact absurd (ht.trans he) (hr k (by omega))
        | some c => rw [name_at hkn (hr.2.trans he.symm)]
      simp [t0, he]
      rw [hrk] at q
      exact q _ g1 w1
    · have b1 : (nameC k == s) = false := beq_eq_false_iff_ne.2 he
      simp [t0, b1, t14, wk]
      refine hK _ _ hlt ⟨⟨by simp [t0], by simp [t12], by simp [t13], by simp⟩, rfl, fun j hj => ?_⟩
      by_cases hji : j = i
      · subst hji; rw [← hk]; exact he
      · exact hne j (by omega)
  · have hi3 : i = 3 := by omega
    subst hi3
    have no : ∀ c, r = some c → nameC c = [] := by
      intro c hrc
      subst hrc
      by_cases hn : nameC c = []
      · exact hn
      · exfalso
        have hcs := hr.2
        rw [textC_name hn] at hcs
        have h41 := hne 0 (by omega)
        have h42 := hne 1 (by omega)
        have h43 := hne 2 (by omega)
        rw [← hcs] at h41 h42 h43
        have : c = 4294967041 ∨ c = 4294967042 ∨ c = 4294967043 := by
          unfold nameC at hn
          (repeat' split at hn) <;> first | omega | (exact absurd rfl hn)
        rcases this with rfl | rfl | rfl
        · exact h41 rfl
        · exact h42 rfl
        · exact h43 rfl
    simp [t0, t13, t14]
    refine split_ct hl fun v h2 g2 w2 hs => ?_
    have g3 : Ge h h2 := g1.trans g2
    have hlen := hs.len
    simp at hlen
    obtain ⟨l, hl2⟩ : ∃ l, l = splitS s [] := ⟨_, rfl⟩
    rw [← hl2] at hs hlen
    by_cases h22 : l.length = 2
    · have b2 : ((l.length : Int) != 2) = false := by rw [h22]; rfl
      obtain ⟨x, y, rfl⟩ : ∃ x y, l = [x, y] := by
        match l, h22 with
        | [x, y], _ => exact ⟨x, y, rfl⟩
      obtain ⟨p0, n0, o0, c0, e1, e2, e3⟩ := hs.at1 (f := fun x : List UInt8 => V.str x) (k := 0) (by simp)
      obtain ⟨p1, n1, o1, c1, f1, f2, f3⟩ := hs.at1 (f := fun x : List UInt8 => V.str x) (k := 1) (by simp)
      have e1' : indexAddrV 1 v (.int .i64 0) = some (.ptr p0 n0 o0) := e1 .i64
      have f1' : indexAddrV 1 v (.int .i64 1) = some (.ptr p1 n1 o1) := f1 .i64
      simp at e3 f3
      obtain ⟨a, ba, ra, ha⟩ := rdV_le x
      obtain ⟨b, bb, rb, hb⟩ := rdV_le y
      have sh : IntKind.u32.wrap ((a : Int) * 2 ^ min 16 IntKind.u32.bits) = ((a * 65536 : Nat) : Int) := w32 (by rw [show min 16 IntKind.u32.bits = 16 from rfl]; omega) (by omega)
      have wa : IntKind.u32.wrap (a : Int) = (a : Int) := w32 rfl (by omega)
      have wb : IntKind.u32.wrap (b : Int) = (b : Int) := w32 rfl (by omega)
      have o := hl16u a b (by omega) (by omega)
      obtain ⟨z, hz⟩ : ∃ z : Int, z = ((a * 65536 : Nat) : Int) := ⟨_, rfl⟩
      rw [← hz] at sh o
      obtain ⟨c', hc'⟩ : ∃ c', c' = a * 65536 + b := ⟨_, rfl⟩
      have hc2 : c' < 4294967296 := by omega
      rw [← hc'] at o
      have tc := rtext_ct (h := h2) hc2
      simp [hlen, e1', e2, e3]
      refine read_ct _ ?_
      rw [ra]
      simp [f1', f2, f3]
      refine read_ct _ ?_
      rw [rb]
      simp [wa, sh, wb, o]
      cases r with
      | none =>
        have he : textC c' ≠ s := hr c' hc2
        have b1 : (textC c' == s) = false := beq_eq_false_iff_ne.2 he
        cases ba <;> cases bb <;> simp
        · exact q _ g3 w2
        · exact q _ g3 w2
        · exact q _ g3 w2
        · refine tc _ ?_
          simp [t0, b1]
          exact q _ g3 w2
      | some c =>
        have hn := no c rfl
        have hsp := split_text hr.1 hn
        rw [hr.2, ← hl2] at hsp
        have hcl := hr.1
        simp only [List.cons.injEq, and_true] at hsp
        rw [hsp.1, rdV_dec (by omega)] at ra
        rw [hsp.2, rdV_dec (by omega)] at rb
        simp only [V.tup.injEq, List.cons.injEq, V.int.injEq, V.bool.injEq, and_true, true_and] at ra rb
        obtain ⟨ra1, ra2⟩ := ra
        obtain ⟨rb1, rb2⟩ := rb
        have hcc : c' = c := by omega
        have he : textC c' = s := by rw [hcc]; exact hr.2
        subst ra2 rb2
        simp
        refine tc _ ?_
        simp [t0, he]
        have := q _ g3 w2
        rw [← hcc] at this
        exact this
    · have b2 : ((l.length : Int) != 2) = true := by simp; omega
      have hrn : r = none := by
        cases r with
        | none => rfl
        | some c =>
          exfalso
          have hsp := split_text hr.1 (no c rfl)
          rw [hr.2, ← hl2] at hsp
          rw [hsp] at h22
          exact h22 rfl
      subst hrn
      simp [hlen, b2]
      exact q _ g3 w2
theorem cparse_ct {h : H} {s : List UInt8} {r : Option Nat} (hl : s.length ≤ 2000000) (hr : parR s r) {Q : V → H → Prop} (q : ∀ h', Ge h h' → h'.WF → Q (parV r) h') : Acalls Tryd.prog 15 [.str s] h Q := by
  cases r with
  | none => exact parse_no (by omega) hr q
  | some c =>
    obtain ⟨h1, rfl⟩ := hr
    exact Acalls.wf (pack_ct (h := h) h1 (fun _ _ => True) trivial).1 fun w => pack_ct h1 _ (q h (Ge.refl _) w)
theorem or64t (k x b : Nat) (hb : b < 2 ^ k) (hv : x * 2 ^ k + b < 18446744073709551616) {p q r : Int} (hp : p = ((x * 2 ^ k : Nat) : Int)) (hq : q = (b : Int)) (hr : r = ((x * 2 ^ k + b : Nat) : Int)) : intV .or .u64 p q = some (.int .u64 r) := by
  subst hp hq hr
  have hy : ∀ y : Nat, y < 18446744073709551616 → (BitVec.ofInt 64 (y : Int)).toNat = y := fun y h => by simp; omega
  have h1 := hy (x * 2 ^ k) (by omega)
  have h2 := hy b (by omega)
  have h3 : (BitVec.ofInt 64 ((x * 2 ^ k : Nat) : Int) ||| BitVec.ofInt 64 (b : Int)).toNat = x * 2 ^ k + b := by
    rw [BitVec.toNat_or, h1, h2, Nat.mul_comm x, ← Nat.two_pow_add_eq_or_of_lt hb]
  show some (V.int .u64 (IntKind.u64.wrap ((BitVec.ofInt 64 ((x * 2 ^ k : Nat) : Int) ||| BitVec.ofInt 64 (b : Int)).toNat : Int))) = _
  rw [h3, u64_id hv]
theorem shl32t (a : Nat) (ha : a < 65536) : IntKind.u64.wrap ((a : Int) * 2 ^ min 32 IntKind.u64.bits) = ((a * 4294967296 : Nat) : Int) := by
  have : (a : Int) * 2 ^ min 32 IntKind.u64.bits = ((a * 4294967296 : Nat) : Int) := by
    rw [show min 32 IntKind.u64.bits = 32 from rfl]; omega
  rw [this, u64_id (by omega)]
theorem target_ct {h : H} {a b : Nat} (ha : a < 65536) (hb : b < 4294967296) : Pure Tryd.prog 21 [.int .u16 (a : Nat), .int .u32 (b : Nat)] h (.int .u64 ((562949953421312 + a * 4294967296 + b : Nat) : Int)) := by
  refine pure_to Tryd.func21 S.comm_Target_code S.comm_Target_enter rfl (Nat.le_of_ble_eq_true rfl) fun wf => ?_; simp only [S.comm_Target]
  have wa : IntKind.u64.wrap (a : Int) = a := u64_id (by omega)
  have wb : IntKind.u64.wrap (b : Int) = b := u64_id (by omega)
  obtain ⟨m, hm⟩ : ∃ m, m = a * 4294967296 := ⟨_, rfl⟩
  obtain ⟨m2, hm2⟩ : ∃ m2, m2 = 562949953421312 + m := ⟨_, rfl⟩
  have s1 := shl32t a (by omega)
  rw [← hm] at s1
  have o1 : intV .or .u64 562949953421312 (m : Int) = some (.int .u64 (m2 : Int)) := or64t 49 1 m (by omega) (by omega) (by omega) rfl (by omega)
  have o2 : intV .or .u64 (m2 : Int) (b : Int) = some (.int .u64 ((m2 + b : Nat) : Int)) := or64t 32 (131072 + a) b (by omega) (by omega) (by omega) rfl (by omega)
  simp [wa, wb, s1, o1, o2]
  omega
theorem rtarget_ct {h : H} {a b : Nat} (ha : a < 65536) (hb : b < 4294967296) : Pure Tryd.prog 22 [.int .u16 (a : Nat), .int .u32 (b : Nat)] h (.int .u64 ((562949953421312 + a * 4294967296 + b : Nat) : Int)) := by
  refine pure_to Tryd.func22 S.Href05_Target_code S.Href05_Target_enter rfl (Nat.le_of_ble_eq_true rfl) fun wf => ?_; simp only [S.Href05_Target]
  have wa : IntKind.u64.wrap (a : Int) = a := u64_id (by omega)
  have wb : IntKind.u64.wrap (b : Int) = b := u64_id (by omega)
  obtain ⟨m, hm⟩ : ∃ m, m = a * 4294967296 := ⟨_, rfl⟩
  obtain ⟨m2, hm2⟩ : ∃ m2, m2 = 562949953421312 + m := ⟨_, rfl⟩
  have s1 := shl32t a (by omega)
  rw [← hm] at s1
  have o1 : intV .or .u64 562949953421312 (m : Int) = some (.int .u64 (m2 : Int)) := or64t 49 1 m (by omega) (by omega) (by omega) rfl (by omega)
  have o2 : intV .or .u64 (m2 : Int) (b : Int) = some (.int .u64 ((m2 + b : Nat) : Int)) := or64t 32 (131072 + a) b (by omega) (by omega) (by omega) rfl (by omega)
  simp [wa, wb, s1, o1, o2]
  omega
theorem fd48t (n : Nat) : ((n : Nat) : Int).fdiv (2 ^ min 48 IntKind.u64.bits) = (n : Int) / 281474976710656 := Int.fdiv_eq_ediv_of_nonneg _ (by decide)
theorem ist_ct {h : H} {x : Nat} : Pure Tryd.prog 19 [.int .u64 (x : Nat)] h (.bool ((x : Int) / 281474976710656 == 2)) := by
  refine pure_to Tryd.func19 S.comm_IsTarget_code S.comm_IsTarget_enter rfl (Nat.le_of_ble_eq_true rfl) fun wf => ?_; simp only [S.comm_IsTarget]
  simp [fd48t]
theorem rist_ct {h : H} {x : Nat} : Pure Tryd.prog 20 [.int .u64 (x : Nat)] h (.bool ((x : Int) / 281474976710656 == 2)) := by
  refine pure_to Tryd.func20 S.Href05_IsTarget_code S.Href05_IsTarget_enter rfl (Nat.le_of_ble_eq_true rfl) fun wf => ?_; simp only [S.Href05_IsTarget]
  simp [fd48t]
theorem ctexts_ct {h : H} {c x : Nat} {s : List UInt8} (hc : c < 4294967296) (hl : s.length ≤ 2000000) : Pure Tryd.prog 5 [.int .u32 (c : Nat), .int .u64 (x : Nat), .str s] h (.bool true) := by
  refine pure_to Tryd.func5 S.Hlaw05_CommTexts_code S.Hlaw05_CommTexts_enter rfl (Nat.le_of_ble_eq_true rfl) fun wf => ?_; simp only [S.Hlaw05_CommTexts]
  obtain ⟨r, hr⟩ := parR_ex s
  obtain ⟨m, e, hv⟩ : ∃ m e : Int, parV r = .tup [.int .u32 m, .int .i64 e] := by cases r <;> exact ⟨_, _, rfl⟩
  have eqb : ∀ b : Bool, eqV TS.bool (.bool b) (.bool b) = some true := fun b => by cases b <;> rfl
  have w16 : IntKind.u16.wrap (x : Int) = ((x % 65536 : Nat) : Int) := by simp [IntKind.wrap, IntKind.bits, IntKind.signed]
  obtain ⟨a, ha⟩ : ∃ a, a = x % 65536 := ⟨_, rfl⟩
  rw [← ha] at w16
  simp
  refine cparse_ct hl hr fun h1 g1 wf1 => ?_
  rw [hv]
  simp
  refine rparse_ct hl hr fun h2 g2 wf2 => ?_
  rw [hv]
  simp
  refine text_ct hc _ ?_
  simp
  refine rtext_ct hc _ ?_
  simp
  refine ist_ct _ ?_
  simp
  refine rist_ct _ ?_
  simp [eqb, w16]
  refine target_ct (by omega) hc _ ?_
  simp [w16]
  refine rtarget_ct (by omega) hc _ ?_
  simp
  refine works_ct _ _ ?_
  simp
  exact g1.trans g2
end Go.Am
