/-
  T4, T5, T6, in one text.
-/
import Derived.Test.YtcokdbloajhapaaGreatDoorME
import Derived.Test.YtcokdbloajhapaaGreatDoorMB
import Derived.Test.YtcokdbloajhapaaGreatDoorMG
/-
  The reference's contracts: told prefixes: what may be, their bytes, their size.
-/
namespace Go.Am
open Go.Proofs

set_option maxRecDepth 100000
theorem rmayn_ct {h : H} {n : Nl} : Pure Tryz.prog 23 [.agg (nlC n)] h (.bool (mayN n)) := by
  refine pure_to Tryz.func23 S.Href07_May_code S.Href07_May_enter rfl (Nat.le_of_ble_eq_true rfl) fun wf => ?_; simp only [S.Href07_May]
  obtain ⟨h1, hh1⟩ : ∃ h1, h1 = h.push (.row (nlC n)) := ⟨_, rfl⟩
  have g1 : Ge h h1 := by rw [hh1]; exact (Ge.refl _).push _
  have c1 : cellsAt h1.get h.next 6 = some (nlC n) := by rw [hh1, cellsAt_of (by simp; rfl) (by simp [nlC])]; rfl
  simp only [nlC] at hh1 c1 ⊢
  simp
  rw [← hh1]
  refine rmay_ct (p := n.p) _ ?_
  cases hp : mayP n.p with
  | false =>
    have m : mayN n = false := by simp [mayN, hp]
    simp [m, g1]
  | true =>
    by_cases e1 : n.label ≤ 1048575
    · have e1' : ((n.label : Nat) : Int) ≤ 1048575 := by omega
      by_cases e2 : n.label = 0
      · have m : mayN n = true := by simp [mayN, hp, e2]
        simp [c1, e2, m, g1]
      · have b2 : (((n.label : Nat) : Int) == 0) = false := beq_no (by omega)
        simp [c1, e1', b2]
        refine rlabel_ct _ ?_
        have m : mayN n = labelF n.p.fam := by simp [mayN, hp, e1, e2]
        simp [m, g1]
    · have e1' : ¬ ((n.label : Nat) : Int) ≤ 1048575 := by omega
      have m : mayN n = false := by simp [mayN, hp, e1]
      simp [c1, e1', m, g1]
theorem rcheckn_ct {h : H} {n : Nl} : Pure Tryz.prog 9 [.agg (nlC n)] h (.int .i64 (if mayN n = true then 0 else 2)) := by
  refine pure_to Tryz.func9 S.Href07_Check_code S.Href07_Check_enter rfl (Nat.le_of_ble_eq_true rfl) fun wf => ?_; simp only [S.Href07_Check]
  obtain ⟨h1, hh1⟩ : ∃ h1, h1 = h.push (.row (nlC n)) := ⟨_, rfl⟩
  have g1 : Ge h h1 := by rw [hh1]; exact (Ge.refl _).push _
  have c1 : cellsAt h1.get h.next 6 = some (nlC n) := by rw [hh1, cellsAt_of (by simp; rfl) (by simp [nlC])]; rfl
  simp only [nlC] at hh1 c1 ⊢
  simp
  rw [← hh1]
  refine rmayn_ct (n := n) _ ?_
  cases mayN n <;> simp [g1]
theorem fd24 (n : Nat) : ((n : Nat) : Int).fdiv (2 ^ min 24 IntKind.u32.bits) = (n : Int) / 16777216 := Int.fdiv_eq_ediv_of_nonneg _ (by decide)
theorem fd16 (n : Nat) : ((n : Nat) : Int).fdiv (2 ^ min 16 IntKind.u32.bits) = (n : Int) / 65536 := Int.fdiv_eq_ediv_of_nonneg _ (by decide)
theorem fd8 (n : Nat) : ((n : Nat) : Int).fdiv (2 ^ min 8 IntKind.u32.bits) = (n : Int) / 256 := Int.fdiv_eq_ediv_of_nonneg _ (by decide)
/-- A number's low byte. -/
theorem lowb {z : Int} {m : Nat} (h : z = (m : Int)) : ∃ b : UInt8, b = UInt8.ofNat m ∧ IntKind.u8.wrap z = (b.toNat : Int) := ⟨_, rfl, by subst h; simp [IntKind.wrap, IntKind.bits, IntKind.signed]⟩
theorem u8n (b : UInt8) : u8Of (.int .u8 (b.toNat : Int)) = some b := by simp [u8Of]
theorem be1 (n : Nat) : be 1 n = [UInt8.ofNat n] := by simp [be]
theorem be3 (n : Nat) : be 3 n = [UInt8.ofNat (n / 65536), UInt8.ofNat (n / 256), UInt8.ofNat n] := by simp [be]
theorem be4 (n : Nat) : be 4 n = [UInt8.ofNat (n / 16777216), UInt8.ofNat (n / 65536), UInt8.ofNat (n / 256), UInt8.ofNat n] := by simp [be]
theorem four_ct {h : H} {n : Nat} : Pure Tryz.prog 49 [.int .u32 (n : Nat)] h (.str (be 4 n)) := by
  refine pure_to Tryz.func49 S.Href05_Four_code S.Href05_Four_enter rfl (Nat.le_of_ble_eq_true rfl) fun wf => ?_; simp only [S.Href05_Four]
  have r4 : repCells 4 [V.int .u8 0] = [.int .u8 0, .int .u8 0, .int .u8 0, .int .u8 0] := rfl
  obtain ⟨b1, h1, w1⟩ := lowb (z := (n : Int) / 16777216) (m := n / 16777216) (by omega)
  obtain ⟨b2, h2, w2⟩ := lowb (z := (n : Int) / 65536) (m := n / 65536) (by omega)
  obtain ⟨b3, h3, w3⟩ := lowb (z := (n : Int) / 256) (m := n / 256) (by omega)
  obtain ⟨b4, h4, w4⟩ := lowb (z := (n : Int)) (m := n) rfl
  rw [be4, ← h1, ← h2, ← h3, ← h4]
  simp [fd24, fd16, fd8, r4, w1, w2, w3, w4, elemsV_sl, u8n]
theorem shl4 (n : Nat) (h : n < 1048576) : IntKind.u32.wrap ((n : Int) * 2 ^ min 4 IntKind.u32.bits) = ((n * 16 : Nat) : Int) := by
  have : (n : Int) * 2 ^ min 4 IntKind.u32.bits = ((n * 16 : Nat) : Int) := by
    rw [show min 4 IntKind.u32.bits = 4 from rfl]; omega
  rw [this]
  simp [IntKind.wrap, IntKind.bits, IntKind.signed]; omega
theorem or_one32 (v : Nat) (hv : v < 1048576) : intV .or .u32 ((v * 16 : Nat) : Int) 1 = some (.int .u32 ((v * 16 + 1 : Nat) : Int)) := by
  have h1 : (BitVec.ofInt 32 ((v * 16 : Nat) : Int)).toNat = 2 ^ 4 * v := by simp [BitVec.toNat_ofInt]; omega
  have h2 : (BitVec.ofInt 32 1).toNat = 1 := by decide
  have h3 : (BitVec.ofInt 32 ((v * 16 : Nat) : Int) ||| BitVec.ofInt 32 1).toNat = v * 16 + 1 := by
    rw [BitVec.toNat_or, h1, h2, ← Nat.two_pow_add_eq_or_of_lt (by omega)]; omega
  show some (V.int .u32 (IntKind.u32.wrap ((BitVec.ofInt 32 ((v * 16 : Nat) : Int) ||| BitVec.ofInt 32 1).toNat : Int))) = _
  rw [h3]
  congr 2
  simp [IntKind.wrap, IntKind.bits, IntKind.signed]; omega
theorem fd32 (n : Nat) : ((n : Nat) : Int).fdiv (2 ^ min 32 IntKind.u64.bits) = (n : Int) / 4294967296 := Int.fdiv_eq_ediv_of_nonneg _ (by decide)
theorem be8 (n : Nat) : be 8 n = be 4 (n / 4294967296) ++ be 4 n := by
  simp [be, Nat.div_div_eq_div_mul]
theorem ofNat_mod {a b : Nat} (h : a % 256 = b % 256) : UInt8.ofNat a = UInt8.ofNat b := UInt8.toNat_inj.1 (by simpa using h)
theorem be4_mod (n : Nat) : be 4 (n % 4294967296) = be 4 n := by
  simp only [be4, List.cons.injEq, and_true]
  exact ⟨ofNat_mod (by omega), ofNat_mod (by omega), ofNat_mod (by omega), ofNat_mod (by omega)⟩
theorem raheadP_ok : ∀ vals v, aheadP vals = some v → ∀ h, Pure Tryz.prog 50 vals h v := by
  intro vals v e h
  unfold aheadP at e
  split at e
  · cases e; exact rahead_ct
  · cases e
def fourP : List V → Option V
  | [.int .u32 x] => if 0 ≤ x then some (.str (be 4 x.toNat)) else none
  | _ => none
theorem fourP_eq (n : Nat) : fourP [.int .u32 (n : Int)] = some (.str (be 4 n)) := by simp [fourP]
theorem fourP_ok : ∀ vals v, fourP vals = some v → ∀ h, Pure Tryz.prog 49 vals h v := by
  intro vals v e h
  unfold fourP at e
  split at e
  · rename_i x
    split at e
    · rename_i hx
      cases e
      obtain ⟨n, rfl⟩ : ∃ n : Nat, x = n := ⟨x.toNat, by omega⟩
      simp only [Int.toNat_natCast]
      exact four_ct
    · cases e
  · cases e
theorem one_ct {h : H} {add : Bool} {n : Nl} (hm : mayN n = true) (hid : n.id < 4294967296) (hrd : n.p.rd < 18446744073709551616) : Pure Tryz.prog 24 [.agg (nlC n), .bool add] h (.str (enc1 add n)) := by
  refine pure_to Tryz.func24 S.Href07_one_code S.Href07_one_enter rfl (Nat.le_of_ble_eq_true rfl) fun wf => ?_; simp only [S.Href07_one]
  have hp : mayP n.p = true := by simp only [mayN, Bool.and_eq_true] at hm; exact hm.1.1
  simp only [mayP, Bool.and_eq_true, Bool.or_eq_true, decide_eq_true_eq] at hp
  obtain ⟨⟨⟨⟨⟨h0, h1⟩, h2⟩, h3⟩, h4⟩, h5⟩ := hp
  have hlab : n.label < 1048576 := by simp only [mayN, Bool.and_eq_true, decide_eq_true_eq] at hm; omega
  have sl := size_le n.p.fam
  have al := ahead_le n.p.fam
  obtain ⟨ln, hln⟩ : ∃ ln : Nat, n.p.len = ln := ⟨n.p.len.toNat, by omega⟩
  obtain ⟨g1, hg1⟩ : ∃ g1, g1 = h.push (.row (nlC n)) := ⟨_, rfl⟩
  have ge1 : Ge h g1 := by rw [hg1]; exact (Ge.refl _).push _
  have wf1 : g1.WF := by rw [hg1]; exact wf.push _
  have c1 : cellsAt g1.get h.next 6 = some (nlC n) := by rw [hg1, cellsAt_of (by simp; rfl) (by simp [nlC])]; rfl
  have n1 : g1.next = h.next + 1 := by rw [hg1]; simp
  simp only [nlC, hln] at hg1 c1 ⊢
  simp
  rw [← hg1]
  obtain ⟨pre, hpre⟩ : ∃ pre, pre = if add = true then be 4 n.id else [] := ⟨_, rfl⟩
  have lpre : pre.length ≤ 4 := by rw [hpre]; split <;> simp [be_len]
  refine cond_cut (fun t h' => t 2 = .ptr h.next 6 0 ∧ t 5 = .str pre ∧ h' = g1) (fun e R hR => ?_) (fun e R hR => ?_) ?_
  · simp [c1]
    refine four_ct _ ?_
    simp
    exact hR _ _ ⟨by simp, by simp [hpre, e], rfl⟩
  · simp
    exact hR _ _ ⟨by simp, by simp [hpre, e], rfl⟩
  rintro t h' ⟨t2, t5, rfl⟩
  obtain ⟨g2, hg2⟩ : ∃ g2, g2 = h'.push (.row (pfxC n.p)) := ⟨_, rfl⟩
  have ge2 : Ge h g2 := by rw [hg2]; exact ge1.push _
  have c2 : cellsAt g2.get h'.next 4 = some (pfxC n.p) := by rw [hg2]; simp [pfxC]
  have c1' : cellsAt g2.get h.next 6 = some [.int .i64 n.p.fam, .int .u64 (n.p.rd : Nat), .str n.p.addr, .int .i64 (ln : Nat), .int .u32 (n.id : Nat), .int .u32 (n.label : Nat)] := by
    rw [hg2]; simp [c1, n1]
  simp only [pfxC, hln] at hg2 c2
  simp [t2, c1, H.push_set]
  rw [← hg2]
  refine dreg_plain [(50, aheadP)] (plain1 raheadP_ok) (by rfl) ?_
  have f1 : pre.length + 1 ≤ 9223372036854775807 := by omega
  have wa : IntKind.i64.wrap ((ln : Int) + (aheadN n.p.fam : Nat)) = (ln : Int) + (aheadN n.p.fam : Nat) := wrap_i64_id (by omega) (by omega)
  obtain ⟨b1, hb1, wb1⟩ := lowb (z := (ln : Int) + (aheadN n.p.fam : Nat)) (m := ln + aheadN n.p.fam) (by omega)
  have n2 : g2.next = h.next + 2 := by rw [hg2]; simp [n1]
  have q1 : ¬ h'.next = g2.next := by omega
  have q2 : ¬ h.next = g2.next := by omega
  simp [List.lookup, t5, c2, wa, wb1, elemsV_sl, u8n, f1, q1]
  refine rlabel_ct _ ?_
  obtain ⟨g3, hg3⟩ : ∃ g3, g3 = g2.push (.row [V.int .u8 (b1.toNat : Int)]) := ⟨_, rfl⟩
  have ge3 : Ge h g3 := by rw [hg3]; exact ge2.push _
  have c3 : cellsAt g3.get h'.next 4 = some [.int .i64 n.p.fam, .int .u64 (n.p.rd : Nat), .str n.p.addr, .int .i64 (ln : Nat)] := by rw [hg3]; simp [c2, q1]
  have c3' : cellsAt g3.get h.next 6 = some [.int .i64 n.p.fam, .int .u64 (n.p.rd : Nat), .str n.p.addr, .int .i64 (ln : Nat), .int .u32 (n.id : Nat), .int .u32 (n.label : Nat)] := by rw [hg3]; simp [c1', q2]
  have n3 : g3.next = h.next + 3 := by rw [hg3]; simp [n2]
  rw [← hg3]
  obtain ⟨p2, hp2⟩ : ∃ p2, p2 = pre ++ [b1] ++ (if labelF n.p.fam = true then be 3 (n.label * 16 + 1) else []) := ⟨_, rfl⟩
  have lp2 : p2.length ≤ 8 := by rw [hp2]; simp only [List.length_append, List.length_singleton]; split <;> simp [be_len] <;> omega
  refine cond_cut (fun t' g => t' 2 = .ptr h.next 6 0 ∧ t' 5 = .str p2 ∧ t' 6 = .ptr h'.next 4 0 ∧ Ge g3 g) (fun e R hR => ?_) (fun e R hR => ?_) ?_
  · have s4 := shl4 n.label hlab
    have o1 := or_one32 n.label hlab
    obtain ⟨v, hv⟩ : ∃ v, v = n.label * 16 + 1 := ⟨_, rfl⟩
    rw [← hv] at o1
    have hq2 := hp2
    rw [if_pos e, ← hv, be3] at hq2
    obtain ⟨x1, hx1, wx1⟩ := lowb (z := (v : Int) / 65536) (m := v / 65536) (by omega)
    obtain ⟨x2, hx2, wx2⟩ := lowb (z := (v : Int) / 256) (m := v / 256) (by omega)
    obtain ⟨x3, hx3, wx3⟩ := lowb (z := (v : Int)) (m := v) rfl
    rw [← hx1, ← hx2, ← hx3] at hq2
    obtain ⟨w, hw⟩ : ∃ w : Int, w = ((n.label * 16 : Nat) : Int) := ⟨_, rfl⟩
    rw [← hw] at s4 o1
    have r3 : repCells 3 [V.int .u8 0] = [.int .u8 0, .int .u8 0, .int .u8 0] := rfl
    have f2 : pre.length + 1 + 3 ≤ 9223372036854775807 := by omega
    simp [t2, c3', s4, o1, fd16, fd8, wx1, wx2, wx3, r3, elemsV_sl, u8n, f2]
    refine hR _ _ ⟨by simp [t2], by simp [hq2], by simp, (Ge.refl _).push _⟩
  · simp
    exact hR _ _ ⟨by simp [t2], by simp [hp2, e], by simp, Ge.refl _⟩
  clear t5 t2
  rintro t2 g4 ⟨t2a, t5a, t6a, ge4⟩
  have ge4' : Ge h g4 := ge3.trans ge4
  have c4 : cellsAt g4.get h'.next 4 = some [.int .i64 n.p.fam, .int .u64 (n.p.rd : Nat), .str n.p.addr, .int .i64 (ln : Nat)] := by rw [ge4.cells (by omega), c3]
  simp [t6a, c4]
  refine rapart_ct _ ?_
  obtain ⟨p3, hp3⟩ : ∃ p3, p3 = p2 ++ (if apartF n.p.fam = true then be 8 n.p.rd else []) := ⟨_, rfl⟩
  have lp3 : p3.length ≤ 16 := by rw [hp3]; simp only [List.length_append]; split <;> simp [be_len] <;> omega
  refine cond_cut (fun t' g => t' 5 = .str p3 ∧ t' 6 = .ptr h'.next 4 0 ∧ g = g4) (fun e R hR => ?_) (fun e R hR => ?_) ?_
  · obtain ⟨hi, hhi⟩ : ∃ hi, hi = n.p.rd / 4294967296 := ⟨_, rfl⟩
    obtain ⟨lo, hlo⟩ : ∃ lo, lo = n.p.rd % 4294967296 := ⟨_, rfl⟩
    have wu1 : IntKind.u32.wrap ((n.p.rd : Int) / 4294967296) = (hi : Int) := by rw [hhi]; simp [IntKind.wrap, IntKind.bits, IntKind.signed]; omega
    have wu2 : IntKind.u32.wrap (n.p.rd : Int) = (lo : Int) := by rw [hlo]; simp [IntKind.wrap, IntKind.bits, IntKind.signed]
    have hq3 := hp3
    rw [if_pos e, be8, ← hhi, ← be4_mod n.p.rd, ← hlo, ← List.append_assoc] at hq3
    have f3 : p2.length + 4 ≤ 9223372036854775807 := by omega
    have f4 : p2.length + 4 + 4 ≤ 9223372036854775807 := by omega
    refine dreg_plain [(49, fourP)] (plain1 fourP_ok) (by rfl) ?_
    simp [List.lookup, t5a, t6a, c4, fd32, wu1, wu2, fourP_eq, be_len, f3, f4]
    exact hR _ _ ⟨by simp [hq3], by simp [t6a], rfl⟩
  · simp
    exact hR _ _ ⟨by simp [hp3, e, t5a], by simp [t6a], rfl⟩
  rintro t3 g5 ⟨t5b, t6b, rfl⟩
  have w7 : IntKind.i64.wrap ((ln : Int) + 7) = (ln : Int) + 7 := wrap_i64_id (by omega) (by omega)
  have q := quo8 (z := (ln : Int) + 7) (by omega) (by omega)
  have e7 : ((ln : Int) + 7) / 8 = (wholeN ln : Nat) := by unfold wholeN; omega
  rw [e7] at q
  have hwl : wholeN ln ≤ n.p.addr.length := by unfold wholeN; omega
  have f9 : p3.length + wholeN ln ≤ 9223372036854775807 := by omega
  have fin : enc1 add n = p3 ++ n.p.addr.take (wholeN ln) := by
    unfold enc1
    rw [show n.p.len.toNat = ln by omega, be1, hp3, hp2, hpre, hb1]
  simp [t5b, t6b, c4, w7, q, hwl, f9, fin]
  exact ge4'
theorem rsizen_ct {h : H} {n : Nl} {add : Bool} (hid : n.id < 4294967296) (hrd : n.p.rd < 18446744073709551616) :
    Pure Tryz.prog 7 [.agg (nlC n), .bool add] h (.tup [.int .i64 (if mayN n = true then ((enc1 add n).length : Nat) else 0), .int .i64 (if mayN n = true then 0 else 2)]) := by
  refine pure_to Tryz.func7 S.Href07_Size_code S.Href07_Size_enter rfl (Nat.le_of_ble_eq_true rfl) fun wf => ?_; simp only [S.Href07_Size]
  obtain ⟨h1, hh1⟩ : ∃ h1, h1 = h.push (.row (nlC n)) := ⟨_, rfl⟩
  have g1 : Ge h h1 := by rw [hh1]; exact (Ge.refl _).push _
  have c1 : cellsAt h1.get h.next 6 = some (nlC n) := by rw [hh1, cellsAt_of (by simp; rfl) (by simp [nlC])]; rfl
  simp only [nlC] at hh1 c1 ⊢
  simp
  rw [← hh1]
  refine rmayn_ct (n := n) _ ?_
  cases hm : mayN n with
  | false => simp [g1]
  | true =>
    simp [c1]
    refine one_ct (n := n) hm hid hrd _ ?_
    simp [g1]
end Go.Am

/-
  The reference's order of told prefixes; NlriTells answers true.
-/
namespace Go.Am
open Go.Proofs

set_option maxRecDepth 100000
theorem cmpI_byte (x y : UInt8) : cmpI (x.toNat : Int) (y.toNat : Int) = cmpI x.toNat y.toNat := rfl
theorem rcmp_ct {h : H} {a b : Pfx} (ha : a.addr.length < 9223372036854775808) : Pure Tryz.prog 30 [.agg (pfxC a), .agg (pfxC b)] h (.int .i64 (cmpPf a b)) := by
  refine pure_to Tryz.func30 S.Href01_Cmp_code S.Href01_Cmp_enter rfl (Nat.le_of_ble_eq_true rfl) fun wf => ?_; simp only [S.Href01_Cmp]
  obtain ⟨h2, hh2⟩ : ∃ h2, h2 = (h.push (.row (pfxC a))).push (.row (pfxC b)) := ⟨_, rfl⟩
  have g2 : Ge h h2 := by rw [hh2]; exact ((Ge.refl _).push _).push _
  have c1 : cellsAt h2.get h.next 4 = some (pfxC a) := by rw [hh2]; simp [pfxC]
  have c2 : cellsAt h2.get (h.next + 1) 4 = some (pfxC b) := by rw [hh2]; simp [pfxC]
  simp only [pfxC] at hh2 c1 c2 ⊢
  simp
  rw [← hh2]
  by_cases e1 : a.fam = b.fam
  · have b1 : (a.fam != b.fam) = false := by rw [e1]; simp
    have z1 : cmpI a.fam b.fam = 0 := cmpI_zero.2 e1
    by_cases e2 : a.rd = b.rd
    · have b2 : (((a.rd : Nat) : Int) != ((b.rd : Nat) : Int)) = false := by rw [e2]; simp
      have z2 : cmpI (a.rd : Int) (b.rd : Int) = 0 := cmpI_zero.2 (by rw [e2])
      simp [b1, b2, c1, c2]
      refine loop_up (fun i t h' => (t 2 = .ptr h.next 4 0 ∧ t 3 = .ptr (h.next + 1) 4 0 ∧ t 5 = .int .i64 (i : Nat)) ∧ h' = h2 ∧ i ≤ b.addr.length ∧ a.addr.take i = b.addr.take i) a.addr.length ⟨by simp, rfl, by omega, by simp⟩ ?_
      rintro i t h' hi ⟨⟨t2, t3, t5⟩, rfl, hib, htk⟩ K hK
      have fin : cmpPf a b = orI (Go.Lib.compareBytes a.addr b.addr) (cmpI a.len b.len) := by
        simp only [cmpPf, z1, z2, orI_zero]
      by_cases hA : i < a.addr.length
      · by_cases hB : i < b.addr.length
        · have hA' : (i : Int) < (a.addr.length : Int) := by omega
          have hB' : (i : Int) < (b.addr.length : Int) := by omega
          have ga : a.addr[i]? = some a.addr[i] := List.getElem?_eq_getElem hA
          have gb : b.addr[i]? = some b.addr[i] := List.getElem?_eq_getElem hB
          have hw := wrap_succ hA (by omega)
          simp [t2, t3, t5, c1, c2, hA, hB]
          refine dreg_of ?_
          by_cases hx : a.addr[i] = b.addr[i]
          · simp [t2, t3, t5, c1, c2, ga, gb, hx, hw]
            refine hK _ _ hA ⟨by simp [t2, t3], rfl, by omega, ?_⟩
            rw [List.take_add_one, List.take_add_one, htk, ga, gb, hx]
          · have hne : ¬ (a.addr[i].toNat : Int) = (b.addr[i].toNat : Int) := by
              intro e; exact hx (UInt8.toNat_inj.1 (by omega))
            have bx : ((a.addr[i].toNat : Int) != (b.addr[i].toNat : Int)) = true := by simpa using hne
            have w1 : IntKind.i64.wrap (a.addr[i].toNat : Int) = (a.addr[i].toNat : Int) := by
              have := a.addr[i].toNat_lt; exact wrap_i64_id (by omega) (by omega)
            have w2 : IntKind.i64.wrap (b.addr[i].toNat : Int) = (b.addr[i].toNat : Int) := by
              have := b.addr[i].toNat_lt; exact wrap_i64_id (by omega) (by omega)
            simp [t2, t3, t5, c1, c2, ga, gb, bx]
            refine dreg_of ?_
            simp [t2, t3, t5, c1, c2, ga, gb, w1, w2]
            refine scall_of (rorder_ct (a := a.addr[i].toNat) (b := b.addr[i].toNat)) ?_
            have nz : cmpI (a.addr[i].toNat : Int) (b.addr[i].toNat : Int) ≠ 0 := fun e => hne (cmpI_zero.1 e)
            have r : cmpPf a b = cmpI (a.addr[i].toNat : Int) (b.addr[i].toNat : Int) := by
              rw [fin, cb_at hA hB htk hx, orI_nz nz]
            simp [r, g2]
        · have hB' : i = b.addr.length := by omega
          have hl : ((a.addr.length : Int) != (b.addr.length : Int)) = true := by
            have : ¬ (a.addr.length : Int) = (b.addr.length : Int) := by omega
            simpa using this
          have nz : cmpI (a.addr.length : Int) (b.addr.length : Int) ≠ 0 := fun e => by rw [cmpI_zero] at e; omega
          have r : cmpPf a b = cmpI (a.addr.length : Int) (b.addr.length : Int) := by
            rw [fin, cb_end (by omega) hib (.inr hB') htk, orI_nz nz]
          simp [t2, t3, t5, c1, c2, hA, hB, hl]
          refine rorder_ct _ ?_
          simp [r, g2]
      · have hA' : i = a.addr.length := by omega
        by_cases hl : a.addr.length = b.addr.length
        · have bl : ((a.addr.length : Int) != (b.addr.length : Int)) = false := by rw [hl]; simp
          have r : cmpPf a b = cmpI a.len b.len := by
            rw [fin, cb_end (by omega) hib (.inl hA') htk, show cmpI (a.addr.length : Int) (b.addr.length : Int) = 0 from cmpI_zero.2 (by omega), orI_zero]
          simp [t2, t3, t5, c1, c2, hA, bl]
          refine rorder_ct _ ?_
          simp [r, g2]
        · have bl : ((a.addr.length : Int) != (b.addr.length : Int)) = true := by
            have : ¬ (a.addr.length : Int) = (b.addr.length : Int) := by omega
            simpa using this
          have nz : cmpI (a.addr.length : Int) (b.addr.length : Int) ≠ 0 := fun e => by rw [cmpI_zero] at e; omega
          have r : cmpPf a b = cmpI (a.addr.length : Int) (b.addr.length : Int) := by
            rw [fin, cb_end (by omega) hib (.inl hA') htk, orI_nz nz]
          simp [t2, t3, t5, c1, c2, hA, bl]
          refine rorder_ct _ ?_
          simp [r, g2]
    · have b2 : (((a.rd : Nat) : Int) != ((b.rd : Nat) : Int)) = true := by
        have : ¬ ((a.rd : Nat) : Int) = ((b.rd : Nat) : Int) := by omega
        simpa using this
      by_cases e3 : a.rd < b.rd
      · have r : cmpPf a b = -1 := by
          simp only [cmpPf, z1, orI_zero]
          have : cmpI (a.rd : Int) (b.rd : Int) = -1 := by unfold cmpI; rw [if_pos (by omega)]
          rw [this]; rfl
        simp [b1, b2, c1, c2, e3, r, g2]
      · have r : cmpPf a b = 1 := by
          simp only [cmpPf, z1, orI_zero]
          have : cmpI (a.rd : Int) (b.rd : Int) = 1 := by unfold cmpI; rw [if_neg (by omega), if_pos (by omega)]
          rw [this]; rfl
        simp [b1, b2, c1, c2, e3, r, g2]
  · have b1 : (a.fam != b.fam) = true := by simpa using e1
    have nz : cmpI a.fam b.fam ≠ 0 := fun e => e1 (cmpI_zero.1 e)
    have r : cmpPf a b = cmpI a.fam b.fam := by simp only [cmpPf]; rw [orI_nz nz]
    simp [b1, c1, c2]
    refine rorder_ct _ ?_
    simp [r, g2]
theorem rcmpn_ct {h : H} {a b : Nl} (ha : a.p.addr.length < 9223372036854775808) : Pure Tryz.prog 11 [.agg (nlC a), .agg (nlC b)] h (.int .i64 (cmpNl a b)) := by
  refine pure_to Tryz.func11 S.Href07_Cmp_code S.Href07_Cmp_enter rfl (Nat.le_of_ble_eq_true rfl) fun wf => ?_; simp only [S.Href07_Cmp]
  obtain ⟨h2, hh2⟩ : ∃ h2, h2 = (h.push (.row (nlC a))).push (.row (nlC b)) := ⟨_, rfl⟩
  have g2 : Ge h h2 := by rw [hh2]; exact ((Ge.refl _).push _).push _
  have c1 : cellsAt h2.get h.next 6 = some (nlC a) := by rw [hh2]; simp [nlC]
  have c2 : cellsAt h2.get (h.next + 1) 6 = some (nlC b) := by rw [hh2]; simp [nlC]
  simp only [nlC] at hh2 c1 c2 ⊢
  simp
  rw [← hh2]
  refine rcmp_ct (a := a.p) (b := b.p) ha _ ?_
  by_cases z1 : cmpPf a.p b.p = 0
  · simp [z1, c1, c2]
    refine rorder7_ct _ ?_
    by_cases z2 : cmpI (a.id : Int) (b.id : Int) = 0
    · simp [z2, c1, c2]
      refine rorder7_ct _ ?_
      simp [cmpNl, z1, z2, orI_zero, g2]
    · have b2 : (cmpI (a.id : Int) (b.id : Int) == 0) = false := beq_no z2
      simp [z2, b2, cmpNl, z1, orI_zero, orI_nz, g2]
  · have b1 : (cmpPf a.p b.p == 0) = false := beq_no z1
    simp [z1, b1, cmpNl, orI_nz, g2]
end Go.Am

/-
  NlriTells answers true.
-/
namespace Go.Am
open Go.Proofs

set_option maxRecDepth 100000
structure NlFits (n : Nl) : Prop where
  id : n.id < 4294967296
  rd : n.p.rd < 18446744073709551616
  addr : n.p.addr.length < 9223372036854775808
theorem tells_ct {h : H} {a b : Nl} {add : Bool} (ha : NlFits a) (hb : NlFits b) : Pure Tryz.prog 3 [.agg (nlC a), .agg (nlC b), .bool add] h (.bool true) := by
  refine pure_to Tryz.func3 S.Hlaw07_NlriTells_code S.Hlaw07_NlriTells_enter rfl (Nat.le_of_ble_eq_true rfl) fun wf => ?_; simp only [S.Hlaw07_NlriTells]
  obtain ⟨h2, hh2⟩ : ∃ h2, h2 = (h.push (.row (nlC a))).push (.row (nlC b)) := ⟨_, rfl⟩
  have g2 : Ge h h2 := by rw [hh2]; exact ((Ge.refl _).push _).push _
  have w2 : h2.WF := by rw [hh2]; exact (wf.push _).push _
  have c1 : cellsAt h2.get h.next 6 = some (nlC a) := by rw [hh2]; simp [nlC]
  have c2 : cellsAt h2.get (h.next + 1) 6 = some (nlC b) := by rw [hh2]; simp [nlC]
  simp only [nlC] at hh2 c1 c2 ⊢
  simp
  rw [← hh2]
  refine size_ct (n := a) _ ?_
  simp [c1]
  refine rsizen_ct (n := a) ha.id ha.rd _ ?_
  simp
  refine dreg_quiet w2 ?_
  simp [c1]
  refine qcall_of (v := .int .i64 (if mayN a = true then 0 else 2)) rfl (fun h3 _ => ncheck_ct (n := a)) ?_
  simp [c1]
  refine qcall_of (v := .int .i64 (if mayN a = true then 0 else 2)) rfl (fun h3 _ => rcheckn_ct (n := a)) ?_
  simp [c1, c2]
  refine qcall_of (v := .int .i64 (cmpNl a b)) rfl (fun h3 _ => ncmp_ct (a := a) (b := b)) ?_
  simp [c1, c2]
  refine qcall_of (v := .int .i64 (cmpNl a b)) rfl (fun h3 _ => rcmpn_ct (a := a) (b := b) ha.addr) ?_
  simp [c1, c2]
  refine qcall_of (v := .int .i64 (cmpNl b a)) rfl (fun h3 _ => ncmp_ct (a := b) (b := a)) ?_
  simp [c1, c2]
  refine qcall_of (v := .int .i64 (cmpNl b a)) rfl (fun h3 _ => rcmpn_ct (a := b) (b := a) hb.addr) ?_
  simp
  refine qcall_of (v := .bool true) rfl (fun h3 _ => works_ct h3) ?_
  simp [g2]
end Go.Am
