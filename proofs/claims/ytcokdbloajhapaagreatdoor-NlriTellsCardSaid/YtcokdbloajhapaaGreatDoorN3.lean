/-
  Contracts: families, addresses, prefixes, told prefixes.
-/
import Derived.Test.YtcokdbloajhapaaGreatDoorMA
import Derived.Test.YtcokdbloajhapaaGreatDoorWN
import Derived.Test.YtcokdbloajhapaaGreatDoorAm31
namespace Go.Am
open Go.Proofs

set_option maxRecDepth 100000
theorem beq_no {a b : Int} (h : ¬ a = b) : (a == b) = false := by rw [beq_eq_false_iff_ne]; exact h
theorem psize_ct {h : H} {fam : Int} : Pure Tryz.prog 32 [.int .i64 fam] h (.int .i64 (sizeN fam : Nat)) := by
  refine pure_to Tryz.func32 S.prim_Size_code S.prim_Size_enter rfl (Nat.le_of_ble_eq_true rfl) fun wf => ?_; simp only [S.prim_Size]
  by_cases e1 : fam = 1
  · subst e1; simp [sizeN]
  by_cases e3 : fam = 3
  · subst e3; simp [sizeN]
  by_cases e4 : fam = 4
  · subst e4; simp [sizeN]
  by_cases e2 : fam = 2
  · subst e2; simp [sizeN]
  by_cases e5 : fam = 5
  · subst e5; simp [sizeN]
  simp [sizeN, beq_no e1, beq_no e3, beq_no e4, beq_no e2, beq_no e5, e1, e2, e3, e4, e5]
theorem papart_ct {h : H} {fam : Int} : Pure Tryz.prog 52 [.int .i64 fam] h (.bool (apartF fam)) := by
  refine pure_to Tryz.func52 S.prim_apart_code S.prim_apart_enter rfl (Nat.le_of_ble_eq_true rfl) fun wf => ?_; simp only [S.prim_apart]
  simp
  unfold apartF
  cases fam == 4 <;> simp
theorem napart_ct {h : H} {fam : Int} : Pure Tryz.prog 35 [.int .i64 fam] h (.bool (apartF fam)) := by
  refine pure_to Tryz.func35 S.nlri_apart_code S.nlri_apart_enter rfl (Nat.le_of_ble_eq_true rfl) fun wf => ?_; simp only [S.nlri_apart]
  simp
  unfold apartF
  cases fam == 4 <;> simp
theorem nlabel_ct {h : H} {fam : Int} : Pure Tryz.prog 26 [.int .i64 fam] h (.bool (labelF fam)) := by
  refine pure_to Tryz.func26 S.nlri_labelled_code S.nlri_labelled_enter rfl (Nat.le_of_ble_eq_true rfl) fun wf => ?_; simp only [S.nlri_labelled]
  simp
  unfold labelF
  by_cases e : 3 ≤ fam <;> simp [e]
theorem ahead_ct {h : H} {fam : Int} : Pure Tryz.prog 22 [.int .i64 fam] h (.int .i64 (aheadN fam : Nat)) := by
  refine pure_to Tryz.func22 S.nlri_ahead_code S.nlri_ahead_enter rfl (Nat.le_of_ble_eq_true rfl) fun wf => ?_; simp only [S.nlri_ahead]
  have w1 : IntKind.i64.wrap 24 = 24 := by decide
  have w2 : IntKind.i64.wrap 64 = 64 := by decide
  have w3 : IntKind.i64.wrap (24 + 64) = 88 := by decide
  simp
  refine nlabel_ct _ ?_
  unfold aheadN
  cases labelF fam with
  | true =>
    simp [w1]
    refine napart_ct _ ?_
    cases apartF fam <;> simp
    decide
  | false =>
    simp
    refine napart_ct _ ?_
    cases apartF fam <;> simp [w2]
theorem quo8 {z : Int} (h : 0 ≤ z) (h2 : z < 1000000000) : intV .quo .i64 z 8 = some (.int .i64 (z / 8)) := by
  show (if (8 : Int) = 0 then none else some (V.int .i64 (IntKind.i64.wrap (z.tdiv 8)))) = _
  rw [if_neg (by decide), Int.tdiv_eq_ediv_of_nonneg h, wrap_i64_id (by omega) (by omega)]
theorem whole_ct {h : H} {n : Nat} (hn : n < 1000000) : Pure Tryz.prog 21 [.int .i64 (n : Nat)] h (.int .i64 (wholeN n : Nat)) := by
  refine pure_to Tryz.func21 S.nlri_whole_code S.nlri_whole_enter rfl (Nat.le_of_ble_eq_true rfl) fun wf => ?_; simp only [S.nlri_whole]
  have w : IntKind.i64.wrap ((n : Int) + 7) = (n : Int) + 7 := wrap_i64_id (by omega) (by omega)
  have q := quo8 (z := (n : Int) + 7) (by omega) (by omega)
  have e : ((n : Int) + 7) / 8 = (wholeN n : Nat) := by unfold wholeN; omega
  rw [e] at q
  simp [w, q]
theorem maskL_snoc {l : List UInt8} {n : Int} {i : Nat} (h : i < l.length) : maskL (l.take (i + 1)) n = maskL (l.take i) n ++ [UInt8.ofNat (maskN (l[i]).toNat (n - 8 * (i : Int)))] := by
  refine List.ext_getElem (by simp [maskL_len]; omega) fun k h1 h2 => ?_
  rw [maskL_len, List.length_take] at h1
  rw [maskL_get _ _ _ (by rw [List.length_take]; exact h1), List.getElem_take]
  by_cases hk : k < i
  · rw [List.getElem_append_left (by rw [maskL_len, List.length_take]; omega), maskL_get _ _ _ (by rw [List.length_take]; omega), List.getElem_take]
  · have e : k = i := by omega
    subst e
    rw [List.getElem_append_right (by rw [maskL_len, List.length_take]; omega)]
    simp
theorem mask_and : ∀ b : Nat, b < 256 → ∀ k : Nat, k < 8 → (BitVec.ofInt 8 (b : Int) &&& BitVec.ofInt 8 (IntKind.u8.wrap (255 * 2 ^ k))).toNat = b / 2 ^ k * 2 ^ k := by decide +kernel
theorem u8_idN {n : Nat} (h : n < 256) : IntKind.u8.wrap (n : Int) = (n : Int) := by simp [IntKind.wrap, IntKind.bits, IntKind.signed]; omega
theorem mask_op {b : Nat} {left : Int} (hb : b < 256) (h1 : 0 < left) (h2 : left < 8) : intV .and .u8 (b : Int) (IntKind.u8.wrap (255 * 2 ^ min (8 - left).toNat IntKind.u8.bits)) = some (.int .u8 (maskN b left : Nat)) := by
  have e : min (8 - left).toNat IntKind.u8.bits = 8 - left.toNat := by simp [IntKind.bits]; omega
  rw [e]
  show some (V.int .u8 (IntKind.u8.wrap ((BitVec.ofInt 8 (b : Int) &&& BitVec.ofInt 8 (IntKind.u8.wrap (255 * 2 ^ (8 - left.toNat)))).toNat : Int))) = _
  rw [mask_and b hb _ (by omega)]
  have hm : maskN b left = b / 2 ^ (8 - left.toNat) * 2 ^ (8 - left.toNat) := by unfold maskN; rw [if_neg (by omega), if_pos h2]
  rw [← hm, u8_idN (by have := maskN_le b left; omega)]
theorem masked_ct {h : H} {l : List UInt8} {n : Int} (hl : l.length ≤ 1000000) (hn : -1000000 ≤ n ∧ n ≤ 1000000) : Pure Tryz.prog 53 [.str l, .int .i64 n] h (.str (maskL l n)) := by
  refine pure_to Tryz.func53 S.prim_masked_code S.prim_masked_enter rfl (Nat.le_of_ble_eq_true rfl) fun wf => ?_; simp only [S.prim_masked]
  have hll : l.length ≤ 9223372036854775807 := by omega
  simp [exec, hll]
  refine loop_up (fun i t h' => (t 1 = .int .i64 n ∧ t 5 = .sl h.next l.length 0 l.length none ∧ t 11 = .int .i64 l.length ∧ t 12 = .int .i64 i) ∧ Ge h h' ∧ h.next < h'.next ∧ h'.get h.next = some (.grow 1 ((maskL (l.take i) n ++ l.drop i).map byteV))) l.length ⟨by simp, by simp, by simp, by simp [maskL]⟩ ?_
  rintro i t h' hi ⟨⟨t1, t5, t11, t12⟩, hg, hnx, ho⟩ K hK
  by_cases hlt : i < l.length
  · have hw := wrap_succ hlt (by omega)
    have w8 : IntKind.i64.wrap (8 * (i : Int)) = 8 * (i : Int) := wrap_i64_id (by omega) (by omega)
    have wl : IntKind.i64.wrap (n - 8 * (i : Int)) = n - 8 * (i : Int) := wrap_i64_id (by omega) (by omega)
    have hlen : (maskL (l.take i) n ++ l.drop i).length = l.length := by simp [maskL_len]; omega
    have hb : (l[i]).toNat < 256 := (l[i]).toNat_lt
    have hgi : (maskL (l.take i) n ++ l.drop i)[i]? = some l[i] := by
      rw [List.getElem?_append_right (by rw [maskL_len, List.length_take]; omega), maskL_len, List.length_take, Nat.min_eq_left (by omega), Nat.sub_self, List.getElem?_drop]
      simp [List.getElem?_eq_getElem hlt]
    have hset : ∀ v : UInt8, UInt8.ofNat (maskN (l[i]).toNat (n - 8 * (i : Int))) = v → (maskL (l.take i) n ++ l.drop i).set i v = maskL (l.take (i + 1)) n ++ l.drop (i + 1) := fun v hv => by
      rw [maskL_snoc hlt, ← hv, List.set_append_right _ _ (by rw [maskL_len, List.length_take]; omega), maskL_len, List.length_take, Nat.min_eq_left (by omega), Nat.sub_self, List.drop_eq_getElem_cons hlt, List.set_cons_zero]
      simp
    obtain ⟨cur, hcur⟩ : ∃ cur, cur = maskL (l.take i) n ++ l.drop i := ⟨_, rfl⟩
    rw [← hcur] at ho hlen hgi hset
    have hi1 : i + 1 ≤ l.length := by omega
    have cc : cellsAt h'.get h.next l.length = some (cur.map byteV) := by rw [cellsAt_of ho (by simp [hlen])]; rfl
    have hcg : cur[i]'(by omega) = l[i] := by rw [List.getElem?_eq_getElem (by omega)] at hgi; exact Option.some.inj hgi
    have sm : ∀ b : UInt8, List.take i (cur.map byteV) ++ V.int .u8 (b.toNat : Int) :: List.drop (i + 1) (cur.map byteV) = (cur.set i b).map byteV := fun b => by
      rw [List.map_set, List.set_eq_take_append_cons_drop, if_pos (by simp; omega)]; rfl
    have fin : ∀ b : UInt8, UInt8.ofNat (maskN (l[i]).toNat (n - 8 * (i : Int))) = b → ∀ t', (t' 1 = .int .i64 n ∧ t' 5 = .sl h.next l.length 0 l.length none ∧ t' 11 = .int .i64 l.length ∧ t' 12 = .int .i64 ((i + 1 : Nat) : Int)) → K t' (h'.set h.next (.grow 1 ((cur.set i b).map byteV))) := fun b hb t' ht =>
      hK _ _ hlt ⟨ht, hg.set (Nat.le_refl _) _, by simpa using hnx, by simp [hset b hb]⟩
    clear hcur
    simp [t1, t11, t12, hlt, w8, wl]
    by_cases hle : n - 8 * (i : Int) ≤ 0
    · have f := fin 0 (by rw [maskN_small hle]; rfl)
      have s0 := sm 0
      simp at s0
      simp [hle, t5, t12, hlt, ho, hlen, hi1, s0, hw]
      rw [List.map_set] at f
      refine f _ ?_
      simp [t1, t5, t11]
    · by_cases h8 : n - 8 * (i : Int) < 8
      · have w88 : IntKind.i64.wrap (8 - (n - 8 * (i : Int))) = 8 - (n - 8 * (i : Int)) := wrap_i64_id (by omega) (by omega)
        have mo := mask_op hb (left := n - 8 * (i : Int)) (by omega) h8
        have hmb := maskN_le (l[i]).toNat (n - 8 * (i : Int))
        have s1 := sm (UInt8.ofNat (maskN (l[i]).toNat (n - 8 * (i : Int))))
        rw [show ((UInt8.ofNat (maskN (l[i]).toNat (n - 8 * (i : Int)))).toNat : Int) = (maskN (l[i]).toNat (n - 8 * (i : Int)) : Nat) by simp; omega] at s1
        have f := fin _ rfl
        have y0 : (0 : Int) ≤ 8 - (n - 8 * (i : Int)) := by omega
        have sh : shiftV .shl .u8 255 (8 - (n - 8 * (i : Int))) = some (.int .u8 (IntKind.u8.wrap (255 * 2 ^ min (8 - (n - 8 * (i : Int))).toNat IntKind.u8.bits))) := by
          unfold shiftV; rw [if_neg (by omega)]
        simp [hle, h8]
        refine dreg_of ?_
        simp [t5, t12, hlt, ho, cc, hlen, hcg, byteV, w88, sh, mo, hi1, hw]
        rw [s1]
        refine f _ ?_
        simp [t1, t5, t11]
      · simp [hle, h8, t12, hw]
        have e0 : cur.set i l[i] = cur := by rw [← hcg, List.set_getElem_self]
        refine hK _ _ hlt ⟨by simp [t1, t5, t11], hg, hnx, ?_⟩
        rw [ho, ← hset l[i] (by rw [maskN_big (by omega)]; simp), e0]
  · have hi2 : i = l.length := by omega
    subst hi2
    have hle : l.take l.length = l := List.take_of_length_le (Nat.le_refl _)
    have el : elemsV h'.get 1 (.sl h.next l.length 0 l.length none) = some (l.length, (maskL l n).map byteV) := by
      rw [elemsV_sl]
      split
      · rename_i h0
        have : l = [] := List.eq_nil_of_length_eq_zero h0
        subst this; rfl
      · rw [cellsAt_of ho (by simp [maskL_len])]; simp [List.take_of_length_le, maskL_len]
    simp [t5, t11, t12, el]
    exact hg
theorem eqV_str (a b : List UInt8) : eqV .str (.str a) (.str b) = some (a == b) := by simp [eqV]
theorem pcheck_ct {h : H} {p : Pfx} : Pure Tryz.prog 25 [.agg (pfxC p)] h (.int .i64 (if mayP p = true then 0 else 2)) := by
  refine pure_to Tryz.func25 S.prim_Check_code S.prim_Check_enter rfl (Nat.le_of_ble_eq_true rfl) fun wf => ?_; simp only [S.prim_Check]
  simp only [pfxC]
  simp
  refine psize_ct _ ?_
  simp
  have sl := size_le p.fam
  have c1 : cellsAt (h.push (.row (pfxC p))).get h.next 4 = some (pfxC p) := by rw [cellsAt_of (by simp; rfl) (by simp [pfxC])]; rfl
  simp only [pfxC] at c1
  refine dreg_quiet (wf.push _) ?_
  by_cases e0 : sizeN p.fam = 0
  · simp [e0, mayP]
  have b0 : (((sizeN p.fam : Nat) : Int) == 0) = false := beq_no (by omega)
  have ef : ¬ p.fam = 0 := by intro e; apply e0; rw [e]; decide
  have bf := beq_no ef
  have eqz : eqV (TS.st [(0, 1, false, TS.int), (1, 1, false, TS.int), (2, 1, false, TS.str), (3, 1, false, TS.int)]) (.agg [.int .i64 p.fam, .int .u64 (p.rd : Nat), .str p.addr, .int .i64 p.len]) (.agg [.int .i64 0, .int .u64 0, .str [], .int .i64 0]) = some false := by
    simp [eqV, eqFs, bf]
  have ms0 : (decide (sizeN p.fam ≠ 0)) = true := by simpa using e0
  by_cases e1 : p.addr.length = sizeN p.fam
  · have b1 : ((p.addr.length : Int) != ((sizeN p.fam : Nat) : Int)) = false := by rw [e1]; simp
    by_cases e2 : p.len < 0
    · have m : mayP p = false := by
        have : ¬ 0 ≤ p.len := by omega
        simp [mayP, this]
      simp [b0, c1, eqz, b1, e2, m]
    · have e2' : 0 ≤ p.len := by omega
      have w8 : IntKind.i64.wrap (8 * ((sizeN p.fam : Nat) : Int)) = 8 * ((sizeN p.fam : Nat) : Int) := wrap_i64_id (by omega) (by omega)
      by_cases e3 : 8 * ((sizeN p.fam : Nat) : Int) < p.len
      · have m : mayP p = false := by
          have : ¬ p.len ≤ 8 * ((sizeN p.fam : Nat) : Int) := by omega
          simp [mayP, this]
        simp [b0, c1, eqz, b1, e2, w8, e3, m]
      · have e3' : p.len ≤ 8 * ((sizeN p.fam : Nat) : Int) := by omega
        have fin : ∀ (hrd : (decide (p.rd = 0) || apartF p.fam) = true), mayP p = decide (maskL p.addr p.len = p.addr) := fun hrd => by
          simp only [mayP, ms0, e1, e2', e3', hrd, decide_true, Bool.true_and]
        have last : ∀ hrd : (decide (p.rd = 0) || apartF p.fam) = true, (if mayP p = true then (0 : Int) else 2) = if (maskL p.addr p.len != p.addr) = true then 2 else 0 := fun hrd => by
          rw [fin hrd]
          by_cases hm : maskL p.addr p.len = p.addr
          · simp [hm]
          · have : (maskL p.addr p.len != p.addr) = true := by simpa using hm
            rw [this]; simp [hm]
        have mk : ∀ h2, Ge (h.push (.row [.int .i64 p.fam, .int .u64 (p.rd : Nat), .str p.addr, .int .i64 p.len])) h2 → Pure Tryz.prog 53 [.str p.addr, .int .i64 p.len] h2 (.str (maskL p.addr p.len)) := fun h2 _ => masked_ct (by omega) (by omega)
        by_cases e4 : p.rd = 0
        · have b4 : (((p.rd : Nat) : Int) != 0) = false := by rw [e4]; rfl
          rw [last (by simp [e4])]
          simp [b0, c1, eqz, b1, e2, w8, e3, b4]
          refine qcall_of (v := .str (maskL p.addr p.len)) rfl mk ?_
          simp [c1]
          by_cases hq : maskL p.addr p.len = p.addr
          · have hb : (maskL p.addr p.len == p.addr) = true := by simpa using hq
            simp [hq]
          · have hb : (maskL p.addr p.len == p.addr) = false := by simpa using hq
            simp [hb, hq]
        · have b4 : (((p.rd : Nat) : Int) != 0) = true := by
            have : ¬ ((p.rd : Nat) : Int) = 0 := by omega
            simpa using this
          simp [b0, c1, eqz, b1, e2, w8, e3, b4]
          refine qcall_of (v := .bool (apartF p.fam)) rfl (fun h2 _ => papart_ct) ?_
          cases ha : apartF p.fam with
          | false =>
            have m : mayP p = false := by simp [mayP, e4, ha]
            simp [m]
          | true =>
            rw [last (by simp [ha])]
            simp
            refine qcall_of (v := .str (maskL p.addr p.len)) rfl mk ?_
            simp [c1]
            by_cases hq : maskL p.addr p.len = p.addr
            · have hb : (maskL p.addr p.len == p.addr) = true := by simpa using hq
              simp [hq]
            · have hb : (maskL p.addr p.len == p.addr) = false := by simpa using hq
              simp [hb, hq]
  · have b1 : ((p.addr.length : Int) != ((sizeN p.fam : Nat) : Int)) = true := by
      have : ¬ (p.addr.length : Int) = ((sizeN p.fam : Nat) : Int) := by omega
      simpa using this
    have m : mayP p = false := by simp [mayP, e1]
    simp [b0, c1, eqz, b1, m]
theorem ncheck_ct {h : H} {n : Nl} : Pure Tryz.prog 8 [.agg (nlC n)] h (.int .i64 (if mayN n = true then 0 else 2)) := by
  refine pure_to Tryz.func8 S.nlri_Check_code S.nlri_Check_enter rfl (Nat.le_of_ble_eq_true rfl) fun wf => ?_; simp only [S.nlri_Check]
  simp only [nlC]
  simp
  have c1 : cellsAt (h.push (.row (nlC n))).get h.next 6 = some (nlC n) := by rw [cellsAt_of (by simp; rfl) (by simp [nlC])]; rfl
  simp only [nlC] at c1
  refine pcheck_ct (p := n.p) _ ?_
  cases hp : mayP n.p with
  | false =>
    have m : mayN n = false := by simp [mayN, hp]
    simp [m]
  | true =>
    by_cases e1 : (1048575 : Int) < (n.label : Nat)
    · have m : mayN n = false := by
        have : ¬ n.label ≤ 1048575 := by omega
        simp [mayN, this]
      simp [c1, e1, m]
    · have e1' : n.label ≤ 1048575 := by omega
      by_cases e2 : (0 : Int) < (n.label : Nat)
      · have e2' : ¬ n.label = 0 := by omega
        have e2n : 0 < n.label := by omega
        simp [c1, e1, e2n]
        refine nlabel_ct _ ?_
        cases hl : labelF n.p.fam <;> simp [mayN, hp, hl, e1', e2']
      · have e2' : n.label = 0 := by omega
        have m : mayN n = true := by simp [mayN, hp, e2']
        have e2n : ¬ 0 < n.label := by omega
        simp [c1, e1, e2n, m]
theorem size_ct {h : H} {n : Nl} {add : Bool} : Pure Tryz.prog 6 [.agg (nlC n), .bool add] h (.tup [.int .i64 (if mayN n = true then ((enc1 add n).length : Nat) else 0), .int .i64 (if mayN n = true then 0 else 2)]) := by
  refine pure_to Tryz.func6 S.nlri_Size_code S.nlri_Size_enter rfl (Nat.le_of_ble_eq_true rfl) fun wf => ?_; simp only [S.nlri_Size]
  simp only [nlC]
  simp
  have c1 : cellsAt (h.push (.row (nlC n))).get h.next 6 = some (nlC n) := by rw [cellsAt_of (by simp; rfl) (by simp [nlC])]; rfl
  simp only [nlC] at c1
  refine ncheck_ct (n := n) _ ?_
  cases hm : mayN n with
  | false => simp
  | true =>
    have hp : mayP n.p = true := by simp only [mayN, Bool.and_eq_true] at hm; exact hm.1.1
    simp only [mayP, Bool.and_eq_true, Bool.or_eq_true, decide_eq_true_eq] at hp
    obtain ⟨⟨⟨⟨⟨h0, h1⟩, h2⟩, h3⟩, h4⟩, h5⟩ := hp
    have sl := size_le n.p.fam
    have al := ahead_le n.p.fam
    obtain ⟨ln, hln⟩ : ∃ ln : Nat, ln = n.p.len.toNat := ⟨_, rfl⟩
    have el : n.p.len = (ln : Nat) := by omega
    have el1 := enc1_len (fam := n.p.fam) (add := add) (n := n) rfl (by unfold wholeN; omega)
    rw [← hln] at el1
    have wa : wholeN (aheadN n.p.fam) = (if labelF n.p.fam = true then 3 else 0) + (if apartF n.p.fam = true then 8 else 0) := by
      unfold aheadN; cases labelF n.p.fam <;> cases apartF n.p.fam <;> rfl
    have w1 : IntKind.i64.wrap (1 + (wholeN (aheadN n.p.fam) : Nat)) = 1 + (wholeN (aheadN n.p.fam) : Nat) := wrap_i64_id (by unfold wholeN; omega) (by unfold wholeN; omega)
    have w2 : IntKind.i64.wrap (1 + (wholeN (aheadN n.p.fam) : Nat) + (wholeN ln : Nat)) = 1 + (wholeN (aheadN n.p.fam) : Nat) + (wholeN ln : Nat) := wrap_i64_id (by unfold wholeN; omega) (by unfold wholeN; omega)
    have w3 : IntKind.i64.wrap (1 + (wholeN (aheadN n.p.fam) : Nat) + (wholeN ln : Nat) + 4) = 1 + (wholeN (aheadN n.p.fam) : Nat) + (wholeN ln : Nat) + 4 := wrap_i64_id (by unfold wholeN; omega) (by unfold wholeN; omega)
    simp
    refine dreg_quiet (wf.push _) ?_
    simp [c1]
    refine qcall_of (v := .int .i64 (aheadN n.p.fam : Nat)) rfl (fun h2 _ => ahead_ct) ?_
    simp
    refine qcall_of (v := .int .i64 (wholeN (aheadN n.p.fam) : Nat)) rfl (fun h2 _ => whole_ct (by omega)) ?_
    simp [w1, el]
    refine qcall_of (v := .int .i64 (wholeN ln : Nat)) rfl (fun h2 _ => whole_ct (by omega)) ?_
    simp [w2]
    cases add with
    | true =>
      simp [w3]
      rw [el1, wa]
      simp
      omega
    | false =>
      simp
      rw [el1, wa]
      simp
      omega
end Go.Am
