/-
  A community comes back from its text.
-/
import Derived.Test.YtfbmffkgphgoaaaDoorTXA
import Derived.Test.YtfbmffkgphgoaaaDoorCW
namespace Go.Am
open Go.Proofs

set_option maxRecDepth 100000
theorem dg_toNat {k : Nat} (h : k < 10) : (dg k).toNat = 48 + k := by unfold dg; simp; omega
theorem dg_ne {k : Nat} (h : k < 10) : dg k ≠ 58 := fun e => by have := dg_toNat h; rw [e] at this; simp at this; omega
theorem puE_dg {acc k : Nat} {l : List UInt8} (h : k < 10) (ha : acc * 10 + k ≤ 65535) : puE acc (dg k :: l) = puE (acc * 10 + k) l := by
  rw [puE, dg_toNat h, if_pos (by omega), show 48 + k - 48 = k by omega, if_pos ha]
theorem dec_ne (n : Nat) : dec n ≠ [] := by unfold dec; (repeat' split) <;> simp
theorem dec_no {n : Nat} (hn : n < 65536) : 58 ∉ dec n := by
  have ne : ∀ k, k < 10 → ¬ (58 : UInt8) = dg k := fun k hk e => dg_ne hk e.symm
  unfold dec
  (repeat' split) <;> simp only [List.mem_cons, List.not_mem_nil, or_false, not_or] <;> (repeat' (first | refine And.intro ?_ ?_ | exact ne _ (by omega)))
theorem puR_dec {n : Nat} (hn : n < 65536) : puR (dec n) = (n, 0) := by
  unfold puR
  rw [if_neg (dec_ne n)]
  unfold dec
  (repeat' split)
  · rw [puE_dg (by omega) (by omega)]; simp [puE]
  · rw [puE_dg (by omega) (by omega), puE_dg (by omega) (by omega)]; simp only [puE, Prod.mk.injEq, and_true]; omega
  · rw [puE_dg (by omega) (by omega), puE_dg (by omega) (by omega), puE_dg (by omega) (by omega)]; simp only [puE, Prod.mk.injEq, and_true]; omega
  · rw [puE_dg (by omega) (by omega), puE_dg (by omega) (by omega), puE_dg (by omega) (by omega), puE_dg (by omega) (by omega)]; simp only [puE, Prod.mk.injEq, and_true]; omega
  · rw [puE_dg (by omega) (by omega), puE_dg (by omega) (by omega), puE_dg (by omega) (by omega), puE_dg (by omega) (by omega), puE_dg (by omega) (by omega)]; simp only [puE, Prod.mk.injEq, and_true]; omega
theorem puint_ok {h : H} {n : Nat} (hn : n < 65536) : Pure Tryd.prog 51 [.str (dec n), .int .i64 10, .int .i64 16] h (.tup [.int .u64 (n : Nat), .niliface]) := by
  refine pure_to Tryd.func51 S.strconv_ParseUint_code S.strconv_ParseUint_enter rfl (Nat.le_of_ble_eq_true rfl) fun wf => ?_; simp only [S.strconv_ParseUint]
  simp
  have hl : (dec n).length ≤ 9223372036854775806 := by rw [dec_len]; (repeat' split) <;> omega
  refine pui_ct hl _ ?_
  rw [puR_dec hn]
  have e0 : errV 0 = .niliface := rfl
  have eq : eqV TS.iface .niliface .niliface = some true := rfl
  simp [e0, eq]
theorem hl16 (hi lo : Nat) (h1 : hi < 65536) (h2 : lo < 65536) : intV .or .u64 ((hi * 65536 : Nat) : Int) (lo : Int) = some (.int .u64 ((hi * 65536 + lo : Nat) : Int)) := by
  have e1 : (BitVec.ofInt 64 ((hi * 65536 : Nat) : Int)).toNat = 2 ^ 16 * hi := by simp [BitVec.toNat_ofInt]; omega
  have e2 : (BitVec.ofInt 64 (lo : Int)).toNat = lo := by simp; omega
  have e3 : (BitVec.ofInt 64 ((hi * 65536 : Nat) : Int) ||| BitVec.ofInt 64 (lo : Int)).toNat = hi * 65536 + lo := by
    rw [BitVec.toNat_or, e1, e2, ← Nat.two_pow_add_eq_or_of_lt (by omega)]; omega
  show some (V.int .u64 (IntKind.u64.wrap ((BitVec.ofInt 64 ((hi * 65536 : Nat) : Int) ||| BitVec.ofInt 64 (lo : Int)).toNat : Int))) = _
  rw [e3, u64_id (by omega)]
theorem nameC_no (k : Nat) : 58 ∉ nameC k := by unfold nameC; (repeat' split) <;> decide
theorem pack_ct {h : H} {c : Nat} (hc : c < 4294967296) : Pure Tryd.prog 15 [.str (textC c)] h (.tup [.int .u32 (c : Nat), .int .i64 0]) := by
  refine pure_to Tryd.func15 S.comm_Parse_code S.comm_Parse_enter rfl (Nat.le_of_ble_eq_true rfl) fun wf => ?_; simp only [S.comm_Parse]
  obtain ⟨s, hs⟩ : ∃ s, s = textC c := ⟨_, rfl⟩
  rw [← hs]
  simp
  refine loop_up (fun i t h' => (t 0 = .str s ∧ t 4 = .int .u32 ((4294967041 + i : Nat) : Int)) ∧ h' = h ∧ ∀ j, j < i → nameC (4294967041 + j) ≠ s) 3 ⟨by simp, rfl, by omega⟩ ?_
  rintro i t h' hi ⟨⟨t0, t4⟩, rfl, hne⟩ K hK
  by_cases hlt : i < 3
  · obtain ⟨k, hk⟩ : ∃ k, k = 4294967041 + i := ⟨_, rfl⟩
    rw [← hk] at t4
    have hkI : (k : Int) ≤ 4294967043 := by omega
    have wk : IntKind.u32.wrap ((k : Int) + 1) = ((k + 1 : Nat) : Int) := w32 (by omega) (by omega)
    simp [t4, hkI]
    refine named_ct _ ?_
    by_cases he : nameC k = s
    · have hck : c = k := by
        by_cases hn : nameC c = []
        · exfalso
          have h58 : 58 ∈ s := by rw [hs]; unfold textC; rw [if_pos hn]; simp
          exact nameC_no k (by rw [he]; exact h58)
        · rw [hs] at he
          unfold textC at he
          rw [if_neg hn] at he
          unfold nameC at he hn
          (repeat' split at he) <;> (repeat' split at hn) <;> first | omega | (exact absurd he (by decide)) | skip
      have b1 : (nameC k == s) = true := beq_iff_eq.2 he
      simp [he, t0, t4, hck]
    · have b1 : (nameC k == s) = false := beq_eq_false_iff_ne.2 he
      simp [b1, t0, t4, wk]
      refine hK _ _ hlt ⟨⟨by simp [t0], by simp; omega⟩, rfl, fun j hj => ?_⟩
      by_cases hji : j = i
      · subst hji; rw [← hk]; exact he
      · exact hne j (by omega)
  · have hi3 : i = 3 := by omega
    subst hi3
    have hn : nameC c = [] := by
      by_cases hn : nameC c = []
      · exact hn
      · exfalso
        have : s = nameC c := by rw [hs]; unfold textC; rw [if_neg hn]
        have h41 := hne 0 (by omega)
        have h42 := hne 1 (by omega)
        have h43 := hne 2 (by omega)
        rw [this] at h41 h42 h43
        have : c = 4294967041 ∨ c = 4294967042 ∨ c = 4294967043 := by
          unfold nameC at hn
          (repeat' split at hn) <;> first | omega | (exact absurd rfl hn)
        rcases this with rfl | rfl | rfl
        · exact h41 rfl
        · exact h42 rfl
        · exact h43 rfl
    obtain ⟨hi', hhi⟩ : ∃ hi, hi = c / 65536 := ⟨_, rfl⟩
    obtain ⟨lo, hlo⟩ : ∃ lo, lo = c % 65536 := ⟨_, rfl⟩
    have hs2 : s = dec hi' ++ 58 :: dec lo := by rw [hs, hhi, hlo]; unfold textC; rw [if_pos hn]; simp
    have hcut : cutS s = (dec hi', dec lo, true) := by rw [hs2]; exact cutS_at (dec_no (by omega))
    have hsl : s.length ≤ 9223372036854775806 := by
      rw [hs2, List.length_append, List.length_cons, dec_len, dec_len]
      (repeat' split) <;> omega
    have tc := text_ct (h := h') hc
    rw [← hs] at tc
    have eq : eqV TS.iface .niliface .niliface = some true := rfl
    have sh : IntKind.u64.wrap ((hi' : Int) * 2 ^ min 16 IntKind.u64.bits) = ((hi' * 65536 : Nat) : Int) := by
      rw [show min 16 IntKind.u64.bits = 16 from rfl, show (hi' : Int) * 2 ^ 16 = ((hi' * 65536 : Nat) : Int) by omega]; exact u64_id (by omega)
    have o := hl16 hi' lo (by omega) (by omega)
    obtain ⟨x, hx⟩ : ∃ x : Int, x = ((hi' * 65536 : Nat) : Int) := ⟨_, rfl⟩
    rw [← hx] at sh o
    have hcc : hi' * 65536 + lo = c := by omega
    rw [hcc] at o
    have wc : IntKind.u32.wrap (c : Int) = c := w32 rfl hc
    simp [t0, t4]
    refine scut_ct hsl _ ?_
    rw [hcut]
    simp
    refine puint_ok (by omega) _ ?_
    simp
    refine puint_ok (by omega) _ ?_
    simp [sh, o, wc, eq]
    refine tc _ ?_
    simp [t0]
theorem ctext_ct {h : H} {c : Nat} (hc : c < 4294967296) : Pure Tryd.prog 4 [.int .u32 (c : Nat)] h (.bool true) := by
  refine pure_to Tryd.func4 S.Hlaw05_CommText_code S.Hlaw05_CommText_enter rfl (Nat.le_of_ble_eq_true rfl) fun wf => ?_; simp only [S.Hlaw05_CommText]
  simp
  refine text_ct hc _ ?_
  simp
  refine pack_ct hc _ ?_
  simp
  refine works_ct _ _ ?_
  simp
end Go.Am
