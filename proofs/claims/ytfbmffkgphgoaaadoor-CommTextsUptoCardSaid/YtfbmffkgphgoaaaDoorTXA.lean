/-
  TX1, TX2, TX3, in one text.
-/
import Derived.Test.YtfbmffkgphgoaaaDoorCC
import Derived.Test.YtfbmffkgphgoaaaDoorAm37
import Derived.Lib.Bytealg
/-
  Numbers below 65536 as texts (written by program, wip/comm/TX1.py).
-/
namespace Go.Am
open Go.Proofs

set_option maxRecDepth 100000
def dg (k : Nat) : UInt8 := UInt8.ofNat (48 + k)
/-- A number's decimal digits. -/
def dec (n : Nat) : List UInt8 :=
  if n < 10 then [dg n] else if n < 100 then [dg (n / 10), dg (n % 10)] else if n < 1000 then [dg (n / 100), dg (n % 100 / 10), dg (n % 100 % 10)] else
  if n < 10000 then [dg (n / 100 / 10), dg (n / 100 % 10), dg (n % 100 / 10), dg (n % 100 % 10)] else [dg (n / 10000), dg (n % 10000 / 100 / 10), dg (n % 10000 / 100 % 10), dg (n % 10000 % 100 / 10), dg (n % 10000 % 100 % 10)]
def smalls : List UInt8 := [48, 48, 48, 49, 48, 50, 48, 51, 48, 52, 48, 53, 48, 54, 48, 55, 48, 56, 48, 57, 49, 48, 49, 49, 49, 50, 49, 51, 49, 52, 49, 53, 49, 54, 49, 55, 49, 56, 49, 57, 50, 48, 50, 49, 50, 50, 50, 51, 50, 52, 50, 53, 50, 54, 50, 55, 50, 56, 50, 57, 51, 48, 51, 49, 51, 50, 51, 51, 51, 52, 51, 53, 51, 54, 51, 55, 51, 56, 51, 57, 52, 48, 52, 49, 52, 50, 52, 51, 52, 52, 52, 53, 52, 54, 52, 55, 52, 56, 52, 57, 53, 48, 53, 49, 53, 50, 53, 51, 53, 52, 53, 53, 53, 54, 53, 55, 53, 56, 53, 57, 54, 48, 54, 49, 54, 50, 54, 51, 54, 52, 54, 53, 54, 54, 54, 55, 54, 56, 54, 57, 55, 48, 55, 49, 55, 50, 55, 51, 55, 52, 55, 53, 55, 54, 55, 55, 55, 56, 55, 57, 56, 48, 56, 49, 56, 50, 56, 51, 56, 52, 56, 53, 56, 54, 56, 55, 56, 56, 56, 57, 57, 48, 57, 49, 57, 50, 57, 51, 57, 52, 57, 53, 57, 54, 57, 55, 57, 56, 57, 57]
theorem smalls_ok : smalls.length = 200 ∧ ∀ k : Nat, k < 100 → smalls[2 * k]? = some (dg (k / 10)) ∧ smalls[2 * k + 1]? = some (dg (k % 10)) := by decide +kernel
theorem small_ct {h : H} {n : Nat} (hn : n < 100) : Pure Tryd.prog 110 [.int .i64 (n : Nat)] h (.str (dec n)) := by
  refine pure_to Tryd.func110 S.internal_strconv_small_code S.internal_strconv_small_enter rfl (Nat.le_of_ble_eq_true rfl) fun wf => ?_; simp only [S.internal_strconv_small]
  by_cases h10 : n < 10
  · have e : sliceStrV (some (.int .i64 (n : Int))) (some (.int .i64 ((n + 1 : Nat) : Int))) (.str [48, 49, 50, 51, 52, 53, 54, 55, 56, 57, 97, 98, 99, 100, 101, 102, 103, 104, 105, 106, 107, 108, 109, 110, 111, 112, 113, 114, 115, 116, 117, 118, 119, 120, 121, 122]) = some (.str (dec n)) := by
      rcases (by omega : n = 0 ∨ n = 1 ∨ n = 2 ∨ n = 3 ∨ n = 4 ∨ n = 5 ∨ n = 6 ∨ n = 7 ∨ n = 8 ∨ n = 9) with rfl | rfl | rfl | rfl | rfl | rfl | rfl | rfl | rfl | rfl <;> rfl
    have hw : IntKind.i64.wrap ((n : Int) + 1) = ((n + 1 : Nat) : Int) := by rw [wrap_i64_id (by omega) (by omega)]; omega
    obtain ⟨m, hm⟩ : ∃ m, m = n + 1 := ⟨_, rfl⟩
    rw [← hm] at e hw
    have h10i : (n : Int) < 10 := by omega
    simp [-sliceStrV_str, h10i, hw, e]
  · rw [show ([48, 48, 48, 49, 48, 50, 48, 51, 48, 52, 48, 53, 48, 54, 48, 55, 48, 56, 48, 57, 49, 48, 49, 49, 49, 50, 49, 51, 49, 52, 49, 53, 49, 54, 49, 55, 49, 56, 49, 57, 50, 48, 50, 49, 50, 50, 50, 51, 50, 52, 50, 53, 50, 54, 50, 55, 50, 56, 50, 57, 51, 48, 51, 49, 51, 50, 51, 51, 51, 52, 51, 53, 51, 54, 51, 55, 51, 56, 51, 57, 52, 48, 52, 49, 52, 50, 52, 51, 52, 52, 52, 53, 52, 54, 52, 55, 52, 56, 52, 57, 53, 48, 53, 49, 53, 50, 53, 51, 53, 52, 53, 53, 53, 54, 53, 55, 53, 56, 53, 57, 54, 48, 54, 49, 54, 50, 54, 51, 54, 52, 54, 53, 54, 54, 54, 55, 54, 56, 54, 57, 55, 48, 55, 49, 55, 50, 55, 51, 55, 52, 55, 53, 55, 54, 55, 55, 55, 56, 55, 57, 56, 48, 56, 49, 56, 50, 56, 51, 56, 52, 56, 53, 56, 54, 56, 55, 56, 56, 56, 57, 57, 48, 57, 49, 57, 50, 57, 51, 57, 52, 57, 53, 57, 54, 57, 55, 57, 56, 57, 57] : List UInt8) = smalls from rfl]
    obtain ⟨T, hT⟩ : ∃ T, T = smalls := ⟨_, rfl⟩
    have t1 := smalls_ok.1
    have t2 := smalls_ok.2 n hn
    rw [← hT] at t1 t2 ⊢
    have w1 : IntKind.i64.wrap ((n : Int) * 2) = ((2 * n : Nat) : Int) := by rw [wrap_i64_id (by omega) (by omega)]; omega
    have w2 : IntKind.i64.wrap (((2 * n : Nat) : Int) + 2) = ((2 * n + 2 : Nat) : Int) := by rw [wrap_i64_id (by omega) (by omega)]; omega
    have e : sliceStrV (some (.int .i64 ((2 * n : Nat) : Int))) (some (.int .i64 ((2 * n + 2 : Nat) : Int))) (.str T) = some (.str (dec n)) := by
      rw [sliceStrV_str, boundV_nat (by omega), Option.bind_some, boundV_nat (by omega), Option.bind_some]
      congr 2
      unfold dec
      rw [if_neg h10, if_pos hn]
      refine List.ext_getElem? fun i => ?_
      rw [List.getElem?_drop, List.getElem?_take]
      rcases i with _ | _ | i
      · rw [if_pos (by omega), Nat.add_zero, t2.1]; rfl
      · rw [if_pos (by omega), t2.2]; rfl
      · rw [if_neg (by omega)]; rfl
    obtain ⟨a, ha⟩ : ∃ a, a = 2 * n := ⟨_, rfl⟩
    rw [← ha] at w1 w2 e
    obtain ⟨b, hb⟩ : ∃ b, b = a + 2 := ⟨_, rfl⟩
    rw [← hb] at w2 e
    have h10i : ¬ (n : Int) < 10 := by omega
    simp [-sliceStrV_str, h10i, w1, w2, e]
theorem rem32 (n k r : Nat) (hk : 0 < k) (h : n % k = r) : intV .rem .u32 (n : Int) (k : Int) = some (.int .u32 (r : Int)) := by
  show (if (k : Int) = 0 then none else some (V.int .u32 ((n : Int).tmod k))) = _
  rw [if_neg (by omega), Int.tmod_eq_emod_of_nonneg (by omega), ← Int.natCast_emod, h]
theorem quo32 (n k r : Nat) (hk : 0 < k) (hn : n < 4294967296) (h : n / k = r) : intV .quo .u32 (n : Int) (k : Int) = some (.int .u32 (r : Int)) := by
  show (if (k : Int) = 0 then none else some (V.int .u32 (IntKind.u32.wrap ((n : Int).tdiv k)))) = _
  have hr : r < 4294967296 := by rw [← h]; exact Nat.lt_of_le_of_lt (Nat.div_le_self _ _) hn
  rw [if_neg (by omega), Int.tdiv_eq_ediv_of_nonneg (by omega), ← Int.natCast_ediv, h]
  simp [IntKind.wrap, IntKind.bits, IntKind.signed]; omega
theorem w32 {z : Int} {n : Nat} (e : z = n) (h : n < 4294967296) : IntKind.u32.wrap z = (n : Int) := by subst e; simp [IntKind.wrap, IntKind.bits, IntKind.signed]; omega
theorem w8 {z : Int} {n : Nat} (e : z = n) (h : n < 256) : IntKind.u8.wrap z = (n : Int) := by subst e; simp [IntKind.wrap, IntKind.bits, IntKind.signed]; omega
theorem dg_nat {k : Nat} (h : k < 10) : ((dg k).toNat : Int) = ((48 + k : Nat) : Int) := by unfold dg; simp; omega

theorem fb3_ct {h : H} {q n : Nat} (hg : h.get q = some (.row [.int .u8 0, .int .u8 0, .int .u8 0, .int .u8 0, .int .u8 0, .int .u8 0, .int .u8 0, .int .u8 0, .int .u8 0, .int .u8 0, .int .u8 0, .int .u8 0, .int .u8 0, .int .u8 0, .int .u8 0, .int .u8 0, .int .u8 0, .int .u8 0, .int .u8 0, .int .u8 0, .int .u8 0, .int .u8 0, .int .u8 0, .int .u8 0])) (hlo : 100 ≤ n) (hhi : n < 1000) {Q : V → H → Prop} (qq : Q (.tup []) (h.set q (.row (V.int .u8 0 :: (dec n).map byteV ++ [.int .u8 0, .int .u8 0, .int .u8 0, .int .u8 0, .int .u8 0, .int .u8 0, .int .u8 0, .int .u8 0, .int .u8 0, .int .u8 0, .int .u8 0, .int .u8 0, .int .u8 0, .int .u8 0, .int .u8 0, .int .u8 0, .int .u8 0, .int .u8 0, .int .u8 0, .int .u8 0])))) :
    Acalls Tryd.prog 112 [.sl q 24 1 3 (some 23), .int .u64 (n : Nat)] h Q := by
  refine acalls_to Tryd.func112 S.internal_strconv_formatBase10_code S.internal_strconv_formatBase10_enter (Nat.le_of_ble_eq_true rfl) fun wf => ?_; simp only [S.internal_strconv_formatBase10]
  rw [show ([48, 48, 48, 49, 48, 50, 48, 51, 48, 52, 48, 53, 48, 54, 48, 55, 48, 56, 48, 57, 49, 48, 49, 49, 49, 50, 49, 51, 49, 52, 49, 53, 49, 54, 49, 55, 49, 56, 49, 57, 50, 48, 50, 49, 50, 50, 50, 51, 50, 52, 50, 53, 50, 54, 50, 55, 50, 56, 50, 57, 51, 48, 51, 49, 51, 50, 51, 51, 51, 52, 51, 53, 51, 54, 51, 55, 51, 56, 51, 57, 52, 48, 52, 49, 52, 50, 52, 51, 52, 52, 52, 53, 52, 54, 52, 55, 52, 56, 52, 57, 53, 48, 53, 49, 53, 50, 53, 51, 53, 52, 53, 53, 53, 54, 53, 55, 53, 56, 53, 57, 54, 48, 54, 49, 54, 50, 54, 51, 54, 52, 54, 53, 54, 54, 54, 55, 54, 56, 54, 57, 55, 48, 55, 49, 55, 50, 55, 51, 55, 52, 55, 53, 55, 54, 55, 55, 55, 56, 55, 57, 56, 48, 56, 49, 56, 50, 56, 51, 56, 52, 56, 53, 56, 54, 56, 55, 56, 56, 56, 57, 57, 48, 57, 49, 57, 50, 57, 51, 57, 52, 57, 53, 57, 54, 57, 55, 57, 56, 57, 57] : List UInt8) = smalls from rfl]
  obtain ⟨T, hT⟩ : ∃ T, T = smalls := ⟨_, rfl⟩
  have t1 := smalls_ok.1
  have t2 := smalls_ok.2
  rw [← hT] at t1 t2 ⊢
  have hlt := wf.lt hg
  have v0 : IntKind.i64.wrap 0 = 0 := by decide
  have v1 : IntKind.i64.wrap 1 = 1 := by decide
  have v2 : IntKind.i64.wrap 2 = 2 := by decide
  have v3 : IntKind.i64.wrap 3 = 3 := by decide
  have v4 : IntKind.i64.wrap 4 = 4 := by decide
  have c0 : IntKind.u32.wrap (n : Int) = n := w32 rfl (by omega)
  revert qq
  obtain ⟨qa, hqa⟩ : ∃ q, q = n % 100 := ⟨_, rfl⟩
  have la : qa < 100 := by omega
  have tba := t2 qa la
  obtain ⟨ea, hea⟩ : ∃ e, e = 2 * qa := ⟨_, rfl⟩
  obtain ⟨fa, hfa⟩ : ∃ f, f = ea + 1 := ⟨_, rfl⟩
  rw [← hea, ← hfa] at tba
  have wea : IntKind.u32.wrap ((qa : Int) * 2) = (ea : Int) := w32 (by omega) (by omega)
  have wfa : IntKind.u32.wrap ((ea : Int) + 1) = (fa : Int) := w32 (by omega) (by omega)
  obtain ⟨ca, hca⟩ : ∃ c, c = dg (qa / 10) := ⟨_, rfl⟩
  obtain ⟨da, hda⟩ : ∃ d, d = dg (qa % 10) := ⟨_, rfl⟩
  rw [← hca, ← hda] at tba
  have taa := tba.1
  have tca := tba.2
  obtain ⟨z, hz⟩ : ∃ z, z = n / 100 := ⟨_, rfl⟩
  have r1 : intV .rem .u32 (n : Int) 100 = some (.int .u32 ((qa : Nat) : Int)) := rem32 n 100 qa (by omega) hqa.symm
  have r2 : intV .quo .u32 (n : Int) 100 = some (.int .u32 ((z : Nat) : Int)) := quo32 n 100 z (by omega) (by omega) hz.symm
  have z1 : IntKind.u32.wrap (48 + (z : Int)) = ((48 + z : Nat) : Int) := w32 (by omega) (by omega)
  have z2 : IntKind.u8.wrap ((48 + z : Nat) : Int) = ((48 + z : Nat) : Int) := w8 rfl (by omega)
  obtain ⟨y, hy⟩ : ∃ y, y = 48 + z := ⟨_, rfl⟩
  have hyd : ((dg z).toNat : Int) = (y : Int) := by rw [hy]; exact dg_nat (by omega)
  rw [← hy] at z1 z2
  have hdec : dec n = [dg z, ca, da] := by unfold dec; rw [if_neg (by omega), if_neg (by omega), if_pos (by omega), hca, hda, hqa, hz]
  rw [hdec]
  intro qq
  clear hca hda hea hfa hqa
  clear t2 hT
  simp
  refine loop_up (fun i t h' => (t 0 = .sl q 24 1 3 (some 23) ∧ t 1 = .int .u64 (n : Nat) ∧ t 4 = .int .i64 3) ∧ h' = h) 0 ⟨by simp, rfl⟩ ?_
  rintro i t h' hi ⟨⟨t0, t1', t4⟩, rfl⟩ K hK
  simp [t1', t4, c0, r1, r2, wea]
  refine dreg_of ?_
  simp [t0, t4, hg, z1, z2, wfa, taa, tca, v1, v2]
  simpa [byteV, hyd] using qq

theorem fb4_ct {h : H} {q n : Nat} (hg : h.get q = some (.row [.int .u8 0, .int .u8 0, .int .u8 0, .int .u8 0, .int .u8 0, .int .u8 0, .int .u8 0, .int .u8 0, .int .u8 0, .int .u8 0, .int .u8 0, .int .u8 0, .int .u8 0, .int .u8 0, .int .u8 0, .int .u8 0, .int .u8 0, .int .u8 0, .int .u8 0, .int .u8 0, .int .u8 0, .int .u8 0, .int .u8 0, .int .u8 0])) (hlo : 1000 ≤ n) (hhi : n < 10000) {Q : V → H → Prop} (qq : Q (.tup []) (h.set q (.row (V.int .u8 0 :: (dec n).map byteV ++ [.int .u8 0, .int .u8 0, .int .u8 0, .int .u8 0, .int .u8 0, .int .u8 0, .int .u8 0, .int .u8 0, .int .u8 0, .int .u8 0, .int .u8 0, .int .u8 0, .int .u8 0, .int .u8 0, .int .u8 0, .int .u8 0, .int .u8 0, .int .u8 0, .int .u8 0])))) :
    Acalls Tryd.prog 112 [.sl q 24 1 4 (some 23), .int .u64 (n : Nat)] h Q := by
  refine acalls_to Tryd.func112 S.internal_strconv_formatBase10_code S.internal_strconv_formatBase10_enter (Nat.le_of_ble_eq_true rfl) fun wf => ?_; simp only [S.internal_strconv_formatBase10]
  rw [show ([48, 48, 48, 49, 48, 50, 48, 51, 48, 52, 48, 53, 48, 54, 48, 55, 48, 56, 48, 57, 49, 48, 49, 49, 49, 50, 49, 51, 49, 52, 49, 53, 49, 54, 49, 55, 49, 56, 49, 57, 50, 48, 50, 49, 50, 50, 50, 51, 50, 52, 50, 53, 50, 54, 50, 55, 50, 56, 50, 57, 51, 48, 51, 49, 51, 50, 51, 51, 51, 52, 51, 53, 51, 54, 51, 55, 51, 56, 51, 57, 52, 48, 52, 49, 52, 50, 52, 51, 52, 52, 52, 53, 52, 54, 52, 55, 52, 56, 52, 57, 53, 48, 53, 49, 53, 50, 53, 51, 53, 52, 53, 53, 53, 54, 53, 55, 53, 56, 53, 57, 54, 48, 54, 49, 54, 50, 54, 51, 54, 52, 54, 53, 54, 54, 54, 55, 54, 56, 54, 57, 55, 48, 55, 49, 55, 50, 55, 51, 55, 52, 55, 53, 55, 54, 55, 55, 55, 56, 55, 57, 56, 48, 56, 49, 56, 50, 56, 51, 56, 52, 56, 53, 56, 54, 56, 55, 56, 56, 56, 57, 57, 48, 57, 49, 57, 50, 57, 51, 57, 52, 57, 53, 57, 54, 57, 55, 57, 56, 57, 57] : List UInt8) = smalls from rfl]
  obtain ⟨T, hT⟩ : ∃ T, T = smalls := ⟨_, rfl⟩
  have t1 := smalls_ok.1
  have t2 := smalls_ok.2
  rw [← hT] at t1 t2 ⊢
  have hlt := wf.lt hg
  have v0 : IntKind.i64.wrap 0 = 0 := by decide
  have v1 : IntKind.i64.wrap 1 = 1 := by decide
  have v2 : IntKind.i64.wrap 2 = 2 := by decide
  have v3 : IntKind.i64.wrap 3 = 3 := by decide
  have v4 : IntKind.i64.wrap 4 = 4 := by decide
  have c0 : IntKind.u32.wrap (n : Int) = n := w32 rfl (by omega)
  revert qq
  obtain ⟨qa, hqa⟩ : ∃ q, q = n % 100 := ⟨_, rfl⟩
  have la : qa < 100 := by omega
  have tba := t2 qa la
  obtain ⟨ea, hea⟩ : ∃ e, e = 2 * qa := ⟨_, rfl⟩
  obtain ⟨fa, hfa⟩ : ∃ f, f = ea + 1 := ⟨_, rfl⟩
  rw [← hea, ← hfa] at tba
  have wea : IntKind.u32.wrap ((qa : Int) * 2) = (ea : Int) := w32 (by omega) (by omega)
  have wfa : IntKind.u32.wrap ((ea : Int) + 1) = (fa : Int) := w32 (by omega) (by omega)
  obtain ⟨ca, hca⟩ : ∃ c, c = dg (qa / 10) := ⟨_, rfl⟩
  obtain ⟨da, hda⟩ : ∃ d, d = dg (qa % 10) := ⟨_, rfl⟩
  rw [← hca, ← hda] at tba
  have taa := tba.1
  have tca := tba.2
  obtain ⟨qb, hqb⟩ : ∃ q, q = n / 100 := ⟨_, rfl⟩
  have lb : qb < 100 := by omega
  have tbb := t2 qb lb
  obtain ⟨eb, heb⟩ : ∃ e, e = 2 * qb := ⟨_, rfl⟩
  obtain ⟨fb, hfb⟩ : ∃ f, f = eb + 1 := ⟨_, rfl⟩
  rw [← heb, ← hfb] at tbb
  have web : IntKind.u32.wrap ((qb : Int) * 2) = (eb : Int) := w32 (by omega) (by omega)
  have wfb : IntKind.u32.wrap ((eb : Int) + 1) = (fb : Int) := w32 (by omega) (by omega)
  obtain ⟨cb, hcb⟩ : ∃ c, c = dg (qb / 10) := ⟨_, rfl⟩
  obtain ⟨db, hdb⟩ : ∃ d, d = dg (qb % 10) := ⟨_, rfl⟩
  rw [← hcb, ← hdb] at tbb
  have tab := tbb.1
  have tcb := tbb.2
  have r1 : intV .rem .u32 (n : Int) 10000 = some (.int .u32 ((n : Nat) : Int)) := rem32 n 10000 n (by omega) (Nat.mod_eq_of_lt (by omega))
  have r2 : intV .quo .u32 (n : Int) 10000 = some (.int .u32 ((0 : Nat) : Int)) := quo32 n 10000 0 (by omega) (by omega) (Nat.div_eq_of_lt (by omega))
  have r3 : intV .rem .u32 (n : Int) 100 = some (.int .u32 ((qa : Nat) : Int)) := rem32 n 100 qa (by omega) hqa.symm
  have r4 : intV .quo .u32 (n : Int) 100 = some (.int .u32 ((qb : Nat) : Int)) := quo32 n 100 qb (by omega) (by omega) hqb.symm
  have hdec : dec n = [cb, db, ca, da] := by unfold dec; rw [if_neg (by omega), if_neg (by omega), if_neg (by omega), if_pos (by omega), hca, hda, hcb, hdb, hqa, hqb]
  rw [hdec]
  intro qq
  clear hca hcb hda hdb hea heb hfa hfb hqa hqb
  clear t2 hT
  simp
  refine loop_up (fun i t h' => (t 0 = .sl q 24 1 4 (some 23) ∧ t 1 = .int .u64 (n : Nat) ∧ t 4 = .int .i64 4) ∧ h' = h) 0 ⟨by simp, rfl⟩ ?_
  rintro i t h' hi ⟨⟨t0, t1', t4⟩, rfl⟩ K hK
  simp [t1', t4, c0, r1, r2, r3, r4, wea, web]
  refine dreg_of ?_
  simp [t0, t4, hg, wfa, taa, tca, v2, v3]
  refine dreg_of ?_
  simp [t0, t4, wfb, tab, tcb, v0, v1]
  simpa [byteV] using qq

theorem fb5_ct {h : H} {q n : Nat} (hg : h.get q = some (.row [.int .u8 0, .int .u8 0, .int .u8 0, .int .u8 0, .int .u8 0, .int .u8 0, .int .u8 0, .int .u8 0, .int .u8 0, .int .u8 0, .int .u8 0, .int .u8 0, .int .u8 0, .int .u8 0, .int .u8 0, .int .u8 0, .int .u8 0, .int .u8 0, .int .u8 0, .int .u8 0, .int .u8 0, .int .u8 0, .int .u8 0, .int .u8 0])) (hlo : 10000 ≤ n) (hhi : n < 65536) {Q : V → H → Prop} (qq : Q (.tup []) (h.set q (.row (V.int .u8 0 :: (dec n).map byteV ++ [.int .u8 0, .int .u8 0, .int .u8 0, .int .u8 0, .int .u8 0, .int .u8 0, .int .u8 0, .int .u8 0, .int .u8 0, .int .u8 0, .int .u8 0, .int .u8 0, .int .u8 0, .int .u8 0, .int .u8 0, .int .u8 0, .int .u8 0, .int .u8 0])))) :
    Acalls Tryd.prog 112 [.sl q 24 1 5 (some 23), .int .u64 (n : Nat)] h Q := by
  refine acalls_to Tryd.func112 S.internal_strconv_formatBase10_code S.internal_strconv_formatBase10_enter (Nat.le_of_ble_eq_true rfl) fun wf => ?_; simp only [S.internal_strconv_formatBase10]
  rw [show ([48, 48, 48, 49, 48, 50, 48, 51, 48, 52, 48, 53, 48, 54, 48, 55, 48, 56, 48, 57, 49, 48, 49, 49, 49, 50, 49, 51, 49, 52, 49, 53, 49, 54, 49, 55, 49, 56, 49, 57, 50, 48, 50, 49, 50, 50, 50, 51, 50, 52, 50, 53, 50, 54, 50, 55, 50, 56, 50, 57, 51, 48, 51, 49, 51, 50, 51, 51, 51, 52, 51, 53, 51, 54, 51, 55, 51, 56, 51, 57, 52, 48, 52, 49, 52, 50, 52, 51, 52, 52, 52, 53, 52, 54, 52, 55, 52, 56, 52, 57, 53, 48, 53, 49, 53, 50, 53, 51, 53, 52, 53, 53, 53, 54, 53, 55, 53, 56, 53, 57, 54, 48, 54, 49, 54, 50, 54, 51, 54, 52, 54, 53, 54, 54, 54, 55, 54, 56, 54, 57, 55, 48, 55, 49, 55, 50, 55, 51, 55, 52, 55, 53, 55, 54, 55, 55, 55, 56, 55, 57, 56, 48, 56, 49, 56, 50, 56, 51, 56, 52, 56, 53, 56, 54, 56, 55, 56, 56, 56, 57, 57, 48, 57, 49, 57, 50, 57, 51, 57, 52, 57, 53, 57, 54, 57, 55, 57, 56, 57, 57] : List UInt8) = smalls from rfl]
  obtain ⟨T, hT⟩ : ∃ T, T = smalls := ⟨_, rfl⟩
  have t1 := smalls_ok.1
  have t2 := smalls_ok.2
  rw [← hT] at t1 t2 ⊢
  have hlt := wf.lt hg
  have v0 : IntKind.i64.wrap 0 = 0 := by decide
  have v1 : IntKind.i64.wrap 1 = 1 := by decide
  have v2 : IntKind.i64.wrap 2 = 2 := by decide
  have v3 : IntKind.i64.wrap 3 = 3 := by decide
  have v4 : IntKind.i64.wrap 4 = 4 := by decide
  have c0 : IntKind.u32.wrap (n : Int) = n := w32 rfl (by omega)
  revert qq
  obtain ⟨m, hm⟩ : ∃ m, m = n % 10000 := ⟨_, rfl⟩
  have hml : m < 10000 := by omega
  obtain ⟨qa, hqa⟩ : ∃ q, q = m % 100 := ⟨_, rfl⟩
  have la : qa < 100 := by omega
  have tba := t2 qa la
  obtain ⟨ea, hea⟩ : ∃ e, e = 2 * qa := ⟨_, rfl⟩
  obtain ⟨fa, hfa⟩ : ∃ f, f = ea + 1 := ⟨_, rfl⟩
  rw [← hea, ← hfa] at tba
  have wea : IntKind.u32.wrap ((qa : Int) * 2) = (ea : Int) := w32 (by omega) (by omega)
  have wfa : IntKind.u32.wrap ((ea : Int) + 1) = (fa : Int) := w32 (by omega) (by omega)
  obtain ⟨ca, hca⟩ : ∃ c, c = dg (qa / 10) := ⟨_, rfl⟩
  obtain ⟨da, hda⟩ : ∃ d, d = dg (qa % 10) := ⟨_, rfl⟩
  rw [← hca, ← hda] at tba
  have taa := tba.1
  have tca := tba.2
  obtain ⟨qb, hqb⟩ : ∃ q, q = m / 100 := ⟨_, rfl⟩
  have lb : qb < 100 := by omega
  have tbb := t2 qb lb
  obtain ⟨eb, heb⟩ : ∃ e, e = 2 * qb := ⟨_, rfl⟩
  obtain ⟨fb, hfb⟩ : ∃ f, f = eb + 1 := ⟨_, rfl⟩
  rw [← heb, ← hfb] at tbb
  have web : IntKind.u32.wrap ((qb : Int) * 2) = (eb : Int) := w32 (by omega) (by omega)
  have wfb : IntKind.u32.wrap ((eb : Int) + 1) = (fb : Int) := w32 (by omega) (by omega)
  obtain ⟨cb, hcb⟩ : ∃ c, c = dg (qb / 10) := ⟨_, rfl⟩
  obtain ⟨db, hdb⟩ : ∃ d, d = dg (qb % 10) := ⟨_, rfl⟩
  rw [← hcb, ← hdb] at tbb
  have tab := tbb.1
  have tcb := tbb.2
  obtain ⟨z, hz⟩ : ∃ z, z = n / 10000 := ⟨_, rfl⟩
  have r1 : intV .rem .u32 (n : Int) 10000 = some (.int .u32 ((m : Nat) : Int)) := rem32 n 10000 m (by omega) hm.symm
  have r2 : intV .quo .u32 (n : Int) 10000 = some (.int .u32 ((z : Nat) : Int)) := quo32 n 10000 z (by omega) (by omega) hz.symm
  have r3 : intV .rem .u32 (m : Int) 100 = some (.int .u32 ((qa : Nat) : Int)) := rem32 m 100 qa (by omega) hqa.symm
  have r4 : intV .quo .u32 (m : Int) 100 = some (.int .u32 ((qb : Nat) : Int)) := quo32 m 100 qb (by omega) (by omega) hqb.symm
  have z1 : IntKind.u32.wrap (48 + (z : Int)) = ((48 + z : Nat) : Int) := w32 (by omega) (by omega)
  have z2 : IntKind.u8.wrap ((48 + z : Nat) : Int) = ((48 + z : Nat) : Int) := w8 rfl (by omega)
  obtain ⟨y, hy⟩ : ∃ y, y = 48 + z := ⟨_, rfl⟩
  have hyd : ((dg z).toNat : Int) = (y : Int) := by rw [hy]; exact dg_nat (by omega)
  rw [← hy] at z1 z2
  have hdec : dec n = [dg z, cb, db, ca, da] := by unfold dec; rw [if_neg (by omega), if_neg (by omega), if_neg (by omega), if_neg (by omega), hca, hda, hcb, hdb, hqa, hqb, hz, hm]
  rw [hdec]
  intro qq
  clear hca hcb hda hdb hea heb hfa hfb hqa hqb
  clear t2 hT
  simp
  refine loop_up (fun i t h' => (t 0 = .sl q 24 1 5 (some 23) ∧ t 1 = .int .u64 (n : Nat) ∧ t 4 = .int .i64 5) ∧ h' = h) 0 ⟨by simp, rfl⟩ ?_
  rintro i t h' hi ⟨⟨t0, t1', t4⟩, rfl⟩ K hK
  simp [t1', t4, c0, r1, r2, r3, r4, wea, web]
  refine dreg_of ?_
  simp [t0, t4, hg, wfa, taa, tca, v3, v4]
  refine dreg_of ?_
  simp [t0, t4, z1, z2, wfb, tab, tcb, v1, v2]
  simpa [byteV, hyd] using qq
end Go.Am

/-
  Numbers below 65536 as texts: how many digits; strconv.Itoa; a community's text.
-/
namespace Go.Am
open Go.Proofs

set_option maxRecDepth 100000
theorem bool2_ct {h : H} {b : Bool} : Pure Tryd.prog 132 [.bool b] h (.int .i64 (if b = true then 1 else 0)) := by
  cases b
  · refine pure_to Tryd.func132 S.internal_strconv_bool2_int_code S.internal_strconv_bool2_int_enter rfl (Nat.le_of_ble_eq_true rfl) fun wf => ?_; simp only [S.internal_strconv_bool2_int]
    simp
  · refine pure_to Tryd.func132 S.internal_strconv_bool2_int_code S.internal_strconv_bool2_int_enter rfl (Nat.le_of_ble_eq_true rfl) fun wf => ?_; simp only [S.internal_strconv_bool2_int]
    simp
theorem log10_ct {h : H} {n : Nat} (hn : n ≤ 64) : Pure Tryd.prog 131 [.int .i64 (n : Nat)] h (.int .i64 ((n * 78913 / 262144 : Nat) : Int)) := by
  refine pure_to Tryd.func131 S.internal_strconv_log10Pow2_code S.internal_strconv_log10Pow2_enter rfl (Nat.le_of_ble_eq_true rfl) fun wf => ?_; simp only [S.internal_strconv_log10Pow2]
  have w1 : IntKind.i64.wrap ((n : Int) * 78913) = ((n * 78913 : Nat) : Int) := by rw [wrap_i64_id (by omega) (by omega)]; omega
  have s1 : ((n * 78913 : Nat) : Int).fdiv (2 ^ min 18 IntKind.i64.bits) = ((n * 78913 / 262144 : Nat) : Int) := by
    rw [show (2 : Int) ^ min 18 IntKind.i64.bits = ((262144 : Nat) : Int) from rfl, Int.fdiv_eq_ediv_of_nonneg _ (Int.natCast_nonneg _), ← Int.natCast_ediv]
  obtain ⟨m, hm⟩ : ∃ m, m = n * 78913 := ⟨_, rfl⟩
  rw [← hm] at w1 s1 ⊢
  obtain ⟨k, hk⟩ : ∃ k, k = m / 262144 := ⟨_, rfl⟩
  rw [← hk] at s1 ⊢
  simp [w1, s1]
theorem digits_ct {h : H} {n d : Nat} (hd : (d = 3 ∧ 100 ≤ n ∧ n < 1000) ∨ (d = 4 ∧ 1000 ≤ n ∧ n < 10000) ∨ (d = 5 ∧ 10000 ≤ n ∧ n < 65536)) : Pure Tryd.prog 111 [.int .u64 (n : Nat)] h (.int .i64 (d : Nat)) := by
  refine pure_to Tryd.func111 S.internal_strconv_numDigits_code S.internal_strconv_numDigits_enter rfl (Nat.le_of_ble_eq_true rfl) fun wf => ?_; simp only [S.internal_strconv_numDigits]
  obtain ⟨b, hb, hk, hlen⟩ := len64_ct (v := n) (by omega)
  have k6 := hk 6 (by omega)
  have k9 := hk 9 (by omega)
  have k13 := hk 13 (by omega)
  have k16 := hk 16 (by omega)
  simp at k6 k9 k13 k16
  simp
  refine hlen h _ ?_
  simp
  refine log10_ct hb _ ?_
  obtain ⟨m, hm⟩ : ∃ m, m = b * 78913 / 262144 := ⟨_, rfl⟩
  rw [← hm]
  have hm2 : (m = 2 ∧ (d = 3 ∨ n < 1000) ∧ b ≤ 9) ∨ (m = 3 ∧ 512 ≤ n ∧ n < 8192) ∨ (m = 4 ∧ 8192 ≤ n) := by omega
  clear hm k6 k9 k13 k16 hk hlen
  have w3 : IntKind.i64.wrap 3 = 3 := by decide
  have w4 : IntKind.i64.wrap 4 = 4 := by decide
  have w5 : IntKind.i64.wrap 5 = 5 := by decide
  obtain ⟨pw, g0, g2, g3, g4⟩ : ∃ pw, GT.lookup 3 = some pw ∧ pw[2]? = some (.int .u64 100) ∧ pw[3]? = some (.int .u64 1000) ∧ pw[4]? = some (.int .u64 10000) := ⟨_, rfl, rfl, rfl, rfl⟩
  rcases hm2 with ⟨rfl, h1, h2⟩ | ⟨rfl, h1, h2⟩ | ⟨rfl, h1⟩
  · have e1 : (100 : Int) ≤ n := by omega
    have e2 : d = 3 := by omega
    subst e2
    simp [g0, g2, e1]
    refine bool2_ct _ ?_
    simp [w3]
  · by_cases c : 1000 ≤ n
    · have e1 : (1000 : Int) ≤ n := by omega
      have e2 : d = 4 := by omega
      subst e2
      simp [g0, g3, e1]
      refine bool2_ct _ ?_
      simp [w4]
    · have e1 : ¬ (1000 : Int) ≤ n := by omega
      have e2 : d = 3 := by omega
      subst e2
      simp [g0, g3, e1]
      refine bool2_ct _ ?_
      simp [w3]
  · by_cases c : 10000 ≤ n
    · have e1 : (10000 : Int) ≤ n := by omega
      have e2 : d = 5 := by omega
      subst e2
      simp [g0, g4, e1]
      refine bool2_ct _ ?_
      simp [w5]
    · have e1 : ¬ (10000 : Int) ≤ n := by omega
      have e2 : d = 4 := by omega
      subst e2
      simp [g0, g4, e1]
      refine bool2_ct _ ?_
      simp [w4]
theorem dec_len {n : Nat} : (dec n).length = if n < 10 then 1 else if n < 100 then 2 else if n < 1000 then 3 else if n < 10000 then 4 else 5 := by
  unfold dec
  repeat' split
  all_goals rfl
theorem fbg {P : Program} {k : Nat} {args : List V} {h g0 : H} {v : V} (c : ∀ {Q : V → H → Prop}, Q v g0 → Acalls P k args h Q) {Q : V → H → Prop} (q : ∀ g, g = g0 → Q v g) : Acalls P k args h Q := c (q _ rfl)
theorem fmt_ct {h : H} {n : Nat} (hn : n < 65536) : Pure Tryd.prog 90 [.int .i64 (n : Nat), .int .i64 10] h (.str (dec n)) := by
  refine pure_to Tryd.func90 S.internal_strconv_FormatInt_code S.internal_strconv_FormatInt_enter rfl (Nat.le_of_ble_eq_true rfl) fun wf => ?_; simp only [S.internal_strconv_FormatInt]
  have n0 : ¬ (n : Int) < 0 := by omega
  have wu : IntKind.u64.wrap (n : Int) = n := u64_id (by omega)
  by_cases h1 : n < 100
  · have h1' : (n : Int) < 100 := by omega
    simp [h1']
    refine small_ct h1 _ ?_
    simp
  · have h1' : ¬ (n : Int) < 100 := by omega
    have dl := dec_len (n := n)
    simp [h1', n0, wu]
    obtain ⟨d, hd⟩ : ∃ d, (d = 3 ∧ 100 ≤ n ∧ n < 1000) ∨ (d = 4 ∧ 1000 ≤ n ∧ n < 10000) ∨ (d = 5 ∧ 10000 ≤ n ∧ n < 65536) := by
      by_cases a : n < 1000
      · exact ⟨3, by omega⟩
      · by_cases b : n < 10000
        · exact ⟨4, by omega⟩
        · exact ⟨5, by omega⟩
    refine digits_ct (d := d) hd _ ?_
    have w4 : IntKind.i64.wrap 4 = 4 := by decide
    have w5 : IntKind.i64.wrap 5 = 5 := by decide
    have w6 : IntKind.i64.wrap 6 = 6 := by decide
    rcases hd with ⟨rfl, e1, e2⟩ | ⟨rfl, e1, e2⟩ | ⟨rfl, e1, e2⟩
    · have hl : (dec n).length = 3 := by rw [dl]; (repeat' split) <;> omega
      have hs : ∀ g : Nat → Option O, g h.next = some (.row (V.int .u8 0 :: (dec n).map byteV ++ [.int .u8 0, .int .u8 0, .int .u8 0, .int .u8 0, .int .u8 0, .int .u8 0, .int .u8 0, .int .u8 0, .int .u8 0, .int .u8 0, .int .u8 0, .int .u8 0, .int .u8 0, .int .u8 0, .int .u8 0, .int .u8 0, .int .u8 0, .int .u8 0, .int .u8 0, .int .u8 0])) → elemsV g 1 (.sl h.next 24 1 3 (some 23)) = some (3, (dec n).map byteV) := by
        intro g hg
        obtain ⟨cs, hcs⟩ : ∃ cs, cs = V.int .u8 0 :: (dec n).map byteV ++ [V.int .u8 0, V.int .u8 0, V.int .u8 0, V.int .u8 0, V.int .u8 0, V.int .u8 0, V.int .u8 0, V.int .u8 0, V.int .u8 0, V.int .u8 0, V.int .u8 0, V.int .u8 0, V.int .u8 0, V.int .u8 0, V.int .u8 0, V.int .u8 0, V.int .u8 0, V.int .u8 0, V.int .u8 0, V.int .u8 0] := ⟨_, rfl⟩
        rw [← hcs] at hg
        have hcl : cs.length = 24 := by rw [hcs]; simp [hl]
        rw [elemsV_sl, if_neg (by omega), cellsAt_of hg (by simp [O.len, O.cells, hcl])]
        show (if 1 + 3 * 1 ≤ cs.length then some (3, (cs.drop 1).take (3 * 1)) else none) = _
        rw [if_pos (by omega), hcs]
        simp only [List.cons_append, List.drop_succ_cons, List.drop_zero]
        rw [List.take_append_of_le_length (by simp [hl]), List.take_of_length_le (by simp [hl])]
      obtain ⟨ds, hds⟩ : ∃ ds, ds = dec n := ⟨_, rfl⟩
      rw [← hds] at hs hl ⊢
      have hsa : sliceArrV 24 1 (some (.int .i64 1)) (some (.int .i64 4)) none (.ptr h.next 24 0) = some (.sl h.next 24 1 3 (some 23)) := rfl
      simp [w4, hsa]
      refine fbg (fb3_ct (q := h.next) (by simp) e1 e2) fun g hg => ?_
      rw [← hds] at hg
      have e3 := hs g.get (by rw [hg]; simp)
      have gg : Ge h g := by rw [hg]; exact (((Ge.refl h).push _).set (Nat.le_refl _) _)
      clear hg
      simp [n0, w4, hsa, e3]
      exact gg
    · have hl : (dec n).length = 4 := by rw [dl]; (repeat' split) <;> omega
      have hs : ∀ g : Nat → Option O, g h.next = some (.row (V.int .u8 0 :: (dec n).map byteV ++ [.int .u8 0, .int .u8 0, .int .u8 0, .int .u8 0, .int .u8 0, .int .u8 0, .int .u8 0, .int .u8 0, .int .u8 0, .int .u8 0, .int .u8 0, .int .u8 0, .int .u8 0, .int .u8 0, .int .u8 0, .int .u8 0, .int .u8 0, .int .u8 0, .int .u8 0])) → elemsV g 1 (.sl h.next 24 1 4 (some 23)) = some (4, (dec n).map byteV) := by
        intro g hg
        obtain ⟨cs, hcs⟩ : ∃ cs, cs = V.int .u8 0 :: (dec n).map byteV ++ [V.int .u8 0, V.int .u8 0, V.int .u8 0, V.int .u8 0, V.int .u8 0, V.int .u8 0, V.int .u8 0, V.int .u8 0, V.int .u8 0, V.int .u8 0, V.int .u8 0, V.int .u8 0, V.int .u8 0, V.int .u8 0, V.int .u8 0, V.int .u8 0, V.int .u8 0, V.int .u8 0, V.int .u8 0] := ⟨_, rfl⟩
        rw [← hcs] at hg
        have hcl : cs.length = 24 := by rw [hcs]; simp [hl]
        rw [elemsV_sl, if_neg (by omega), cellsAt_of hg (by simp [O.len, O.cells, hcl])]
        show (if 1 + 4 * 1 ≤ cs.length then some (4, (cs.drop 1).take (4 * 1)) else none) = _
        rw [if_pos (by omega), hcs]
        simp only [List.cons_append, List.drop_succ_cons, List.drop_zero]
        rw [List.take_append_of_le_length (by simp [hl]), List.take_of_length_le (by simp [hl])]
      obtain ⟨ds, hds⟩ : ∃ ds, ds = dec n := ⟨_, rfl⟩
      rw [← hds] at hs hl ⊢
      have hsa : sliceArrV 24 1 (some (.int .i64 1)) (some (.int .i64 5)) none (.ptr h.next 24 0) = some (.sl h.next 24 1 4 (some 23)) := rfl
      simp [w5, hsa]
      refine fbg (fb4_ct (q := h.next) (by simp) e1 e2) fun g hg => ?_
      rw [← hds] at hg
      have e3 := hs g.get (by rw [hg]; simp)
      have gg : Ge h g := by rw [hg]; exact (((Ge.refl h).push _).set (Nat.le_refl _) _)
      clear hg
      simp [n0, w5, hsa, e3]
      exact gg
    · have hl : (dec n).length = 5 := by rw [dl]; (repeat' split) <;> omega
      have hs : ∀ g : Nat → Option O, g h.next = some (.row (V.int .u8 0 :: (dec n).map byteV ++ [.int .u8 0, .int .u8 0, .int .u8 0, .int .u8 0, .int .u8 0, .int .u8 0, .int .u8 0, .int .u8 0, .int .u8 0, .int .u8 0, .int .u8 0, .int .u8 0, .int .u8 0, .int .u8 0, .int .u8 0, .int .u8 0, .int .u8 0, .int .u8 0])) → elemsV g 1 (.sl h.next 24 1 5 (some 23)) = some (5, (dec n).map byteV) := by
        intro g hg
        obtain ⟨cs, hcs⟩ : ∃ cs, cs = V.int .u8 0 :: (dec n).map byteV ++ [V.int .u8 0, V.int .u8 0, V.int .u8 0, V.int .u8 0, V.int .u8 0, V.int .u8 0, V.int .u8 0, V.int .u8 0, V.int .u8 0, V.int .u8 0, V.int .u8 0, V.int .u8 0, V.int .u8 0, V.int .u8 0, V.int .u8 0, V.int .u8 0, V.int .u8 0, V.int .u8 0] := ⟨_, rfl⟩
        rw [← hcs] at hg
        have hcl : cs.length = 24 := by rw [hcs]; simp [hl]
        rw [elemsV_sl, if_neg (by omega), cellsAt_of hg (by simp [O.len, O.cells, hcl])]
        show (if 1 + 5 * 1 ≤ cs.length then some (5, (cs.drop 1).take (5 * 1)) else none) = _
        rw [if_pos (by omega), hcs]
        simp only [List.cons_append, List.drop_succ_cons, List.drop_zero]
        rw [List.take_append_of_le_length (by simp [hl]), List.take_of_length_le (by simp [hl])]
      obtain ⟨ds, hds⟩ : ∃ ds, ds = dec n := ⟨_, rfl⟩
      rw [← hds] at hs hl ⊢
      have hsa : sliceArrV 24 1 (some (.int .i64 1)) (some (.int .i64 6)) none (.ptr h.next 24 0) = some (.sl h.next 24 1 5 (some 23)) := rfl
      simp [w6, hsa]
      refine fbg (fb5_ct (q := h.next) (by simp) e1 e2) fun g hg => ?_
      rw [← hds] at hg
      have e3 := hs g.get (by rw [hg]; simp)
      have gg : Ge h g := by rw [hg]; exact (((Ge.refl h).push _).set (Nat.le_refl _) _)
      clear hg
      simp [n0, w6, hsa, e3]
      exact gg
theorem itoa_ct {h : H} {n : Nat} (hn : n < 65536) : Pure Tryd.prog 52 [.int .i64 (n : Nat)] h (.str (dec n)) := by
  refine pure_to Tryd.func52 S.strconv_Itoa_code S.strconv_Itoa_enter rfl (Nat.le_of_ble_eq_true rfl) fun wf => ?_; simp only [S.strconv_Itoa]
  simp
  refine (show Pure Tryd.prog 72 [.int .i64 (n : Nat)] h (.str (dec n)) from ?_) _ ?_
  · refine pure_to Tryd.func72 S.internal_strconv_Itoa_code S.internal_strconv_Itoa_enter rfl (Nat.le_of_ble_eq_true rfl) fun wf => ?_; simp only [S.internal_strconv_Itoa]
    have w : IntKind.i64.wrap (n : Int) = n := wrap_i64_id (by omega) (by omega)
    simp
    refine fmt_ct hn _ ?_
    simp
  · simp
/-- A community with a name. -/
def nameC (c : Nat) : List UInt8 :=
  if c = 4294967041 then [110, 111, 45, 101, 120, 112, 111, 114, 116] else if c = 4294967042 then [110, 111, 45, 97, 100, 118, 101, 114, 116, 105, 115, 101] else
  if c = 4294967043 then [110, 111, 45, 101, 120, 112, 111, 114, 116, 45, 115, 117, 98, 99, 111, 110, 102, 101, 100] else []
def textC (c : Nat) : List UInt8 := if nameC c = [] then dec (c / 65536) ++ [58] ++ dec (c % 65536) else nameC c
theorem named_ct {h : H} {c : Nat} : Pure Tryd.prog 49 [.int .u32 (c : Nat)] h (.str (nameC c)) := by
  refine pure_to Tryd.func49 S.comm_named_code S.comm_named_enter rfl (Nat.le_of_ble_eq_true rfl) fun wf => ?_; simp only [S.comm_named]
  unfold nameC
  by_cases e1 : c = 4294967041
  · subst e1; simp
  · have b1 : ((c : Int) == 4294967041) = false := beq_eq_false_iff_ne.2 (by omega)
    by_cases e2 : c = 4294967042
    · subst e2; simp
    · have b2 : ((c : Int) == 4294967042) = false := beq_eq_false_iff_ne.2 (by omega)
      by_cases e3 : c = 4294967043
      · subst e3; simp
      · have b3 : ((c : Int) == 4294967043) = false := beq_eq_false_iff_ne.2 (by omega)
        simp [e1, e2, e3, b1, b2, b3]
theorem and16 (c : Nat) (hc : c < 4294967296) : intV .and .u32 (c : Int) 65535 = some (.int .u32 ((c % 65536 : Nat) : Int)) := by
  have h1 : (BitVec.ofInt 32 (c : Int)).toNat = c := by simp; omega
  have h2 : (BitVec.ofInt 32 65535).toNat = 2 ^ 16 - 1 := by decide
  show some (V.int .u32 (IntKind.u32.wrap ((BitVec.ofInt 32 (c : Int) &&& BitVec.ofInt 32 65535).toNat : Int))) = _
  rw [BitVec.toNat_and, h1, h2, Nat.and_two_pow_sub_one_eq_mod]
  congr 2
  simp [IntKind.wrap, IntKind.bits, IntKind.signed]; omega
theorem text_ct {h : H} {c : Nat} (hc : c < 4294967296) : Pure Tryd.prog 16 [.int .u32 (c : Nat)] h (.str (textC c)) := by
  refine pure_to Tryd.func16 S.comm_Text_code S.comm_Text_enter rfl (Nat.le_of_ble_eq_true rfl) fun wf => ?_; simp only [S.comm_Text]
  simp
  refine named_ct _ ?_
  unfold textC
  by_cases hn : nameC c = []
  · have b1 : (nameC c != []) = false := by rw [hn]; rfl
    obtain ⟨hi, hhi⟩ : ∃ hi, hi = c / 65536 := ⟨_, rfl⟩
    obtain ⟨lo, hlo⟩ : ∃ lo, lo = c % 65536 := ⟨_, rfl⟩
    have a1 := and16 c hc
    rw [← hlo] at a1
    have w1 : IntKind.i64.wrap (hi : Int) = hi := wrap_i64_id (by omega) (by omega)
    have w2 : IntKind.i64.wrap (lo : Int) = lo := wrap_i64_id (by omega) (by omega)
    have f1 : ((c : Nat) : Int).fdiv (2 ^ min 16 IntKind.u32.bits) = (hi : Int) := by rw [hhi, fd16]; omega
    have l1 := dec_len (n := hi)
    have l2 := dec_len (n := lo)
    have k1 : (dec hi).length ≤ 5 := by rw [l1]; (repeat' split) <;> omega
    have k2 : (dec lo).length ≤ 5 := by rw [l2]; (repeat' split) <;> omega
    rw [← hhi, ← hlo]
    have b1' : (([] : List UInt8) != []) = false := rfl
    simp [hn, f1, w1]
    refine itoa_ct (by omega) _ ?_
    have k3 : (dec hi).length + 1 ≤ 9223372036854775807 := by omega
    have k4 : (dec hi).length + 1 + (dec lo).length ≤ 9223372036854775807 := by omega
    simp [a1, w2, k3]
    refine itoa_ct (by omega) _ ?_
    have k5 : (dec hi).length + ((dec lo).length + 1) ≤ 9223372036854775807 := by omega
    simp [k4]
  · have b1 : (nameC c).isEmpty = false := by simpa using hn
    simp [hn, b1]
end Go.Am

/-
  A text cut at its first colon; numbers read (strconv.ParseUint at base 10, 16 bits).
-/
namespace Go.Am
open Go.Proofs

set_option maxRecDepth 100000
/-- What stands ahead of the first colon, what behind it; is there one? -/
def cutS : List UInt8 → List UInt8 × List UInt8 × Bool
  | [] => ([], [], false)
  | b :: s => if b = 58 then ([], s, true) else (b :: (cutS s).1, (cutS s).2.1, (cutS s).2.2)
theorem cutS_no : ∀ {s : List UInt8}, (cutS s).2.2 = false → cutS s = (s, [], false) ∧ Go.Lib.indexByte s 58 = -1
  | [], _ => ⟨rfl, rfl⟩
  | b :: s, h => by
    unfold cutS at h ⊢
    by_cases hb : b = 58
    · rw [if_pos hb] at h; cases h
    · rw [if_neg hb] at h ⊢
      obtain ⟨e1, e2⟩ := cutS_no h
      rw [e1]
      refine ⟨rfl, ?_⟩
      simp [Go.Lib.indexByte, hb, e2]
theorem cutS_yes : ∀ {s : List UInt8}, (cutS s).2.2 = true → s = (cutS s).1 ++ 58 :: (cutS s).2.1 ∧ Go.Lib.indexByte s 58 = (cutS s).1.length
  | [], h => by cases h
  | b :: s, h => by
    unfold cutS at h ⊢
    by_cases hb : b = 58
    · rw [if_pos hb]
      refine ⟨by simp [hb], by simp [Go.Lib.indexByte, hb]⟩
    · rw [if_neg hb] at h ⊢
      obtain ⟨e1, e2⟩ := cutS_yes h
      refine ⟨?_, ?_⟩
      · simp only [List.cons_append]; rw [← e1]
      · have n1 : ¬ ((cutS s).1.length : Int) = -1 := by omega
        have bb : (b == 58) = false := beq_eq_false_iff_ne.2 hb
        have bc : (((cutS s).1.length : Int) == -1) = false := beq_eq_false_iff_ne.2 n1
        simp only [Go.Lib.indexByte, bb, e2, bc, List.length_cons, Bool.false_eq_true, if_false]
        omega
theorem cutS_at : ∀ {a b : List UInt8}, 58 ∉ a → cutS (a ++ 58 :: b) = (a, b, true)
  | [], b, _ => by simp [cutS]
  | x :: a, b, h => by
    have hx : ¬ x = 58 := fun e => h (by simp [e])
    rw [List.cons_append, cutS, if_neg hx, cutS_at (fun e => h (by simp [e]))]
theorem ixb_ct {h : H} {s : List UInt8} : Pure Tryd.prog 104 [.str s, .int .u8 58] h (.int .i64 (Go.Lib.indexByte s 58)) := by
  refine pure_to Tryd.func104 S.internal_stringslite_IndexByte_code S.internal_stringslite_IndexByte_enter rfl (Nat.le_of_ble_eq_true rfl) fun wf => ?_; simp only [S.internal_stringslite_IndexByte]
  simp
  try rfl
theorem index_ct {h : H} {s : List UInt8} : Pure Tryd.prog 83 [.str s, .str [58]] h (.int .i64 (Go.Lib.indexByte s 58)) := by
  refine pure_to Tryd.func83 S.internal_stringslite_Index_code S.internal_stringslite_Index_enter rfl (Nat.le_of_ble_eq_true rfl) fun wf => ?_; simp only [S.internal_stringslite_Index]
  by_cases hs : s = [58]
  · subst hs
    simp [Go.Lib.indexByte]
  · have b1 : (([58] : List UInt8) == s) = false := beq_eq_false_iff_ne.2 fun e => hs e.symm
    simp [b1]
    refine ixb_ct _ ?_
    simp
theorem cut_ct {h : H} {s : List UInt8} (hl : s.length ≤ 9223372036854775806) : Pure Tryd.prog 69 [.str s, .str [58]] h (.tup [.str (cutS s).1, .str (cutS s).2.1, .bool (cutS s).2.2]) := by
  refine pure_to Tryd.func69 S.internal_stringslite_Cut_code S.internal_stringslite_Cut_enter rfl (Nat.le_of_ble_eq_true rfl) fun wf => ?_; simp only [S.internal_stringslite_Cut]
  simp
  refine index_ct _ ?_
  cases hc : (cutS s).2.2 with
  | false =>
    obtain ⟨e1, e2⟩ := cutS_no hc
    rw [e2, e1]
    simp
  | true =>
    obtain ⟨e1, e2⟩ := cutS_yes hc
    obtain ⟨a, ha⟩ : ∃ a, a = (cutS s).1 := ⟨_, rfl⟩
    obtain ⟨b, hb⟩ : ∃ b, b = (cutS s).2.1 := ⟨_, rfl⟩
    rw [← ha, ← hb] at e1
    rw [← ha] at e2
    rw [e2, ← ha, ← hb]
    have hal : a.length + 1 + b.length = s.length := by rw [e1]; simp +arith
    have w1 : IntKind.i64.wrap ((a.length : Int) + 1) = ((a.length + 1 : Nat) : Int) := by rw [wrap_i64_id (by omega) (by omega)]; omega
    have f1 : sliceStrV none (some (.int .i64 (a.length : Int))) (.str s) = some (.str a) := by
      rw [sliceStrV_str, boundV_nat (by omega), Option.bind_some, show boundV 0 a.length none = some 0 from rfl, Option.bind_some, List.drop_zero, e1, List.take_left' rfl]
    have f2 : sliceStrV (some (.int .i64 ((a.length + 1 : Nat) : Int))) none (.str s) = some (.str b) := by
      rw [sliceStrV_str, show boundV s.length s.length none = some s.length from rfl, Option.bind_some, boundV_nat (by omega), Option.bind_some, List.take_length, e1]
      congr 2
      rw [show a ++ 58 :: b = (a ++ [58]) ++ b by simp]
      exact List.drop_left' (by simp)
    obtain ⟨m, hm⟩ : ∃ m, m = a.length + 1 := ⟨_, rfl⟩
    rw [← hm] at w1 f2
    simp
    refine dreg_of ?_
    simp [-sliceStrV_str, f1, f2, w1]
theorem scut_ct {h : H} {s : List UInt8} (hl : s.length ≤ 9223372036854775806) : Pure Tryd.prog 50 [.str s, .str [58]] h (.tup [.str (cutS s).1, .str (cutS s).2.1, .bool (cutS s).2.2]) := by
  refine pure_to Tryd.func50 S.strings_Cut_code S.strings_Cut_enter rfl (Nat.le_of_ble_eq_true rfl) fun wf => ?_; simp only [S.strings_Cut]
  simp
  refine cut_ct hl _ ?_
  simp
theorem lower_ct {h : H} {b : UInt8} : Pure Tryd.prog 84 [.int .u8 (b.toNat : Int)] h (.int .u8 ((b ||| 32).toNat : Int)) := by
  refine pure_to Tryd.func84 S.internal_strconv_lower_code S.internal_strconv_lower_enter rfl (Nat.le_of_ble_eq_true rfl) fun wf => ?_; simp only [S.internal_strconv_lower]
  have e : intV .or .u8 (b.toNat : Int) 32 = some (.int .u8 ((b ||| 32).toNat : Int)) := by
    have h1 : (BitVec.ofInt 8 (b.toNat : Int)) = b.toBitVec := by
      apply BitVec.eq_of_toNat_eq
      have := b.toNat_lt
      simp <;> omega
    show some (V.int .u8 (IntKind.u8.wrap ((BitVec.ofInt 8 (b.toNat : Int) ||| BitVec.ofInt 8 32).toNat : Int))) = _
    rw [h1, show (BitVec.ofInt 8 32) = (32 : UInt8).toBitVec by decide]
    have := (b ||| 32).toNat_lt
    rw [show (b.toBitVec ||| (32 : UInt8).toBitVec).toNat = (b ||| 32).toNat from rfl]
    congr 2
    simp only [IntKind.wrap, IntKind.bits, IntKind.signed, Bool.false_and, Bool.false_eq_true, if_false]
    omega
  obtain ⟨r, hr⟩ : ∃ r, r = (b ||| 32).toNat := ⟨_, rfl⟩
  rw [← hr] at e ⊢
  simp [e]
/-- A number below 65536 read, digit for digit; else what is wrong: 2: not a digit; 1: too great. -/
def puE : Nat → List UInt8 → Nat × Nat
  | acc, [] => (acc, 0)
  | acc, b :: l => if 48 ≤ b.toNat ∧ b.toNat ≤ 57 then (if acc * 10 + (b.toNat - 48) ≤ 65535 then puE (acc * 10 + (b.toNat - 48)) l else (65535, 1)) else (0, 2)
def puR (s : List UInt8) : Nat × Nat := if s = [] then (0, 2) else puE 0 s
def errV (k : Nat) : V := if k = 0 then .niliface else .iface 106 (.int .i64 k)
theorem puE_step {acc : Nat} {s : List UInt8} {i : Nat} (hi : i < s.length) : puE acc (s.drop i) = if 48 ≤ s[i].toNat ∧ s[i].toNat ≤ 57 then (if acc * 10 + (s[i].toNat - 48) ≤ 65535 then puE (acc * 10 + (s[i].toNat - 48)) (s.drop (i + 1)) else (65535, 1)) else (0, 2) := by
  rw [List.drop_eq_getElem_cons hi, puE]
theorem w8' {z : Int} {n : Nat} (e : z = n) (h : n < 256) : IntKind.u8.wrap z = (n : Int) := w8 e h
theorem pui_ct {h : H} {s : List UInt8} (hl : s.length ≤ 9223372036854775806) : Pure Tryd.prog 70 [.str s, .int .i64 10, .int .i64 16] h (.tup [.int .u64 ((puR s).1 : Nat), errV (puR s).2]) := by
  refine pure_to Tryd.func70 S.internal_strconv_ParseUint_code S.internal_strconv_ParseUint_enter (by show V.idss [_, errV _] = []; unfold errV; split <;> rfl) (Nat.le_of_ble_eq_true rfl) fun wf => ?_; simp only [S.internal_strconv_ParseUint]
  by_cases h0 : s = []
  · subst h0
    simp [puR, errV]
  · have b0 : (s == []) = false := by simpa using h0
    have w10 : IntKind.u64.wrap 10 = 10 := by decide
    have w16 : IntKind.u64.wrap 16 = 16 := by decide
    have m11 : IntKind.u64.wrap (IntKind.u64.wrap (2 ^ min 16 IntKind.u64.bits) - 1) = 65535 := by decide
    have hp : puR s = puE 0 s := if_neg h0
    have w8 : IntKind.u8.wrap 10 = 10 := by decide
    rw [hp]
    have hl' : s.length ≤ 9223372036854775807 := by omega
    simp [b0, w16, m11, hl']
    obtain ⟨h1, hh1⟩ : ∃ h1, h1 = h.push (.grow 1 (s.map byteV)) := ⟨_, rfl⟩
    have g1 : Ge h h1 := by rw [hh1]; exact (Ge.refl _).push _
    have c1 : cellsAt h1.get h.next s.length = some (s.map byteV) := by rw [hh1, cellsAt_push, if_pos rfl]; simp
    rw [← hh1]
    refine loop_up (fun i t h' => ∃ acc : Nat, (t 1 = .int .i64 10 ∧ t 8 = .bool false ∧ t 10 = .int .u64 1844674407370955162 ∧ t 11 = .int .u64 65535 ∧ t 12 = .bool false ∧ t 13 = .int .u64 acc ∧ t 99 = .sl h.next s.length 0 s.length none ∧ t 100 = .int .i64 s.length ∧ t 101 = .int .i64 (i : Nat)) ∧ h' = h1 ∧ acc ≤ 65535 ∧ puE 0 s = puE acc (s.drop i)) s.length ⟨0, by simp, rfl, by omega, rfl⟩ ?_
    rintro i t h' hi ⟨acc, ⟨t1, t8, t10, t11, t12, t13, t99, t100, t101⟩, rfl, hacc, hpu⟩ K hK
    by_cases hlt : i < s.length
    · have hw := wrap_succ hlt (by omega)
      have hix : byteV s[i] = .int .u8 (s[i].toNat : Int) := rfl
      have ps := puE_step (acc := acc) hlt
      rw [← hpu] at ps
      have lb := s[i].toNat_lt
      have lw := fun g : H => lower_ct (h := g) (b := s[i])
      have low : (s[i] ||| 32).toNat = s[i].toNat ||| 32 := rfl
      obtain ⟨b, hb⟩ : ∃ b, b = s[i].toNat := ⟨_, rfl⟩
      obtain ⟨r, hr⟩ : ∃ r, r = (s[i] ||| 32).toNat := ⟨_, rfl⟩
      have hrl := (s[i] ||| 32).toNat_lt
      rw [← hr] at low lw hrl
      rw [← hb] at hix ps lb lw low
      have c8 : IntKind.u8.wrap 10 = 10 := w8
      simp [t99, t100, t101, hlt, c1, hix]
      by_cases hd : 48 ≤ b ∧ b ≤ 57
      · have n95 : ((b : Int) == 95) = false := beq_eq_false_iff_ne.2 (by omega)
        have d1 : (48 : Int) ≤ b := by omega
        have d2 : (b : Int) ≤ 57 := by omega
        obtain ⟨d, hdd⟩ : ∃ d, d = b - 48 := ⟨_, rfl⟩
        have wd : IntKind.u8.wrap ((b : Int) - 48) = (d : Int) := w8' (by omega) (by omega)
        have nd : ¬ (10 : Int) ≤ d := by omega
        have nc : ¬ (1844674407370955162 : Int) ≤ acc := by omega
        have wm : IntKind.u64.wrap ((acc : Int) * 10) = ((acc * 10 : Nat) : Int) := by rw [show (acc : Int) * 10 = ((acc * 10 : Nat) : Int) by omega]; exact u64_id (by omega)
        obtain ⟨a10, ha10⟩ : ∃ a, a = acc * 10 := ⟨_, rfl⟩
        have wdd : IntKind.u64.wrap (d : Int) = d := u64_id (by omega)
        have wa : IntKind.u64.wrap ((a10 : Int) + d) = ((a10 + d : Nat) : Int) := by rw [← Int.natCast_add]; exact u64_id (by omega)
        obtain ⟨na, hna⟩ : ∃ a, a = a10 + d := ⟨_, rfl⟩
        rw [if_pos hd, ← hdd, ← ha10, ← hna] at ps
        rw [← ha10] at wm
        rw [← hna] at wa
        have ng : ¬ na < a10 := by omega
        by_cases hb6 : na ≤ 65535
        · have nb : ¬ (65535 : Int) < na := by omega
          rw [if_pos hb6] at ps
          simp [n95, d1, d2, wd, nd, nc, wm, wdd, wa, ng, nb, c8, w10, t1, t10, t11, t13, t101, hw]
          refine hK _ _ hlt ⟨na, by simp [t1, t8, t10, t11, t12, t99, t100], rfl, hb6, ps⟩
        · have nb : (65535 : Int) < na := by omega
          rw [if_neg hb6] at ps
          rw [ps]
          simp [n95, d1, d2, wd, nd, nc, wm, wdd, wa, ng, nb, c8, w10, t1, t10, t11, t13, errV, g1]
      · rw [if_neg hd] at ps
        rw [ps]
        rcases (by omega : b = 95 ∨ (b ≠ 95 ∧ b < 48) ∨ (b ≠ 95 ∧ 57 < b)) with e | ⟨e, e2⟩ | ⟨e, e2⟩
        · have n95 : ((b : Int) == 95) = true := beq_iff_eq.2 (by omega)
          have d1 : (48 : Int) ≤ b := by omega
          have d2 : ¬ (b : Int) ≤ 57 := by omega
          have er : r = 127 := by rw [low, e]; rfl
          rw [er] at lw
          simp [n95, d1, d2, t8]
          refine lw _ _ ?_
          simp
          refine lw _ _ ?_
          simp [errV, g1]
        · have n95 : ((b : Int) == 95) = false := beq_eq_false_iff_ne.2 (by omega)
          have d1 : ¬ (48 : Int) ≤ b := by omega
          have er : ¬ (97 : Int) ≤ r := by
            have : b ||| 32 < 2 ^ 6 := Nat.or_lt_two_pow (by omega) (by omega)
            omega
          simp [n95, d1]
          refine lw _ _ ?_
          simp [er, errV, g1]
        · have n95 : ((b : Int) == 95) = false := beq_eq_false_iff_ne.2 (by omega)
          have d1 : (48 : Int) ≤ b := by omega
          have d2 : ¬ (b : Int) ≤ 57 := by omega
          simp [n95, d1, d2]
          refine lw _ _ ?_
          by_cases c97 : 97 ≤ r
          · have c97' : (97 : Int) ≤ r := by omega
            simp [c97']
            refine lw _ _ ?_
            by_cases c122 : r ≤ 122
            · have c122' : (r : Int) ≤ 122 := by omega
              obtain ⟨d, hdd⟩ : ∃ d, d = r - 97 := ⟨_, rfl⟩
              have wd : IntKind.u8.wrap ((r : Int) - 97) = (d : Int) := w8' (by omega) (by omega)
              have wd2 : IntKind.u8.wrap ((d : Int) + 10) = ((d + 10 : Nat) : Int) := w8' (by omega) (by omega)
              obtain ⟨d2', hd2⟩ : ∃ d2, d2 = d + 10 := ⟨_, rfl⟩
              rw [← hd2] at wd2
              have g10 : (10 : Int) ≤ d2' := by omega
              simp [c122']
              refine lw _ _ ?_
              simp [wd, wd2, t1, c8, g10, errV, g1]
            · have c122' : ¬ (r : Int) ≤ 122 := by omega
              simp [c122', errV, g1]
          · have c97' : ¬ (97 : Int) ≤ r := by omega
            simp [c97', errV, g1]
    · have hie : i = s.length := by omega
      subst hie
      rw [List.drop_length] at hpu
      rw [hpu]
      simp [t12, t13, t100, t101, puE, errV, g1]
end Go.Am
