/-
  WN, N3, T1, T2, TR1, TR2, TR3, TR4, TR5, TR6, TR7, TR8, TR9, TR10, TR11, TR12, TR13, P4, in one text.
-/
import Derived.Test.YtjejnanjelooiaaDoorWMA
import Derived.Test.YtjejnanjelooiaaDoorWSkP
import Derived.Test.YtjejnanjelooiaaDoorWAm31
import Derived.Lib.Bytealg
import Derived.Test.YtjejnanjelooiaaDoorWAm44
/-
  Contracts of the layer of bytes: readers, Put.
-/
namespace Go.Am
open Go.Proofs

set_option maxRecDepth 100000
/-- What Len64 tells. -/
def len8 : List UInt8 := [0, 1, 2, 2, 3, 3, 3, 3, 4, 4, 4, 4, 4, 4, 4, 4, 5, 5, 5, 5, 5, 5, 5, 5, 5, 5, 5, 5, 5, 5, 5, 5, 6, 6, 6, 6, 6, 6, 6, 6, 6, 6, 6, 6, 6, 6, 6, 6, 6, 6, 6, 6, 6, 6, 6, 6, 6, 6, 6, 6, 6, 6, 6, 6, 7, 7, 7, 7, 7, 7, 7, 7, 7, 7, 7, 7, 7, 7, 7, 7, 7, 7, 7, 7, 7, 7, 7, 7, 7, 7, 7, 7, 7, 7, 7, 7, 7, 7, 7, 7, 7, 7, 7, 7, 7, 7, 7, 7, 7, 7, 7, 7, 7, 7, 7, 7, 7, 7, 7, 7, 7, 7, 7, 7, 7, 7, 7, 7, 8, 8, 8, 8, 8, 8, 8, 8, 8, 8, 8, 8, 8, 8, 8, 8, 8, 8, 8, 8, 8, 8, 8, 8, 8, 8, 8, 8, 8, 8, 8, 8, 8, 8, 8, 8, 8, 8, 8, 8, 8, 8, 8, 8, 8, 8, 8, 8, 8, 8, 8, 8, 8, 8, 8, 8, 8, 8, 8, 8, 8, 8, 8, 8, 8, 8, 8, 8, 8, 8, 8, 8, 8, 8, 8, 8, 8, 8, 8, 8, 8, 8, 8, 8, 8, 8, 8, 8, 8, 8, 8, 8, 8, 8, 8, 8, 8, 8, 8, 8, 8, 8, 8, 8, 8, 8, 8, 8, 8, 8, 8, 8, 8, 8, 8, 8, 8, 8, 8, 8, 8, 8, 8, 8, 8, 8, 8, 8]
theorem len8_ok : len8.length = 256 ∧ ∀ x : Nat, x < 256 → (len8.getD x 0).toNat ≤ 8 ∧ ∀ k : Nat, k < 9 → (k < (len8.getD x 0).toNat ↔ 2 ^ k ≤ x) := by decide +kernel
theorem shr_n (v k : Nat) (hk : k ≤ 64) : ((v : Int).fdiv (2 ^ min k IntKind.u64.bits)) = ((v / 2 ^ k : Nat) : Int) := by
  rw [show IntKind.u64.bits = 64 from rfl, Nat.min_eq_left hk, show (2 : Int) ^ k = ((2 ^ k : Nat) : Int) by simp, Int.fdiv_eq_ediv_of_nonneg _ (Int.natCast_nonneg _), ← Int.natCast_ediv]
theorem len_step {v m n : Nat} (h : 2 ^ m ≤ v) (hn : ∀ k, k < n ↔ 2 ^ k ≤ v / 2 ^ m) : ∀ k, k < n + m ↔ 2 ^ k ≤ v := by
  intro k
  rcases Nat.lt_or_ge k m with c | c
  · exact ⟨fun _ => Nat.le_trans (Nat.pow_le_pow_right (by omega) (by omega)) h, fun _ => by omega⟩
  · obtain ⟨j, rfl⟩ := Nat.exists_eq_add_of_le c
    have := hn j
    rw [Nat.le_div_iff_mul_le (Nat.pos_of_ne_zero (by simp)), Nat.mul_comm, ← Nat.pow_add] at this
    rw [← this]; omega
set_option maxRecDepth 100000 in
theorem len64_ct {v : Nat} (hv : v < 18446744073709551616) : ∃ n : Nat, n ≤ 64 ∧ (∀ k, k ≤ 64 → (k < n ↔ 2 ^ k ≤ v)) ∧ ∀ h : H, Pure Tryd.prog 108 [.int .u64 v] h (.int .i64 n) := by
  obtain ⟨a1, ha1⟩ : ∃ a, a = if 4294967296 ≤ v then 32 else 0 := ⟨_, rfl⟩
  obtain ⟨v1, hv1⟩ : ∃ a, a = if 4294967296 ≤ v then v / 4294967296 else v := ⟨_, rfl⟩
  obtain ⟨a2, ha2⟩ : ∃ a, a = if 65536 ≤ v1 then a1 + 16 else a1 := ⟨_, rfl⟩
  obtain ⟨v2, hv2⟩ : ∃ a, a = if 65536 ≤ v1 then v1 / 65536 else v1 := ⟨_, rfl⟩
  obtain ⟨a3, ha3⟩ : ∃ a, a = if 256 ≤ v2 then a2 + 8 else a2 := ⟨_, rfl⟩
  obtain ⟨v3, hv3⟩ : ∃ a, a = if 256 ≤ v2 then v2 / 256 else v2 := ⟨_, rfl⟩
  have b1 : v1 < 4294967296 := by rw [hv1]; split <;> omega
  have b2 : v2 < 65536 := by rw [hv2]; split <;> omega
  have b3 : v3 < 256 := by rw [hv3]; split <;> omega
  obtain ⟨T, hT⟩ : ∃ T, T = len8 := ⟨_, rfl⟩
  obtain ⟨tl, tx⟩ := len8_ok
  rw [← hT] at tl tx
  obtain ⟨c, hc⟩ : ∃ c, T[v3]? = some c := ⟨_, List.getElem?_eq_getElem (by omega)⟩
  have tc := tx v3 b3
  rw [List.getD_eq_getElem?_getD, hc, Option.getD_some] at tc
  refine ⟨a3 + c.toNat, ?_, ?_, fun h => ?_⟩
  · have : a3 ≤ 56 := by rw [ha3, ha2, ha1]; split <;> split <;> split <;> omega
    omega
  · have n3 : ∀ k, k < c.toNat ↔ 2 ^ k ≤ v3 := fun k => by
      rcases Nat.lt_or_ge k 9 with hk | hk
      · exact tc.2 k hk
      · have : 2 ^ 9 ≤ 2 ^ k := Nat.pow_le_pow_right (by omega) hk
        omega
    have n2 : ∃ n, a3 + c.toNat = a2 + n ∧ ∀ k, k < n ↔ 2 ^ k ≤ v2 := by
      by_cases g : 256 ≤ v2
      · rw [if_pos g] at ha3 hv3
        exact ⟨c.toNat + 8, by omega, len_step g (by rw [show 2 ^ 8 = 256 from rfl, ← hv3]; exact n3)⟩
      · rw [if_neg g] at ha3 hv3
        exact ⟨c.toNat, by omega, by rw [← hv3]; exact n3⟩
    obtain ⟨q2, e2, n2⟩ := n2
    have n1 : ∃ n, a3 + c.toNat = a1 + n ∧ ∀ k, k < n ↔ 2 ^ k ≤ v1 := by
      by_cases g : 65536 ≤ v1
      · rw [if_pos g] at ha2 hv2
        exact ⟨q2 + 16, by omega, len_step g (by rw [show 2 ^ 16 = 65536 from rfl, ← hv2]; exact n2)⟩
      · rw [if_neg g] at ha2 hv2
        exact ⟨q2, by omega, by rw [← hv2]; exact n2⟩
    obtain ⟨q1, e1, n1⟩ := n1
    intro k _
    by_cases g : 4294967296 ≤ v
    · rw [if_pos g] at ha1 hv1
      have := len_step g (by rw [show 2 ^ 32 = 4294967296 from rfl, ← hv1]; exact n1) k
      rw [← this]; omega
    · rw [if_neg g] at ha1 hv1
      have := n1 k
      rw [hv1] at this
      rw [← this]; omega
  · refine pure_to Tryd.func108 S.math_bits_Len64_code S.math_bits_Len64_enter rfl (Nat.le_of_ble_eq_true rfl) fun wf => ?_; simp only [S.math_bits_Len64]
    rw [show ([0, 1, 2, 2, 3, 3, 3, 3, 4, 4, 4, 4, 4, 4, 4, 4, 5, 5, 5, 5, 5, 5, 5, 5, 5, 5, 5, 5, 5, 5, 5, 5, 6, 6, 6, 6, 6, 6, 6, 6, 6, 6, 6, 6, 6, 6, 6, 6, 6, 6, 6, 6, 6, 6, 6, 6, 6, 6, 6, 6, 6, 6, 6, 6, 7, 7, 7, 7, 7, 7, 7, 7, 7, 7, 7, 7, 7, 7, 7, 7, 7, 7, 7, 7, 7, 7, 7, 7, 7, 7, 7, 7, 7, 7, 7, 7, 7, 7, 7, 7, 7, 7, 7, 7, 7, 7, 7, 7, 7, 7, 7, 7, 7, 7, 7, 7, 7, 7, 7, 7, 7, 7, 7, 7, 7, 7, 7, 7, 8, 8, 8, 8, 8, 8, 8, 8, 8, 8, 8, 8, 8, 8, 8, 8, 8, 8, 8, 8, 8, 8, 8, 8, 8, 8, 8, 8, 8, 8, 8, 8, 8, 8, 8, 8, 8, 8, 8, 8, 8, 8, 8, 8, 8, 8, 8, 8, 8, 8, 8, 8, 8, 8, 8, 8, 8, 8, 8, 8, 8, 8, 8, 8, 8, 8, 8, 8, 8, 8, 8, 8, 8, 8, 8, 8, 8, 8, 8, 8, 8, 8, 8, 8, 8, 8, 8, 8, 8, 8, 8, 8, 8, 8, 8, 8, 8, 8, 8, 8, 8, 8, 8, 8, 8, 8, 8, 8, 8, 8, 8, 8, 8, 8, 8, 8, 8, 8, 8, 8, 8, 8, 8, 8, 8, 8, 8, 8] : List UInt8) = T from hT.symm]
    have s1 := shr_n v 32 (by omega)
    have s2 := shr_n v1 16 (by omega)
    have s3 := shr_n v2 8 (by omega)
    have w3 : IntKind.u8.wrap (v3 : Int) = v3 := by simp [IntKind.wrap, IntKind.bits, IntKind.signed]; omega
    have w4 : IntKind.i64.wrap (c.toNat : Int) = c.toNat := wrap_nat (by omega)
    have wa : ∀ x : Nat, x < 1000 → IntKind.i64.wrap (x : Int) = x := fun x hx => wrap_nat (by omega)
    have wb : ∀ x y : Nat, x < 1000 → y < 1000 → IntKind.i64.wrap ((x : Int) + (y : Int)) = ((x + y : Nat) : Int) := fun x y hx hy => by rw [← Int.natCast_add]; exact wrap_nat (by omega)
    have zz1 : ∀ n : Nat, ((4294967296 : Int) ≤ n) = (4294967296 ≤ n) := fun n => propext (by omega)
    have zz2 : ∀ n : Nat, ((65536 : Int) ≤ n) = (65536 ≤ n) := fun n => propext (by omega)
    have zz3 : ∀ n : Nat, ((256 : Int) ≤ n) = (256 ≤ n) := fun n => propext (by omega)
    have lo : ∀ n : Nat, (0 : Int) ≤ n := fun n => by omega
    by_cases g1 : 4294967296 ≤ v <;> by_cases g2 : 65536 ≤ v1 <;> by_cases g3 : 256 ≤ v2 <;>
    (first | (rw [if_pos g1] at ha1 hv1; rw [show (v / 2 ^ 32) = v1 from hv1.symm] at s1) | (rw [if_neg g1] at ha1 hv1; replace s1 := hv1.symm; rw [s1] at g1)) <;>
    (first | (rw [if_pos g2] at ha2 hv2; rw [show (v1 / 2 ^ 16) = v2 from hv2.symm] at s2) | (rw [if_neg g2] at ha2 hv2; replace s2 := hv2.symm; rw [s2] at g2)) <;>
    (first | (rw [if_pos g3] at ha3 hv3; rw [show (v2 / 2 ^ 8) = v3 from hv3.symm] at s3) | (rw [if_neg g3] at ha3 hv3; replace s3 := hv3.symm; rw [s3] at g3)) <;>
    (try rw [s2] at g1) <;> (try rw [s3] at g1) <;> (try rw [s3] at g2) <;>
    (clear hT tx; simp [zz1, zz2, zz3, g1, g2, g3, s1, s2, s3, w3, w4, hc, lo]) <;>
    (subst ha1; subst ha2; subst ha3; have t1 := tc.1; simp [IntKind.wrap, IntKind.bits, IntKind.signed] <;> omega)
theorem mapM_u8 : ∀ l : List UInt8, (l.map byteV).mapM u8Of = some l
  | [] => rfl
  | b :: l => by
    rw [List.map_cons, List.mapM_cons, mapM_u8 l]
    simp [u8Of, byteV]
@[simp] theorem mapM_u8' (l : List UInt8) : l.mapM (u8Of ∘ byteV) = some l := by
  have := mapM_u8 l
  rwa [List.mapM_map] at this
end Go.Am

/-
  Contracts: families, addresses, prefixes, told prefixes.
-/
namespace Go.Am
open Go.Proofs

set_option maxRecDepth 100000
theorem beq_no {a b : Int} (h : ¬ a = b) : (a == b) = false := by rw [beq_eq_false_iff_ne]; exact h
theorem psize_ct {h : H} {fam : Int} : Pure Tryd.prog 33 [.int .i64 fam] h (.int .i64 (sizeN fam : Nat)) := by
  refine pure_to Tryd.func33 S.prim_Size_code S.prim_Size_enter rfl (Nat.le_of_ble_eq_true rfl) fun wf => ?_; simp only [S.prim_Size]
  by_cases e1 : fam = 1
  · subst e1; simp [sizeN]
  by_cases e3 : fam = 3
  · subst e3; simp [sizeN]
  by_cases e4 : fam = 4
  · subst e4; simp [sizeN]
  by_cases e2 : fam = 2
  · subst e2; simp [sizeN]
  by_cases e5 : fam = 5
  · subst e5; simp [sizeN]
  simp [sizeN, beq_no e1, beq_no e3, beq_no e4, beq_no e2, beq_no e5, e1, e2, e3, e4, e5]
theorem papart_ct {h : H} {fam : Int} : Pure Tryd.prog 53 [.int .i64 fam] h (.bool (apartF fam)) := by
  refine pure_to Tryd.func53 S.prim_apart_code S.prim_apart_enter rfl (Nat.le_of_ble_eq_true rfl) fun wf => ?_; simp only [S.prim_apart]
  simp
  unfold apartF
  cases fam == 4 <;> simp
theorem quo8 {z : Int} (h : 0 ≤ z) (h2 : z < 1000000000) : intV .quo .i64 z 8 = some (.int .i64 (z / 8)) := by
  show (if (8 : Int) = 0 then none else some (V.int .i64 (IntKind.i64.wrap (z.tdiv 8)))) = _
  rw [if_neg (by decide), Int.tdiv_eq_ediv_of_nonneg h, wrap_i64_id (by omega) (by omega)]
theorem maskL_snoc {l : List UInt8} {n : Int} {i : Nat} (h : i < l.length) : maskL (l.take (i + 1)) n = maskL (l.take i) n ++ [UInt8.ofNat (maskN (l[i]).toNat (n - 8 * (i : Int)))] := by
  refine List.ext_getElem (by simp [maskL_len]; omega) fun k h1 h2 => ?_
  rw [maskL_len, List.length_take] at h1
  rw [maskL_get _ _ _ (by rw [List.length_take]; exact h1), List.getElem_take]
  by_cases hk : k < i
  · rw [List.getElem_append_left (by rw [maskL_len, List.length_take]; omega), maskL_get _ _ _ (by rw [List.length_take]; omega), List.getElem_take]
  · have e : k = i := by omega
    subst e
    rw [List.getElem_append_right (by rw [maskL_len, List.length_take]; omega)]
    simp
theorem mask_and : ∀ b : Nat, b < 256 → ∀ k : Nat, k < 8 → (BitVec.ofInt 8 (b : Int) &&& BitVec.ofInt 8 (IntKind.u8.wrap (255 * 2 ^ k))).toNat = b / 2 ^ k * 2 ^ k := by decide +kernel
theorem u8_idN {n : Nat} (h : n < 256) : IntKind.u8.wrap (n : Int) = (n : Int) := by simp [IntKind.wrap, IntKind.bits, IntKind.signed]; omega
theorem mask_op {b : Nat} {left : Int} (hb : b < 256) (h1 : 0 < left) (h2 : left < 8) : intV .and .u8 (b : Int) (IntKind.u8.wrap (255 * 2 ^ min (8 - left).toNat IntKind.u8.bits)) = some (.int .u8 (maskN b left : Nat)) := by
  have e : min (8 - left).toNat IntKind.u8.bits = 8 - left.toNat := by simp [IntKind.bits]; omega
  rw [e]
  show some (V.int .u8 (IntKind.u8.wrap ((BitVec.ofInt 8 (b : Int) &&& BitVec.ofInt 8 (IntKind.u8.wrap (255 * 2 ^ (8 - left.toNat)))).toNat : Int))) = _
  rw [mask_and b hb _ (by omega)]
  have hm : maskN b left = b / 2 ^ (8 - left.toNat) * 2 ^ (8 - left.toNat) := by unfold maskN; rw [if_neg (by omega), if_pos h2]
  rw [← hm, u8_idN (by have := maskN_le b left; omega)]
theorem masked_ct {h : H} {l : List UInt8} {n : Int} (hl : l.length ≤ 1000000) (hn : -1000000 ≤ n ∧ n ≤ 1000000) : Pure Tryd.prog 54 [.str l, .int .i64 n] h (.str (maskL l n)) := by
  refine pure_to Tryd.func54 S.prim_masked_code S.prim_masked_enter rfl (Nat.le_of_ble_eq_true rfl) fun wf => ?_; simp only [S.prim_masked]
  have hll : l.length ≤ 9223372036854775807 := by omega
  simp [exec, hll]
  refine loop_up (fun i t h' => (t 1 = .int .i64 n ∧ t 5 = .sl h.next l.length 0 l.length none ∧ t 11 = .int .i64 l.length ∧ t 12 = .int .i64 i) ∧ Ge h h' ∧ h.next < h'.next ∧ h'.get h.next = some (.grow 1 ((maskL (l.take i) n ++ l.drop i).map byteV))) l.length ⟨by simp, by simp, by simp, by simp [maskL]⟩ ?_
  rintro i t h' hi ⟨⟨t1, t5, t11, t12⟩, hg, hnx, ho⟩ K hK
  by_cases hlt : i < l.length
  · have hw := wrap_succ hlt (by omega)
    have w8 : IntKind.i64.wrap (8 * (i : Int)) = 8 * (i : Int) := wrap_i64_id (by omega) (by omega)
    have wl : IntKind.i64.wrap (n - 8 * (i : Int)) = n - 8 * (i : Int) := wrap_i64_id (by omega) (by omega)
    have hlen : (maskL (l.take i) n ++ l.drop i).length = l.length := by simp [maskL_len]; omega
    have hb : (l[i]).toNat < 256 := (l[i]).toNat_lt
    have hgi : (maskL (l.take i) n ++ l.drop i)[i]? = some l[i] := by
      rw [List.getElem?_append_right (by rw [maskL_len, List.length_take]; omega), maskL_len, List.length_take, Nat.min_eq_left (by omega), Nat.sub_self, List.getElem?_drop]
      simp [List.getElem?_eq_getElem hlt]
    have hset : ∀ v : UInt8, UInt8.ofNat (maskN (l[i]).toNat (n - 8 * (i : Int))) = v → (maskL (l.take i) n ++ l.drop i).set i v = maskL (l.take (i + 1)) n ++ l.drop (i + 1) := fun v hv => by
      rw [maskL_snoc hlt, ← hv, List.set_append_right _ _ (by rw [maskL_len, List.length_take]; omega), maskL_len, List.length_take, Nat.min_eq_left (by omega), Nat.sub_self, List.drop_eq_getElem_cons hlt, List.set_cons_zero]
      simp
    obtain ⟨cur, hcur⟩ : ∃ cur, cur = maskL (l.take i) n ++ l.drop i := ⟨_, rfl⟩
    rw [← hcur] at ho hlen hgi hset
    have hi1 : i + 1 ≤ l.length := by omega
    have cc : cellsAt h'.get h.next l.length = some (cur.map byteV) := by rw [cellsAt_of ho (by simp [hlen])]; rfl
    have hcg : cur[i]'(by omega) = l[i] := by rw [List.getElem?_eq_getElem (by omega)] at hgi; exact Option.some.inj hgi
    have sm : ∀ b : UInt8, List.take i (cur.map byteV) ++ V.int .u8 (b.toNat : Int) :: List.drop (i + 1) (cur.map byteV) = (cur.set i b).map byteV := fun b => by
      rw [List.map_set, List.set_eq_take_append_cons_drop, if_pos (by simp; omega)]; rfl
    have fin : ∀ b : UInt8, UInt8.ofNat (maskN (l[i]).toNat (n - 8 * (i : Int))) = b → ∀ t', (t' 1 = .int .i64 n ∧ t' 5 = .sl h.next l.length 0 l.length none ∧ t' 11 = .int .i64 l.length ∧ t' 12 = .int .i64 ((i + 1 : Nat) : Int)) → K t' (h'.set h.next (.grow 1 ((cur.set i b).map byteV))) := fun b hb t' ht =>
      hK _ _ hlt ⟨ht, hg.set (Nat.le_refl _) _, by simpa using hnx, by simp [hset b hb]⟩
    clear hcur
    simp [t1, t11, t12, hlt, w8, wl]
    by_cases hle : n - 8 * (i : Int) ≤ 0
    · have f := fin 0 (by rw [maskN_small hle]; rfl)
      have s0 := sm 0
      simp at s0
      simp [hle, t5, t12, hlt, ho, hlen, hi1, s0, hw]
      rw [List.map_set] at f
      refine f _ ?_
      simp [t1, t5, t11]
    · by_cases h8 : n - 8 * (i : Int) < 8
      · have w88 : IntKind.i64.wrap (8 - (n - 8 * (i : Int))) = 8 - (n - 8 * (i : Int)) := wrap_i64_id (by omega) (by omega)
        have mo := mask_op hb (left := n - 8 * (i : Int)) (by omega) h8
        have hmb := maskN_le (l[i]).toNat (n - 8 * (i : Int))
        have s1 := sm (UInt8.ofNat (maskN (l[i]).toNat (n - 8 * (i : Int))))
        rw [show ((UInt8.ofNat (maskN (l[i]).toNat (n - 8 * (i : Int)))).toNat : Int) = (maskN (l[i]).toNat (n - 8 * (i : Int)) : Nat) by simp; omega] at s1
        have f := fin _ rfl
        have y0 : (0 : Int) ≤ 8 - (n - 8 * (i : Int)) := by omega
        have sh : shiftV .shl .u8 255 (8 - (n - 8 * (i : Int))) = some (.int .u8 (IntKind.u8.wrap (255 * 2 ^ min (8 - (n - 8 * (i : Int))).toNat IntKind.u8.bits))) := by
          unfold shiftV; rw [if_neg (by omega)]
        simp [hle, h8]
        refine dreg_of ?_
        simp [t5, t12, hlt, ho, cc, hlen, hcg, byteV, w88, sh, mo, hi1, hw]
        rw [s1]
        refine f _ ?_
        simp [t1, t5, t11]
      · simp [hle, h8, t12, hw]
        have e0 : cur.set i l[i] = cur := by rw [← hcg, List.set_getElem_self]
        refine hK _ _ hlt ⟨by simp [t1, t5, t11], hg, hnx, ?_⟩
        rw [ho, ← hset l[i] (by rw [maskN_big (by omega)]; simp), e0]
  · have hi2 : i = l.length := by omega
    subst hi2
    have hle : l.take l.length = l := List.take_of_length_le (Nat.le_refl _)
    have el : elemsV h'.get 1 (.sl h.next l.length 0 l.length none) = some (l.length, (maskL l n).map byteV) := by
      rw [elemsV_sl]
      split
      · rename_i h0
        have : l = [] := List.eq_nil_of_length_eq_zero h0
        subst this; rfl
      · rw [cellsAt_of ho (by simp [maskL_len])]; simp [List.take_of_length_le, maskL_len]
    simp [t5, t11, t12, el]
    exact hg
theorem eqV_str (a b : List UInt8) : eqV .str (.str a) (.str b) = some (a == b) := by simp [eqV]
theorem pcheck_ct {h : H} {p : Pfx} : Pure Tryd.prog 30 [.agg (pfxC p)] h (.int .i64 (if mayP p = true then 0 else 2)) := by
  refine pure_to Tryd.func30 S.prim_Check_code S.prim_Check_enter rfl (Nat.le_of_ble_eq_true rfl) fun wf => ?_; simp only [S.prim_Check]
  simp only [pfxC]
  simp
  refine psize_ct _ ?_
  simp
  have sl := size_le p.fam
  have c1 : cellsAt (h.push (.row (pfxC p))).get h.next 4 = some (pfxC p) := by rw [cellsAt_of (by simp; rfl) (by simp [pfxC])]; rfl
  simp only [pfxC] at c1
  refine dreg_quiet (wf.push _) ?_
  by_cases e0 : sizeN p.fam = 0
  · simp [e0, mayP]
  have b0 : (((sizeN p.fam : Nat) : Int) == 0) = false := beq_no (by omega)
  have ef : ¬ p.fam = 0 := by intro e; apply e0; rw [e]; decide
  have bf := beq_no ef
  have eqz : eqV (TS.st [(0, 1, false, TS.int), (1, 1, false, TS.int), (2, 1, false, TS.str), (3, 1, false, TS.int)]) (.agg [.int .i64 p.fam, .int .u64 (p.rd : Nat), .str p.addr, .int .i64 p.len]) (.agg [.int .i64 0, .int .u64 0, .str [], .int .i64 0]) = some false := by
    simp [eqV, eqFs, bf]
  have ms0 : (decide (sizeN p.fam ≠ 0)) = true := by simpa using e0
  by_cases e1 : p.addr.length = sizeN p.fam
  · have b1 : ((p.addr.length : Int) != ((sizeN p.fam : Nat) : Int)) = false := by rw [e1]; simp
    by_cases e2 : p.len < 0
    · have m : mayP p = false := by
        have : ¬ 0 ≤ p.len := by omega
        simp [mayP, this]
      simp [b0, c1, eqz, b1, e2, m]
    · have e2' : 0 ≤ p.len := by omega
      have w8 : IntKind.i64.wrap (8 * ((sizeN p.fam : Nat) : Int)) = 8 * ((sizeN p.fam : Nat) : Int) := wrap_i64_id (by omega) (by omega)
      by_cases e3 : 8 * ((sizeN p.fam : Nat) : Int) < p.len
      · have m : mayP p = false := by
          have : ¬ p.len ≤ 8 * ((sizeN p.fam : Nat) : Int) := by omega
          simp [mayP, this]
        simp [b0, c1, eqz, b1, e2, w8, e3, m]
      · have e3' : p.len ≤ 8 * ((sizeN p.fam : Nat) : Int) := by omega
        have fin : ∀ (hrd : (decide (p.rd = 0) || apartF p.fam) = true), mayP p = decide (maskL p.addr p.len = p.addr) := fun hrd => by
          simp only [mayP, ms0, e1, e2', e3', hrd, decide_true, Bool.true_and]
        have last : ∀ hrd : (decide (p.rd = 0) || apartF p.fam) = true, (if mayP p = true then (0 : Int) else 2) = if (maskL p.addr p.len != p.addr) = true then 2 else 0 := fun hrd => by
          rw [fin hrd]
          by_cases hm : maskL p.addr p.len = p.addr
          · simp [hm]
          · have : (maskL p.addr p.len != p.addr) = true := by simpa using hm
            rw [this]; simp [hm]
        have mk : ∀ h2, Ge (h.push (.row [.int .i64 p.fam, .int .u64 (p.rd : Nat), .str p.addr, .int .i64 p.len])) h2 → Pure Tryd.prog 54 [.str p.addr, .int .i64 p.len] h2 (.str (maskL p.addr p.len)) := fun h2 _ => masked_ct (by omega) (by omega)
        by_cases e4 : p.rd = 0
        · have b4 : (((p.rd : Nat) : Int) != 0) = false := by rw [e4]; rfl
          rw [last (by simp [e4])]
          simp [b0, c1, eqz, b1, e2, w8, e3, b4]
          refine qcall_of (v := .str (maskL p.addr p.len)) rfl mk ?_
          simp [c1]
          by_cases hq : maskL p.addr p.len = p.addr
          · have hb : (maskL p.addr p.len == p.addr) = true := by simpa using hq
            simp [hq]
          · have hb : (maskL p.addr p.len == p.addr) = false := by simpa using hq
            simp [hb, hq]
        · have b4 : (((p.rd : Nat) : Int) != 0) = true := by
            have : ¬ ((p.rd : Nat) : Int) = 0 := by omega
            simpa using this
          simp [b0, c1, eqz, b1, e2, w8, e3, b4]
          refine qcall_of (v := .bool (apartF p.fam)) rfl (fun h2 _ => papart_ct) ?_
          cases ha : apartF p.fam with
          | false =>
            have m : mayP p = false := by simp [mayP, e4, ha]
            simp [m]
          | true =>
            rw [last (by simp [ha])]
            simp
            refine qcall_of (v := .str (maskL p.addr p.len)) rfl mk ?_
            simp [c1]
            by_cases hq : maskL p.addr p.len = p.addr
            · have hb : (maskL p.addr p.len == p.addr) = true := by simpa using hq
              simp [hq]
            · have hb : (maskL p.addr p.len == p.addr) = false := by simpa using hq
              simp [hb, hq]
  · have b1 : ((p.addr.length : Int) != ((sizeN p.fam : Nat) : Int)) = true := by
      have : ¬ (p.addr.length : Int) = ((sizeN p.fam : Nat) : Int) := by omega
      simpa using this
    have m : mayP p = false := by simp [mayP, e1]
    simp [b0, c1, eqz, b1, m]
end Go.Am

/-
  The orders' contracts: numbers, texts, prefixes, told prefixes.
-/
namespace Go.Am
open Go.Proofs

set_option maxRecDepth 100000
def P4 (f r : Int) (s : List UInt8) (l : Int) : List V := [.int .i64 f, .int .u64 r, .str s, .int .i64 l]
theorem bq (x y : Int) : (x == y) = decide (x = y) := by by_cases h : x = y <;> simp [h]
theorem eqFs_cons {off sz : Nat} {agg : Bool} {ts : TS} {fs : List (Nat × Nat × Bool × TS)} {xs ys : List V} {x y : V} {b : Bool} (hx : partV agg off sz xs = some x) (hy : partV agg off sz ys = some y) (hb : eqV ts x y = some b) :
    eqFs ((off, sz, agg, ts) :: fs) xs ys = if b = true then eqFs fs xs ys else some false := by
  simp only [eqFs, hx, hy, hb]
  cases b <;> rfl
theorem eqV_int (k : IntKind) (a b : Int) : eqV .int (.int k a) (.int k b) = some (decide (a = b)) := by simp [eqV, bq]
theorem eqV_nat (k : IntKind) (a b : Nat) : eqV .int (.int k (a : Int)) (.int k (b : Int)) = some (decide (a = b)) := by
  rw [eqV_int]
  by_cases h : a = b
  · simp [h]
  · have : ¬ (a : Int) = b := by omega
    simp [h, this]
theorem eqV_s (a b : List UInt8) : eqV .str (.str a) (.str b) = some (decide (a = b)) := by
  rw [eqV_str]
  by_cases h : a = b <;> simp [h]
theorem ifs (a b : Bool) : (if a = true then some b else some false) = some (a && b) := by cases a <;> rfl
theorem eq_pf (a b : Pfx) : eqV (TS.st [(0, 1, false, TS.int), (1, 1, false, TS.int), (2, 1, false, TS.str), (3, 1, false, TS.int)]) (.agg (pfxC a)) (.agg (pfxC b)) = some (decide (a = b)) := by
  show eqFs _ _ _ = _
  rw [eqFs_cons rfl rfl (eqV_int _ _ _), eqFs_cons rfl rfl (eqV_nat _ _ _), eqFs_cons rfl rfl (eqV_s _ _), eqFs_cons rfl rfl (eqV_int _ _ _), show eqFs [] (pfxC a) (pfxC b) = some true from rfl]
  simp only [ifs]
  obtain ⟨f, r, s, l⟩ := a
  obtain ⟨f', r', s', l'⟩ := b
  simp only [Pfx.mk.injEq, Bool.and_true, Bool.decide_and]
end Go.Am

/-
  The reference's contracts: families, bits, what may be, orders.
-/
namespace Go.Am
open Go.Proofs

set_option maxRecDepth 100000
theorem rem8 {n : Nat} (h : n < 1000000000) : intV .rem .i64 (n : Int) 8 = some (.int .i64 ((n % 8 : Nat) : Int)) := by
  show (if (8 : Int) = 0 then none else some (V.int .i64 ((n : Int).tmod 8))) = _
  rw [if_neg (by decide), Int.tmod_eq_emod_of_nonneg (by omega)]; rfl
theorem shr_u8 : ∀ b : Nat, b < 256 → ∀ k : Nat, k < 8 → ((b : Int).fdiv (2 ^ min k IntKind.u8.bits)) = ((b / 2 ^ k : Nat) : Int) := by decide +kernel
theorem and1 (n : Nat) (h : n < 256) : intV .and .i64 (n : Int) 1 = some (.int .i64 ((n % 2 : Nat) : Int)) := by
  have : ∀ n : Nat, n < 256 → IntKind.i64.wrap ((BitVec.ofInt 64 (n : Int) &&& BitVec.ofInt 64 1).toNat : Int) = ((n % 2 : Nat) : Int) := by decide +kernel
  show some (V.int .i64 (IntKind.i64.wrap ((BitVec.ofInt 64 (n : Int) &&& BitVec.ofInt 64 1).toNat : Int))) = _
  rw [this n h]
end Go.Am

/-
  Contracts: a bit, a prefix cut to its first bits, what covers what, how many bits two share.
-/
namespace Go.Am
open Go.Proofs

set_option maxRecDepth 100000
theorem pbit_ct {h : H} {l : List UInt8} {n : Nat} (hn : n < 1000000) : Pure Tryd.prog 56 [.str l, .int .i64 (n : Nat)] h (.int .i64 (bitN l n : Nat)) := by
  refine pure_to Tryd.func56 S.prim_Bit_code S.prim_Bit_enter rfl (Nat.le_of_ble_eq_true rfl) fun wf => ?_; simp only [S.prim_Bit]
  have q : intV .quo .i64 (n : Int) 8 = some (.int .i64 ((n / 8 : Nat) : Int)) := by
    rw [quo8 (z := (n : Int)) (by omega) (by omega)]; congr 2
  have r := rem8 (n := n) (by omega)
  obtain ⟨b, hb⟩ : ∃ b, b = bitN l n := ⟨_, rfl⟩
  rw [← hb]
  unfold bitN at hb
  have k8 : n % 8 < 8 := Nat.mod_lt _ (by omega)
  generalize n / 8 = m at q hb
  generalize n % 8 = k at r hb k8
  have n0 : ¬ ((n : Nat) : Int) < 0 := by omega
  have w7 : IntKind.i64.wrap (7 - (k : Int)) = ((7 - k : Nat) : Int) := by rw [wrap_i64_id (by omega) (by omega)]; omega
  by_cases hl : m < l.length
  · have hg : l[m]? = some l[m] := List.getElem?_eq_getElem hl
    have hx : (l[m]).toNat < 256 := (l[m]).toNat_lt
    generalize l[m] = x at hg hx
    rw [hg] at hb
    have hc : ¬ l.length ≤ m := by omega
    have sh : shiftV .shr .u8 (x.toNat : Int) ((7 - k : Nat) : Int) = some (.int .u8 ((x.toNat / 2 ^ (7 - k) : Nat) : Int)) := by
      unfold shiftV
      rw [if_neg (by omega)]
      simp only [Int.toNat_natCast]
      rw [shr_u8 _ hx _ (by omega)]
    have hq : x.toNat / 2 ^ (7 - k) < 256 := Nat.lt_of_le_of_lt (Nat.div_le_self _ _) hx
    simp only at hb
    generalize x.toNat / 2 ^ (7 - k) = y at sh hq hb
    generalize 7 - k = z at w7 sh
    have w8 : IntKind.i64.wrap (y : Int) = (y : Int) := wrap_i64_id (by omega) (by omega)
    have a1 := and1 y hq
    rw [← hb] at a1
    simp [n0, q, r, hc, w7, hg, sh, w8, a1]
  · have hc : l.length ≤ m := by omega
    have hg : l[m]? = none := List.getElem?_eq_none (by omega)
    rw [hg] at hb
    subst hb
    simp [n0, q, hc]
/-- A bit of a prefix. -/
def bN (k : List Bool) (i : Nat) : Nat := if k[i]? = some true then 1 else 0
theorem bit_ct {h : H} {f : Int} {r : Nat} {k : List Bool} (hk : k.length ≤ mx f) {n : Nat} (hn : n < 1000000) : Pure Tryd.prog 56 [.str (pk f r k).addr, .int .i64 (n : Nat)] h (.int .i64 (bN k n : Nat)) := by
  rw [show bN k n = bitN (pk f r k).addr n from (bit_pack hk n).symm]
  exact pbit_ct hn

def cutOk (p : Pfx) (n : Int) : Bool := mayP p && decide (0 ≤ n) && decide (n ≤ p.len)
theorem cut_ct {h : H} {p : Pfx} {n : Int} : Pure Tryd.prog 34 [.agg (pfxC p), .int .i64 n] h (.tup [.agg (pfxC (if cutOk p n = true then ⟨p.fam, p.rd, maskL p.addr n, n⟩ else zeroP)), .int .i64 (if cutOk p n = true then 0 else 2)]) := by
  refine pure_to Tryd.func34 S.prim_Cut_code S.prim_Cut_enter rfl (Nat.le_of_ble_eq_true rfl) fun wf => ?_; simp only [S.prim_Cut]
  simp only [pfxC]
  simp
  refine pcheck_ct (p := p) _ ?_
  have no : cutOk p n = false → Ge h (((h.push (.row (pfxC p))).push (.row [.int .i64 0, .int .u64 0, .str [], .int .i64 0])).set (h.next + 1) (.row (pfxC zeroP))) := fun _ => by
    refine Ge.set (.push (.push (.refl _) _) _) (by omega) _
  cases hp : mayP p with
  | false =>
    have m : cutOk p n = false := by simp [cutOk, hp]
    have := no m
    simp only [pfxC, zeroP] at this
    simp [m, zeroP]
    exact this
  | true =>
    by_cases h1 : n < 0
    · have m : cutOk p n = false := by have : ¬ 0 ≤ n := by omega
                                       simp [cutOk, this]
      have := no m
      simp only [pfxC, zeroP] at this
      simp [m, zeroP, h1]
      exact this
    · by_cases h2 : p.len < n
      · have m : cutOk p n = false := by have : ¬ n ≤ p.len := by omega
                                         simp [cutOk, this]
        have := no m
        simp only [pfxC, zeroP] at this
        simp [m, zeroP, h1, h2]
        exact this
      · have m : cutOk p n = true := by have a : 0 ≤ n := by omega
                                        have b : n ≤ p.len := by omega
                                        simp [cutOk, hp, a, b]
        obtain ⟨_, p2, p3, p4, _, _⟩ := may_parts hp
        have sl := size_le p.fam
        simp [h1, h2]
        refine masked_ct (l := p.addr) (n := n) (by omega) (by omega) _ ?_
        simp [m]
        exact Ge.set (.set (.push (.push (.refl _) _) _) (Nat.le_refl _) _) (Nat.le_succ _) _
def covP (a b : Pfx) : Bool := mayP b && decide (0 ≤ a.len) && decide (a.len ≤ b.len) && decide ((⟨b.fam, b.rd, maskL b.addr a.len, a.len⟩ : Pfx) = a)
theorem covers_ct {h : H} {a b : Pfx} : Pure Tryd.prog 12 [.agg (pfxC a), .agg (pfxC b)] h (.bool (covP a b)) := by
  refine pure_to Tryd.func12 S.prim_Covers_code S.prim_Covers_enter rfl (Nat.le_of_ble_eq_true rfl) fun wf => ?_; simp only [S.prim_Covers]
  have c1 : ∀ x : O, cellsAt (((h.push (.row (pfxC a))).push (.row (pfxC b))).push x).get h.next 4 = some (pfxC a) := fun x => by simp [pfxC]; intro e; omega
  simp only [pfxC] at c1 ⊢
  simp
  refine pcheck_ct (p := b) _ ?_
  cases hp : mayP b with
  | false => simp [covP, hp]
  | true =>
    by_cases h1 : a.len < 0
    · have : ¬ 0 ≤ a.len := by omega
      simp [covP, h1, this]
    · by_cases h2 : b.len < a.len
      · have : ¬ a.len ≤ b.len := by omega
        simp [covP, h1, h2, this]
      · have x1 : 0 ≤ a.len := by omega
        have x2 : a.len ≤ b.len := by omega
        have m : cutOk b a.len = true := by simp [cutOk, hp, x1, x2]
        have e := eq_pf ⟨b.fam, b.rd, maskL b.addr a.len, a.len⟩ a
        simp only [pfxC] at e
        simp [h1, h2]
        refine cut_ct (p := b) (n := a.len) _ ?_
        have n1 : ¬ h.next = h.next + 1 + 1 := by omega
        simp [m, pfxC, e, n1]
        simp [covP, hp, x1, x2]
        exact Ge.set (.push (.push (.push (.refl _) _) _) _) (by omega) _
theorem covP_pk {f : Int} {r : Nat} (h0 : sizeN f ≠ 0) (hr : r = 0 ∨ apartF f = true) {a b : List Bool} (ha : a.length ≤ mx f) (hb : b.length ≤ mx f) : covP (pk f r a) (pk f r b) = a.isPrefixOf b := by
  rw [Bool.eq_iff_iff, List.isPrefixOf_iff_prefix]
  simp only [covP, Bool.and_eq_true, decide_eq_true_eq, pk_may h0 hr hb, true_and]
  have l1 : (pk f r a).len = (a.length : Nat) := rfl
  have l2 : (pk f r b).len = (b.length : Nat) := rfl
  constructor
  · rintro ⟨⟨_, h2⟩, h3⟩
    rw [l1, l2] at h2
    have e : a = b.take a.length := by
      rw [← pk_inj (f := f) (r := r) ha (by simp; omega), ← cut_pk hb (by omega)]
      exact h3.symm
    rw [e]; exact List.take_prefix _ _
  · intro h
    have hl := h.length_le
    refine ⟨⟨by rw [l1]; omega, by rw [l1, l2]; omega⟩, ?_⟩
    rw [l1]
    refine (cut_pk hb hl).trans ?_
    rw [← List.prefix_iff_eq_take.1 h]
    rfl
theorem covP_other {p q : Pfx} (h : covP p q = true) : p.fam = q.fam ∧ p.rd = q.rd ∧ mayP q = true ∧ mayP p = true := by
  simp only [covP, Bool.and_eq_true, decide_eq_true_eq] at h
  obtain ⟨⟨⟨h1, h2⟩, h3⟩, h4⟩ := h
  obtain ⟨e, hl⟩ := may_pk h1
  obtain ⟨x1, x2, x3, x4, x5, x6⟩ := may_parts h1
  have hm : mayP p = true := by
    have h5 : (⟨q.fam, q.rd, maskL q.addr p.len, p.len⟩ : Pfx) = pk q.fam q.rd ((kOf q).take p.len.toNat) := by
      have hk : (kOf q).length = q.len.toNat := by simp [kOf, bitsL_len]; omega
      have := cut_pk (r := q.rd) hl (m := p.len.toNat) (by omega)
      rw [← this, ← e, show ((p.len.toNat : Nat) : Int) = p.len by omega]
    rw [← h4, h5]
    refine pk_may x1 x5 ?_
    simp; omega
  rw [← h4] at hm ⊢
  exact ⟨rfl, rfl, h1, hm⟩

/-! ### How many bits two share -/
theorem com_bytes : ∀ (a b : List UInt8) (i : Nat) (ha : i < a.length) (hb : i < b.length), a.take i = b.take i → com (bitsL a) (bitsL b) = 8 * i + com (bits8 a[i] ++ bitsL (a.drop (i + 1))) (bits8 b[i] ++ bitsL (b.drop (i + 1)))
  | [], _, _, h, _, _ => by simp at h
  | _ :: _, [], _, _, h, _ => by simp at h
  | x :: a, y :: b, 0, _, _, _ => by simp [bitsL]
  | x :: a, y :: b, i + 1, ha, hb, h => by
    simp only [List.take_succ_cons, List.cons.injEq] at h
    obtain ⟨rfl, h⟩ := h
    have ih := com_bytes a b i (by simpa using ha) (by simpa using hb) h
    have app : ∀ (w u v : List Bool), com (w ++ u) (w ++ v) = w.length + com u v := by
      intro w u v
      induction w with
      | nil => simp
      | cons c w ihw => simp [com, ihw]; omega
    simp only [bitsL, app, bits8_len, ih, List.getElem_cons_succ, List.drop_succ_cons]
    omega
/-- Two bytes that share 'n' bits and part there. -/
theorem com_byte : ∀ (u v r s : List Bool) (n : Nat), u.length = v.length → n < u.length → (∀ j, j < n → u[j]? = v[j]?) → u[n]? ≠ v[n]? → com (u ++ r) (v ++ s) = n
  | [], _, _, _, _, _, h, _, _ => by simp at h
  | _ :: _, [], _, _, _, h, _, _, _ => by simp at h
  | a :: u, b :: v, r, s, 0, _, _, _, h4 => by simp at h4; simp [com, h4]
  | a :: u, b :: v, r, s, n + 1, h1, h2, h3, h4 => by
    have e := h3 0 (by omega)
    simp at e
    subst e
    simp only [List.cons_append, com, if_true]
    rw [com_byte u v r s n (by simpa using h1) (by simpa using h2) (fun j hj => by simpa using h3 (j + 1) (by omega)) (by simpa using h4)]
theorem bit_xor : ∀ b : Nat, b < 256 → ∀ k : Nat, k < 8 → (bitsGo 8 b)[k]? = some (b.testBit (7 - k)) := by decide +kernel
theorem shl_top : ∀ x : Nat, x < 256 → ∀ k : Nat, k < 8 → (x * 2 ^ k % 256) / 128 % 2 = if x.testBit (7 - k) = true then 1 else 0 := by decide +kernel
theorem and_top : ∀ x : Nat, x < 256 → (BitVec.ofInt 8 (x : Int) &&& BitVec.ofInt 8 128).toNat = x / 128 % 2 * 128 := by decide +kernel
theorem xor_op {x y : Nat} (hx : x < 256) (hy : y < 256) : intV .xor .u8 (x : Int) (y : Int) = some (.int .u8 ((x ^^^ y : Nat) : Int)) := by
  have hlt : x ^^^ y < 256 := Nat.xor_lt_two_pow (n := 8) hx hy
  have e : (BitVec.ofInt 8 (x : Int) ^^^ BitVec.ofInt 8 (y : Int)).toNat = x ^^^ y := by
    simp
    rw [Nat.mod_eq_of_lt hx, Nat.mod_eq_of_lt hy]
  have e2 : (BitVec.ofInt IntKind.u8.bits (x : Int) ^^^ BitVec.ofInt IntKind.u8.bits (y : Int)).toNat = x ^^^ y := e
  simp only [intV, bitsV, Option.map_some, e2, u8_idN hlt]
theorem and_op {x : Nat} (hx : x < 256) : intV .and .u8 (x : Int) 128 = some (.int .u8 ((x / 128 % 2 * 128 : Nat) : Int)) := by
  have e2 : (BitVec.ofInt IntKind.u8.bits (x : Int) &&& BitVec.ofInt IntKind.u8.bits 128).toNat = x / 128 % 2 * 128 := and_top x hx
  simp only [intV, bitsV, Option.map_some, e2]
  rw [u8_idN (by omega)]
theorem shl_op {x : Nat} (hx : x < 256) : shiftV .shl .u8 (x : Int) 1 = some (.int .u8 ((x * 2 % 256 : Nat) : Int)) := by
  simp [shiftV, IntKind.wrap, IntKind.bits, IntKind.signed]
theorem common_ct {h : H} {a b : Pfx} {m n : Nat} (hl : a.addr.length = b.addr.length) (hs : a.addr.length ≤ 1000) (ha : a.len = (m : Nat)) (hb : b.len = (n : Nat)) (hm : m ≤ 8 * a.addr.length) (hn : n ≤ 8 * a.addr.length) :
    Pure Tryd.prog 55 [.agg (pfxC a), .agg (pfxC b)] h (.int .i64 ((min (min m n) (com (bitsL a.addr) (bitsL b.addr)) : Nat) : Int)) := by
  refine pure_to Tryd.func55 S.trie_common_code S.trie_common_enter rfl (Nat.le_of_ble_eq_true rfl) fun wf => ?_; simp only [S.trie_common]
  obtain ⟨h2, hh2⟩ : ∃ h2, h2 = (h.push (.row (pfxC a))).push (.row (pfxC b)) := ⟨_, rfl⟩
  have g2 : Ge h h2 := by rw [hh2]; exact ((Ge.refl _).push _).push _
  have c1 : cellsAt h2.get h.next 4 = some (pfxC a) := by rw [hh2]; simp [pfxC]
  have c2 : cellsAt h2.get (h.next + 1) 4 = some (pfxC b) := by rw [hh2]; simp [pfxC]
  simp only [pfxC] at hh2 c1 c2 ⊢
  simp
  rw [← hh2]
  rw [ha, hb]
  have mmx : ∀ x y : Nat, (if y < x then (y : Int) else (x : Int)) = ((min x y : Nat) : Int) := fun x y => by
    split <;> omega
  have lb : b.addr.length ≤ 1000 := by omega
  refine loop_up (fun i t h' => (t 2 = .ptr h.next 4 0 ∧ t 3 = .ptr (h.next + 1) 4 0 ∧ t 5 = .int .i64 (min m n : Nat) ∧ t 16 = .int .i64 a.addr.length ∧ t 17 = .int .i64 (i : Nat)) ∧ h' = h2 ∧ a.addr.take i = b.addr.take i) a.addr.length ⟨by simp [mmx], rfl, rfl⟩ ?_
  rintro i t h' hi ⟨⟨t2, t3, t5, t16, t17⟩, rfl, he⟩ K hK
  by_cases hlt : i < a.addr.length
  · have hlt2 : i < b.addr.length := by omega
    have ga : a.addr[i]? = some a.addr[i] := List.getElem?_eq_getElem hlt
    have gb : b.addr[i]? = some b.addr[i] := List.getElem?_eq_getElem hlt2
    have cb := com_bytes a.addr b.addr i hlt hlt2 he
    obtain ⟨x, hx⟩ : ∃ x, x = a.addr[i] := ⟨_, rfl⟩
    obtain ⟨y, hy⟩ : ∃ y, y = b.addr[i] := ⟨_, rfl⟩
    rw [← hx] at ga cb
    rw [← hy] at gb cb
    have hw := wrap_succ hlt (by omega)
    have w8 : IntKind.i64.wrap (8 * (i : Int)) = ((8 * i : Nat) : Int) := by rw [wrap_i64_id (by omega) (by omega)]; omega
    have xo := xor_op x.toNat_lt y.toNat_lt
    simp [t17, t16, hlt]
    refine dreg_of ?_
    simp [t2, t3, c1, c2, ga, gb, xo]
    obtain ⟨z, hz⟩ : ∃ z, z = x.toNat ^^^ y.toNat := ⟨_, rfl⟩
    have hz256 : z < 256 := by rw [hz]; exact Nat.xor_lt_two_pow (n := 8) x.toNat_lt y.toNat_lt
    rw [← hz]
    by_cases hz0 : z = 0
    · have hxy : x = y := by
        apply UInt8.toNat_inj.1
        have e := hz.symm.trans hz0
        have e2 : x.toNat ^^^ y.toNat ^^^ y.toNat = x.toNat := by rw [Nat.xor_assoc, Nat.xor_self, Nat.xor_zero]
        rw [e, Nat.zero_xor] at e2
        exact e2.symm
      simp [hz0, t17, hw]
      refine hK _ _ hlt ⟨by simp [t2, t3, t5, t16], rfl, ?_⟩
      rw [List.take_add_one, List.take_add_one, he, ga, gb, hxy]
    · have bz : (((z : Nat) : Int) == 0) = false := beq_no (by omega)
      simp [bz, w8]
      have same : ∀ k, k < 8 → ((bits8 x)[k]? = (bits8 y)[k]? ↔ z.testBit (7 - k) = false) := fun k hk => by
        rw [bits8, bits8, bit_xor _ x.toNat_lt k hk, bit_xor _ y.toNat_lt k hk, hz, Nat.testBit_xor]
        simp
      obtain ⟨g, hg⟩ : ∃ g : Nat → Nat, ∀ j, g j = z * 2 ^ j % 256 := ⟨_, fun _ => rfl⟩
      obtain ⟨u, hu⟩ : ∃ u : Nat → Nat, ∀ j, u j = 8 * i + j := ⟨_, fun _ => rfl⟩
      have g0 : g 0 = z := by rw [hg]; simp [Nat.mod_eq_of_lt hz256]
      have u0 : u 0 = 8 * i := by rw [hu]; rfl
      refine loop_up (fun j t h'' => (t 5 = .int .i64 (min m n : Nat) ∧ t 7 = .int .u8 (g j : Nat) ∧ t 8 = .int .i64 (u j : Nat)) ∧ h'' = h' ∧ j < 8 ∧ ∀ k, k < j → (bits8 x)[k]? = (bits8 y)[k]?) 8 ⟨by simp [t5, g0, u0], rfl, by omega, fun k hk => absurd hk (by omega)⟩ ?_
      rintro j t h' _ ⟨⟨t5, t7, t8⟩, rfl, hj, hb⟩ K hK
      have gl : g j < 256 := by rw [hg]; exact Nat.mod_lt _ (by omega)
      have ao := and_op gl
      have e3 : g j / 128 % 2 * 128 = (if z.testBit (7 - j) = true then 1 else 0) * 128 := by rw [hg, shl_top z hz256 j hj]
      rw [e3] at ao
      by_cases hbit : z.testBit (7 - j) = true
      · have hne : ¬ (bits8 x)[j]? = (bits8 y)[j]? := fun e => by rw [(same j hj).1 e] at hbit; cases hbit
        have e := com_byte (bits8 x) (bits8 y) (bitsL (a.addr.drop (i + 1))) (bitsL (b.addr.drop (i + 1))) j (by rw [bits8_len, bits8_len]) (by rw [bits8_len]; exact hj) hb hne
        rw [if_pos hbit] at ao
        simp [t7, ao, t5, t8, mmx]
        rw [cb, e, hu]
        exact ⟨rfl, g2⟩
      · have hbit : z.testBit (7 - j) = false := by simpa using hbit
        have sh := shl_op gl
        have e2 : g j * 2 % 256 = g (j + 1) := by rw [hg, hg, Nat.pow_succ, ← Nat.mul_assoc]; generalize z * 2 ^ j = q; omega
        rw [e2] at sh
        have wj : IntKind.i64.wrap ((u j : Int) + 1) = (u (j + 1) : Nat) := by rw [hu, hu, wrap_i64_id (by omega) (by omega)]; omega
        have hb2 : ∀ k, k < j + 1 → (bits8 x)[k]? = (bits8 y)[k]? := fun k hk => by
          by_cases ek : k = j
          · subst ek; exact (same k hj).2 hbit
          · exact hb k (by omega)
        have hj2 : j + 1 < 8 := by
          refine Nat.lt_of_not_le fun h8 => hz0 ?_
          have : bits8 x = bits8 y := List.ext_getElem? fun k => by
            by_cases hk : k < 8
            · exact hb2 k (by omega)
            · rw [List.getElem?_eq_none (by rw [bits8_len]; omega), List.getElem?_eq_none (by rw [bits8_len]; omega)]
          have b1 := byte_mask x.toNat x.toNat_lt 8 (by omega)
          have b2 := byte_mask y.toNat y.toNat_lt 8 (by omega)
          rw [List.take_of_length_le (by rw [bitsGo_len]; omega), maskN_big (by omega)] at b1 b2
          simp only [bits8] at this
          rw [this, b2] at b1
          rw [hz, b1, Nat.xor_self]
        rw [if_neg (by simp [hbit])] at ao
        simp [t7, ao, t8, sh, wj]
        exact hK _ _ (by omega) ⟨by simp [t5], rfl, hj2, hb2⟩
  · have hi2 : i = a.addr.length := by omega
    have hab : a.addr = b.addr := by
      have := he
      rw [List.take_of_length_le (by omega), List.take_of_length_le (by omega)] at this
      exact this
    subst hi2
    simp [t16, t17, t5]
    rw [← hab, com_self, bitsL_len]
    exact ⟨by omega, g2⟩
/-- THE SAME, of bits. -/
theorem comm_ct {h : H} {f : Int} {r : Nat} {a b : List Bool} (ha : a.length ≤ mx f) (hb : b.length ≤ mx f) : Pure Tryd.prog 55 [.agg (pfxC (pk f r a)), .agg (pfxC (pk f r b))] h (.int .i64 ((com a b : Nat) : Int)) := by
  have hm := mx_le f
  have l1 : (pk f r a).addr.length = sizeN f := pack_len _ _
  have l2 : (pk f r b).addr.length = sizeN f := pack_len _ _
  have := common_ct (h := h) (a := pk f r a) (b := pk f r b) (m := a.length) (n := b.length) (by rw [l1, l2]) (by rw [l1]; have := size_le f; omega) rfl rfl (by rw [l1]; exact ha) (by rw [l1]; exact hb)
  rw [show (pk f r a).addr = pack (sizeN f) a from rfl, show (pk f r b).addr = pack (sizeN f) b from rfl, bitsL_pack _ _ ha, bitsL_pack _ _ hb, com_app] at this
  exact this
end Go.Am

/-
  Trees in the heap; a value set.
-/
namespace Go.Am
open Go.Proofs

set_option maxRecDepth 100000
@[simp] theorem solid_ptrT (i n o : Nat) : (V.ptr i n o).solid = true := _root_.id rfl
@[simp] theorem cells_ptrT (i n o : Nat) : (V.ptr i n o).cells = [.ptr i n o] := _root_.id rfl
@[simp] theorem one_nilptrT : V.nilptr.one = true := _root_.id rfl
@[simp] theorem cells_nilptrT : V.nilptr.cells = [.nilptr] := _root_.id rfl
@[simp] theorem solid_nilptrT : V.nilptr.solid = true := _root_.id rfl
/-! ### Trees -/
def nodeC (p : Pfx) (hs : Bool) (x : Int) (l r : V) : List V := [.int .i64 p.fam, .int .u64 (p.rd : Nat), .str p.addr, .int .i64 p.len, .bool hs, .int .i64 x, l, r]
/-- 'v' is the tree; 'ns': its objects. -/
def TreeAt (f : Int) (rd : Nat) (g : Nat → Option O) : T Int → V → List Nat → Prop
  | .nil, v, ns => v = .nilptr ∧ ns = []
  | .node k hs x l r, v, ns => ∃ i vl vr nl nr, v = .ptr i 8 0 ∧ g i = some (.row (nodeC (pk f rd k) hs x vl vr)) ∧ TreeAt f rd g l vl nl ∧ TreeAt f rd g r vr nr ∧ ns = i :: (nl ++ nr)
/-- All but these objects are as they were. -/
structure Out (ns : List Nat) (h h' : H) : Prop where
  next : h.next ≤ h'.next
  keep : ∀ i, i < h.next → i ∉ ns → h'.get i = h.get i
theorem Out.refl (ns : List Nat) (h : H) : Out ns h h := ⟨Nat.le_refl _, fun _ _ _ => rfl⟩
theorem Out.push {ns : List Nat} {h h' : H} (o : Out ns h h') (x : O) : Out ns h (h'.push x) := ⟨by have := o.next; simp; omega, fun i hi hn => by
  have := o.next
  rw [H.get_push, if_neg (by omega)]; exact o.keep i hi hn⟩
theorem Out.set {ns : List Nat} {h h' : H} (o : Out ns h h') {j : Nat} (hj : j ∈ ns ∨ h.next ≤ j) (x : O) : Out ns h (h'.set j x) := ⟨by simpa using o.next, fun i hi hn => by
  rw [H.get_set, if_neg (fun e => by subst e; rcases hj with hj | hj; exact hn hj; omega)]; exact o.keep i hi hn⟩
/-- One after the other; what is turned then is turned, or new. -/
theorem Out.trans {ns ms : List Nat} {a b c : H} (x : Out ns a b) (y : Out ms b c) (hs : ∀ i ∈ ms, i ∈ ns ∨ a.next ≤ i) : Out ns a c := ⟨Nat.le_trans x.next y.next, fun i hi hn => by
  rw [y.keep i (Nat.lt_of_lt_of_le hi x.next) (fun hm => by rcases hs i hm with h | h; exact hn h; omega)]; exact x.keep i hi hn⟩
theorem Out.mono {ns ms : List Nat} {a b : H} (x : Out ns a b) (h : ∀ i ∈ ns, i ∈ ms) : Out ms a b := ⟨x.next, fun i hi hn => x.keep i hi fun hm => hn (h i hm)⟩
theorem Ge.out {a b : H} (g : Ge a b) (ns : List Nat) : Out ns a b := ⟨g.1, fun i hi _ => g.2 i hi⟩
theorem Out.ge {a b : H} (o : Out [] a b) : Ge a b := ⟨o.next, fun i hi => o.keep i hi (by simp)⟩
section
variable {f : Int} {rd : Nat}
theorem TreeAt.keep {g g' : Nat → Option O} : ∀ {t : T Int} {v : V} {ns : List Nat}, TreeAt f rd g t v ns → (∀ i ∈ ns, g' i = g i) → TreeAt f rd g' t v ns
  | .nil, _, _, h, _ => h
  | .node k hs x l r, v, ns, ⟨i, vl, vr, nl, nr, e1, e2, e3, e4, e5⟩, hk => by
    subst e5
    exact ⟨i, vl, vr, nl, nr, e1, by rw [hk i (by simp)]; exact e2, e3.keep fun j hj => hk j (by simp [hj]), e4.keep fun j hj => hk j (by simp [hj]), rfl⟩
theorem TreeAt.live {g : Nat → Option O} : ∀ {t : T Int} {v : V} {ns : List Nat}, TreeAt f rd g t v ns → ∀ i ∈ ns, ∃ o, g i = some o
  | .nil, _, _, ⟨_, e⟩, i, hi => by subst e; simp at hi
  | .node k hs x l r, v, ns, ⟨j, vl, vr, nl, nr, e1, e2, e3, e4, e5⟩, i, hi => by
    subst e5
    simp only [List.mem_cons, List.mem_append] at hi
    rcases hi with rfl | hi | hi
    · exact ⟨_, e2⟩
    · exact e3.live i hi
    · exact e4.live i hi
theorem TreeAt.lt {h : H} (wf : h.WF) {t : T Int} {v : V} {ns : List Nat} (a : TreeAt f rd h.get t v ns) : ∀ i ∈ ns, i < h.next := fun i hi => by
  obtain ⟨o, ho⟩ := a.live i hi; exact wf.lt ho
theorem TreeAt.val {g : Nat → Option O} {t : T Int} {v : V} {ns : List Nat} (a : TreeAt f rd g t v ns) : (t = .nil ∧ v = .nilptr) ∨ ∃ i, v = .ptr i 8 0 ∧ i ∈ ns := by
  cases t with
  | nil => exact .inl ⟨rfl, a.1⟩
  | node k hs x l r => obtain ⟨i, vl, vr, nl, nr, e1, e2, e3, e4, e5⟩ := a; subst e5; exact .inr ⟨i, e1, by simp⟩
theorem TreeAt.one {g : Nat → Option O} {t : T Int} {v : V} {ns : List Nat} (a : TreeAt f rd g t v ns) : v.one = true ∧ v.solid = true ∧ v.cells = [v] := by
  rcases a.val with ⟨_, rfl⟩ | ⟨i, rfl, _⟩ <;> exact ⟨rfl, rfl, rfl⟩
/-- There is such a tree, made afresh. -/
theorem tree_make (t : T Int) : ∀ (h : H), h.WF → ∃ v ns h', TreeAt f rd h'.get t v ns ∧ ns.Nodup ∧ (∀ i ∈ ns, h.next ≤ i) ∧ Ge h h' ∧ h'.WF := by
  induction t with
  | nil => exact fun h wf => ⟨.nilptr, [], h, ⟨rfl, rfl⟩, List.nodup_nil, by simp, .refl _, wf⟩
  | node k hs x l r ihl ihr =>
    intro h wf
    obtain ⟨vl, nl, h1, a1, b1, c1, d1, e1⟩ := ihl h wf
    obtain ⟨vr, nr, h2, a2, b2, c2, d2, e2⟩ := ihr h1 e1
    have l1 := a1.lt e1
    have l2 := a2.lt e2
    refine ⟨.ptr h2.next 8 0, h2.next :: (nl ++ nr), h2.push (.row (nodeC (pk f rd k) hs x vl vr)), ⟨h2.next, vl, vr, nl, nr, rfl, by simp, ?_, ?_, rfl⟩, ?_, ?_, (d1.trans d2).push _, e2.push _⟩
    · refine a1.keep fun i hi => ?_
      have := l1 i hi
      have := d2.1
      rw [H.get_push, if_neg (by omega), d2.2 i (by omega)]
    · refine a2.keep fun i hi => ?_
      have := l2 i hi
      rw [H.get_push, if_neg (by omega)]
    · refine List.nodup_cons.2 ⟨fun hm => ?_, List.nodup_append.2 ⟨b1, b2, fun i hi j hj e => ?_⟩⟩
      · have := d2.1
        rcases List.mem_append.1 hm with hm | hm
        · have := l1 _ hm; omega
        · have := l2 _ hm; omega
      · subst e
        have := l1 _ hi; have := c2 _ hj; omega
    · intro i hi
      have := d1.1; have := d2.1
      simp only [List.mem_cons, List.mem_append] at hi
      rcases hi with rfl | hi | hi
      · omega
      · exact c1 i hi
      · have := c2 i hi; omega

/-- What a call that turns a tree leaves. -/
structure Turned (f : Int) (rd : Nat) (ns : List Nat) (h : H) (t : T Int) (v : V) (h' : H) : Prop where
  ex : ∃ ns', TreeAt f rd h'.get t v ns' ∧ ns'.Nodup ∧ (∀ i ∈ ns', i ∈ ns ∨ h.next ≤ i)
  out : Out ns h h'
  wf : h'.WF
theorem turned_make (ns : List Nat) (h : H) (wf : h.WF) (t : T Int) : ∃ v h', Turned f rd ns h t v h' := by
  obtain ⟨v, ns', h', a, b, c, d, e⟩ := tree_make (f := f) (rd := rd) t h wf
  exact ⟨v, h', ⟨⟨ns', a, b, fun i hi => .inr (c i hi)⟩, d.out ns, e⟩⟩
end
end Go.Am

/-
  A value set: the contract of 'set'.
-/
namespace Go.Am
open Go.Proofs

set_option maxRecDepth 100000
theorem nodup3 {i : Nat} {nl nr : List Nat} (h : (i :: (nl ++ nr)).Nodup) : i ∉ nl ∧ i ∉ nr ∧ nl.Nodup ∧ nr.Nodup ∧ (∀ j ∈ nl, j ∉ nr) := by
  obtain ⟨h1, h2⟩ := List.nodup_cons.1 h
  obtain ⟨h3, h4, h5⟩ := List.nodup_append.1 h2
  exact ⟨fun hm => h1 (by simp [hm]), fun hm => h1 (by simp [hm]), h3, h4, fun j hj hk => h5 j hj j hk rfl⟩
/-- What is kept and what is new share no name. -/
theorem nodup_new {i : Nat} {nl nr nr' : List Nat} {B : Nat} (h : (i :: (nl ++ nr)).Nodup) (hl : ∀ j ∈ nl, j < B) (hi : i < B) (h' : nr'.Nodup) (hs : ∀ j ∈ nr', j ∈ nr ∨ B ≤ j) : (i :: (nl ++ nr')).Nodup := by
  obtain ⟨h1, h2, h3, h4, h5⟩ := nodup3 h
  refine List.nodup_cons.2 ⟨fun hm => ?_, List.nodup_append.2 ⟨h3, h', fun a ha b hb e => ?_⟩⟩
  · rcases List.mem_append.1 hm with hm | hm
    · exact h1 hm
    · rcases hs i hm with h | h
      · exact h2 h
      · omega
  · subst e
    rcases hs a hb with h | h
    · exact h5 a ha h
    · have := hl a ha; omega
theorem nodup_new' {i : Nat} {nl nl' nr : List Nat} {B : Nat} (h : (i :: (nl ++ nr)).Nodup) (hr : ∀ j ∈ nr, j < B) (hi : i < B) (h' : nl'.Nodup) (hs : ∀ j ∈ nl', j ∈ nl ∨ B ≤ j) : (i :: (nl' ++ nr)).Nodup := by
  obtain ⟨h1, h2, h3, h4, h5⟩ := nodup3 h
  refine List.nodup_cons.2 ⟨fun hm => ?_, List.nodup_append.2 ⟨h', h4, fun a ha b hb e => ?_⟩⟩
  · rcases List.mem_append.1 hm with hm | hm
    · rcases hs i hm with h | h
      · exact h1 h
      · omega
    · exact h2 hm
  · subst e
    rcases hs a ha with h | h
    · exact h5 a h hb
    · have := hr a hb; omega
theorem bN_cases (k : List Bool) (i : Nat) : (bN k i = 1 ∧ k[i]? = some true) ∨ (bN k i = 0 ∧ ¬ k[i]? = some true) := by
  unfold bN; split <;> simp_all
variable {f : Int} {rd : Nat}
theorem scall_rel {P : Program} {K : Tm → H → Prop} {d : Option Nat} {is : List SI} {t : Tm} {h : H} {g : FuncId} {first cap args : List V} {Q' : V → H → Prop} (sat : ∃ v h', Q' v h') (c : Acalls P g (first ++ args ++ cap) h Q') (k : ∀ v h', Q' v h' → Swp P K is (t.put d v) h') :
    scallK P K d is t h (.func (.func g) first cap) args := ⟨Q', sat, c, k⟩
theorem turned_right {h h1 h2 : H} {i : Nat} {nl nr : List Nat} {l r' : T Int} {vl v' : V} {k : List Bool} {hs : Bool} {y : Int} (wf : h.WF) (hi : i < h.next) (hl : TreeAt f rd h.get l vl nl) (lr : ∀ j ∈ nr, j < h.next) (hnd : (i :: (nl ++ nr)).Nodup) (g : Ge h h1)
    (q : Turned f rd nr h1 r' v' h2) : Turned f rd (i :: (nl ++ nr)) h (.node k hs y l r') (.ptr i 8 0) (h2.set i (.row (nodeC (pk f rd k) hs y vl v'))) := by
  obtain ⟨n1, n2, n3, n4, n5⟩ := nodup3 hnd
  obtain ⟨⟨ns', a, b, c⟩, o, w⟩ := q
  have ll := hl.lt wf
  have hi2 : i < h2.next := by have := g.1; have := o.next; omega
  have nb : ∀ j ∈ ns', j ∈ nr ∨ h.next ≤ j := fun j hj => (c j hj).imp id fun h => by have := g.1; omega
  have hni : i ∉ ns' := fun hm => by
    rcases nb i hm with h | h
    · exact n2 h
    · omega
  refine ⟨⟨i :: (nl ++ ns'), ⟨i, vl, v', nl, ns', rfl, by simp, ?_, ?_, rfl⟩, nodup_new hnd ll hi b nb, ?_⟩, ?_, w.set hi2 _⟩
  · refine hl.keep fun j hj => ?_
    have := ll j hj
    have hji : j ≠ i := fun e => n1 (e ▸ hj)
    rw [H.get_set, if_neg hji, o.keep j (by have := g.1; omega) (n5 j hj), g.2 j this]
  · refine a.keep fun j hj => ?_
    rw [H.get_set, if_neg (show ¬ j = i from fun e => hni (e ▸ hj))]
  · intro j hj
    simp only [List.mem_cons, List.mem_append] at hj ⊢
    rcases hj with hj | hj | hj
    · exact .inl (.inl hj)
    · exact .inl (.inr (.inl hj))
    · exact (nb j hj).imp (fun h => .inr (.inr h)) id
  · exact ((g.out _).trans (o.mono (ms := nr) fun _ h => h) fun j hj => .inl (by simp [hj])).set (.inl (by simp)) _
theorem turned_left {h h1 h2 : H} {i : Nat} {nl nr : List Nat} {l' r : T Int} {vr v' : V} {k : List Bool} {hs : Bool} {y : Int} (wf : h.WF) (hi : i < h.next) (hr : TreeAt f rd h.get r vr nr) (ll : ∀ j ∈ nl, j < h.next) (hnd : (i :: (nl ++ nr)).Nodup) (g : Ge h h1)
    (q : Turned f rd nl h1 l' v' h2) : Turned f rd (i :: (nl ++ nr)) h (.node k hs y l' r) (.ptr i 8 0) (h2.set i (.row (nodeC (pk f rd k) hs y v' vr))) := by
  obtain ⟨n1, n2, n3, n4, n5⟩ := nodup3 hnd
  obtain ⟨⟨ns', a, b, c⟩, o, w⟩ := q
  have lr := hr.lt wf
  have hi2 : i < h2.next := by have := g.1; have := o.next; omega
  have nb : ∀ j ∈ ns', j ∈ nl ∨ h.next ≤ j := fun j hj => (c j hj).imp id fun h => by have := g.1; omega
  have hni : i ∉ ns' := fun hm => by
    rcases nb i hm with h | h
    · exact n1 h
    · omega
  refine ⟨⟨i :: (ns' ++ nr), ⟨i, v', vr, ns', nr, rfl, by simp, ?_, ?_, rfl⟩, nodup_new' hnd lr hi b nb, ?_⟩, ?_, w.set hi2 _⟩
  · refine a.keep fun j hj => ?_
    rw [H.get_set, if_neg (show ¬ j = i from fun e => hni (e ▸ hj))]
  · refine hr.keep fun j hj => ?_
    have := lr j hj
    have hji : j ≠ i := fun e => n2 (e ▸ hj)
    rw [H.get_set, if_neg hji, o.keep j (by have := g.1; omega) (fun h => n5 j h hj), g.2 j this]
  · intro j hj
    simp only [List.mem_cons, List.mem_append] at hj ⊢
    rcases hj with hj | hj | hj
    · exact .inl (.inl hj)
    · exact (nb j hj).imp (fun h => .inr (.inl h)) id
    · exact .inl (.inr (.inr hj))
  · exact ((g.out _).trans (o.mono (ms := nl) fun _ h => h) fun j hj => .inl (by simp [hj])).set (.inl (by simp)) _
/-- A node made anew or turned, over trees that are as they were. -/
theorem turned_node {h h2 : H} {i : Nat} {ns nl nr : List Nat} {l r : T Int} {vl vr : V} {k : List Bool} {hs : Bool} {y : Int} (hl : TreeAt f rd h2.get l vl nl) (hr : TreeAt f rd h2.get r vr nr) (hi : h2.get i = some (.row (nodeC (pk f rd k) hs y vl vr))) (hnd : (i :: (nl ++ nr)).Nodup)
    (hj : ∀ j ∈ i :: (nl ++ nr), j ∈ ns ∨ h.next ≤ j) (o : Out ns h h2) (w : h2.WF) : Turned f rd ns h (.node k hs y l r) (.ptr i 8 0) h2 :=
  ⟨⟨i :: (nl ++ nr), ⟨i, vl, vr, nl, nr, rfl, hi, hl, hr, rfl⟩, hnd, hj⟩, o, w⟩
theorem cutp_ct (h0 : sizeN f ≠ 0) (hr0 : rd = 0 ∨ apartF f = true) {h : H} {p : List Bool} (hp : p.length ≤ mx f) {m : Nat} (hm : m ≤ p.length) : Pure Tryd.prog 34 [.agg (pfxC (pk f rd p)), .int .i64 (m : Nat)] h (.tup [.agg (pfxC (pk f rd (p.take m))), .int .i64 0]) := by
  have c := cut_ct (h := h) (p := pk f rd p) (n := (m : Nat))
  have ok : cutOk (pk f rd p) (m : Nat) = true := by
    have : ((m : Nat) : Int) ≤ (pk f rd p).len := by show ((m : Nat) : Int) ≤ (p.length : Nat); omega
    simp [cutOk, pk_may h0 hr0 hp, this]
  rw [if_pos ok, if_pos ok] at c
  have e := cut_pk (r := rd) hp hm
  rw [show (⟨(pk f rd p).fam, (pk f rd p).rd, maskL (pk f rd p).addr (m : Nat), (m : Nat)⟩ : Pfx) = pk f rd (p.take m) from e] at c
  exact c
theorem set_ct (h0 : sizeN f ≠ 0) (hr0 : rd = 0 ∨ apartF f = true) {p : List Bool} (hp : p.length ≤ mx f) (x : Int) : ∀ (t : T Int) (w : List Bool) (v : V) (ns : List Nat) (h : H), t.Ok (mx f) w → TreeAt f rd h.get t v ns → ns.Nodup →
    Acalls Tryd.prog 32 [v, .agg (pfxC (pk f rd p)), .int .i64 x] h fun u h' => ∃ v', u = .tup [v', .bool (t.set p x).2] ∧ Turned f rd ns h (t.set p x).1 v' h' := by
  intro t
  induction t with
  | nil =>
    rintro w v ns h _ ⟨rfl, rfl⟩ _
    refine acalls_to Tryd.func32 S.trie_set_int_code S.trie_set_int_enter (Nat.le_of_ble_eq_true rfl) fun wf => ?_; simp only [S.trie_set_int]
    simp only [pfxC]
    simp [eqV]
    refine ⟨_, ⟨rfl, rfl⟩, ⟨[h.next + 1], ?_, by simp, by simp⟩, ((Out.refl _ _).push _).push _, (wf.push _).push _⟩
    exact ⟨h.next + 1, .nilptr, .nilptr, [], [], rfl, by simp [nodeC], ⟨rfl, rfl⟩, ⟨rfl, rfl⟩, rfl⟩
  | node k hs y l r ihl ihr =>
    rintro w v ns h ok ⟨i, vl, vr, nl, nr, rfl, hi, hl, hr, rfl⟩ hnd
    obtain ⟨w1, kB, okl, okr⟩ := ok
    refine acalls_to Tryd.func32 S.trie_set_int_code S.trie_set_int_enter (Nat.le_of_ble_eq_true rfl) fun wf => ?_; simp only [S.trie_set_int]
    have hlt := wf.lt hi
    have hne : i ≠ h.next := by omega
    have ll := hl.lt wf
    have lr := hr.lt wf
    obtain ⟨n1, n2, n3, n4, n5⟩ := nodup3 hnd
    obtain ⟨h1, hh1⟩ : ∃ h1, h1 = h.push (.row (pfxC (pk f rd p))) := ⟨_, rfl⟩
    have wf1 : h1.WF := by rw [hh1]; exact wf.push _
    have nx1 : h1.next = h.next + 1 := by rw [hh1]; simp
    have hi1 : h1.get i = some (.row (nodeC (pk f rd k) hs y vl vr)) := by rw [hh1]; simp [hne, hi]
    have c1 : cellsAt h1.get i 8 = some (nodeC (pk f rd k) hs y vl vr) := by rw [cellsAt_of hi1 (by rfl)]; rfl
    have c2 : cellsAt h1.get h.next 4 = some (pfxC (pk f rd p)) := by rw [hh1]; simp [pfxC]
    have g1 : Ge h h1 := by rw [hh1]; exact (Ge.refl _).push _
    have e1 : (pk f rd k).len = (k.length : Nat) := rfl
    have e2 : (pk f rd p).len = (p.length : Nat) := rfl
    simp only [pfxC, nodeC, e1, e2] at hh1 c1 c2 hi1 ⊢
    simp [eqV]
    rw [← hh1]
    refine dreg_of ?_
    simp [c1, c2]
    refine scall_of (comm_ct kB hp) ?_
    simp [c1]
    have cl := com_le_left k p
    have cr := com_le_right k p
    have p128 := mx_le f
    have lk : ∀ j ∈ nl, h1.get j = h.get j := fun j hj => g1.2 j (ll j hj)
    have rk : ∀ j ∈ nr, h1.get j = h.get j := fun j hj => g1.2 j (lr j hj)
    have hi1' : i < h1.next := by omega
    by_cases ek : com k p = k.length
    · have b1 : ((com k p : Int) == (k.length : Int)) = true := by simp; omega
      by_cases ep : com k p = p.length
      · have b2 : ((com k p : Int) == (p.length : Int)) = true := by simp; omega
        have es : T.set p x (.node k hs y l r) = (.node k true x l r, !hs) := by rw [T.set, if_pos ek, if_pos ep]
        rw [es]
        simp [b1, b2, c1, c2, hi1]
        refine turned_node (nl := nl) (nr := nr) (vl := vl) (vr := vr) (k := k) (hs := true) (y := x) (hl.keep fun j hj => ?_) (hr.keep fun j hj => ?_) (by simp only [H.get_set, if_true, nodeC]; rfl) hnd (fun j hj => .inl hj) ((g1.out _).set (.inl (by simp)) _) (wf1.set hi1' _)
        · rw [H.get_set, if_neg (show ¬ j = i from fun e => n1 (e ▸ hj)), lk j hj]
        · rw [H.get_set, if_neg (show ¬ j = i from fun e => n2 (e ▸ hj)), rk j hj]
      · have b2 : ((com k p : Int) == (p.length : Int)) = false := by simp; omega
        simp [b1, b2, c1, c2]
        refine bit_ct hp (by omega) _ ?_
        rcases bN_cases p (com k p) with ⟨hb, ht⟩ | ⟨hb, ht⟩
        · have es : T.set p x (.node k hs y l r) = (.node k hs y l (r.set p x).1, (r.set p x).2) := by rw [T.set, if_pos ek, if_neg ep, if_pos ht]
          rw [es]
          simp [hb]
          refine dreg_of ?_
          simp [c1, c2]
          refine scall_rel (turned_make nr h1 wf1 (r.set p x).1 |>.elim fun v e => e.elim fun h' e => ⟨.tup [v, .bool (r.set p x).2], h', v, rfl, e⟩) (ihr _ _ _ h1 okr (hr.keep rk) n4) ?_
          rintro _ h2 ⟨v', rfl, q⟩
          have hi2 : h2.get i = _ := (q.out.keep i hi1' n2).trans hi1
          have q9 := turned_right (k := k) (hs := hs) (y := y) wf hlt hl lr hnd g1 q
          obtain ⟨o1, o2, o3⟩ := q.ex.elim fun _ a => a.1.one
          simp only [nodeC, e1] at q9
          simp [hi2, o2, o3]
          exact q9
        · have es : T.set p x (.node k hs y l r) = (.node k hs y (l.set p x).1 r, (l.set p x).2) := by rw [T.set, if_pos ek, if_neg ep, if_neg ht]
          rw [es]
          simp [hb]
          refine dreg_of ?_
          simp [c1, c2]
          refine scall_rel (turned_make nl h1 wf1 (l.set p x).1 |>.elim fun v e => e.elim fun h' e => ⟨.tup [v, .bool (l.set p x).2], h', v, rfl, e⟩) (ihl _ _ _ h1 okl (hl.keep lk) n3) ?_
          rintro _ h2 ⟨v', rfl, q⟩
          have hi2 : h2.get i = _ := (q.out.keep i hi1' n1).trans hi1
          have q9 := turned_left (k := k) (hs := hs) (y := y) wf hlt hr ll hnd g1 q
          obtain ⟨o1, o2, o3⟩ := q.ex.elim fun _ a => a.1.one
          simp only [nodeC, e1] at q9
          simp [hi2, o2, o3]
          exact q9
    · have b1 : ((com k p : Int) == (k.length : Int)) = false := by simp; omega
      have ecl : (p.take (com k p)).length = com k p := by simp; omega
      simp [b1, c1, c2]
      refine cutp_ct h0 hr0 hp cr _ ?_
      have o1 : V.nilptr.one = true := rfl
      obtain ⟨h3, hh3⟩ : ∃ h3, h3 = ((h1.push (.row [.int .i64 0, .int .u64 0, .str [], .int .i64 0])).set h1.next (.row (pfxC (pk f rd (p.take (com k p)))))).push (.row (nodeC (pk f rd (p.take (com k p))) false 0 .nilptr .nilptr)) := ⟨_, rfl⟩
      have g3 : Ge h1 h3 := by rw [hh3]; exact ((Ge.refl _).push _ |>.set (Nat.le_refl _) _).push _
      have wf3 : h3.WF := by rw [hh3]; exact ((wf1.push _).set (by simp) _).push _
      have hi3 : h3.get i = some (.row _) := (g3.2 i hi1').trans hi1
      have hu3 : h3.get (h1.next + 1) = some (.row (nodeC (pk f rd (p.take (com k p))) false 0 .nilptr .nilptr)) := by rw [hh3]; simp
      have c3 : cellsAt h3.get i 8 = some (nodeC (pk f rd k) hs y vl vr) := by rw [cellsAt_of hi3 (by rfl)]; rfl
      have c4 : cellsAt h3.get h.next 4 = some (pfxC (pk f rd p)) := by rw [g3.cells (by omega)]; exact c2
      simp only [pfxC, nodeC, e1, e2] at hh3 hu3 c3 c4
      have lk3 : ∀ j ∈ nl, h3.get j = h.get j := fun j hj => (g3.2 j (by have := ll j hj; omega)).trans (lk j hj)
      have rk3 : ∀ j ∈ nr, h3.get j = h.get j := fun j hj => (g3.2 j (by have := lr j hj; omega)).trans (rk j hj)
      have hne3 : i ≠ h1.next + 1 := by omega
      simp [pfxC, o1]
      rw [← hh3]
      refine dreg_of ?_
      simp [c3]
      refine scall_of (bit_ct kB (by omega)) ?_
      have wf5 : ∀ o, (h3.set (h1.next + 1) o).WF := fun o => wf3.set (by rw [hh3]; simp) o
      have ou5 : ∀ o, Out (i :: (nl ++ nr)) h (h3.set (h1.next + 1) o) := fun o => ((g1.trans g3).out _).set (.inr (by omega)) o
      have tk5 : ∀ o, TreeAt f rd (h3.set (h1.next + 1) o).get (.node k hs y l r) (.ptr i 8 0) (i :: (nl ++ nr)) := fun o => by
        refine ⟨i, vl, vr, nl, nr, rfl, ?_, hl.keep fun j hj => ?_, hr.keep fun j hj => ?_, rfl⟩
        · rw [H.get_set, if_neg hne3]; exact hi3
        · rw [H.get_set, if_neg (by have := ll j hj; omega), lk3 j hj]
        · rw [H.get_set, if_neg (by have := lr j hj; omega), rk3 j hj]
      have nn5 : h1.next + 1 ∉ i :: (nl ++ nr) := fun hm => by
        simp only [List.mem_cons, List.mem_append] at hm
        rcases hm with hm | hm | hm
        · omega
        · have := ll _ hm; omega
        · have := lr _ hm; omega
      have nh : ¬ h.next = h1.next + 1 := by omega
      by_cases ep : com k p = p.length
      · have b2 : ((com k p : Int) == (p.length : Int)) = true := by simp; omega
        have etk : p.take (com k p) = p := List.take_of_length_le (by omega)
        rw [etk] at hu3
        rcases bN_cases k (com k p) with ⟨hb, ht⟩ | ⟨hb, ht⟩
        · have es : T.set p x (.node k hs y l r) = (.node p true x .nil (.node k hs y l r), true) := by rw [T.set, if_neg ek, if_pos ep, if_pos ht]
          rw [es]
          simp [hb, hu3, c4, b2, nh]
          refine turned_node (k := p) (hs := true) (y := x) (i := h1.next + 1) (l := .nil) (nl := []) (nr := i :: (nl ++ nr)) (vl := .nilptr) (vr := .ptr i 8 0) ⟨rfl, rfl⟩ (tk5 _) (by rw [H.get_set, if_pos rfl]; rfl) (List.nodup_cons.2 ⟨by simpa using nn5, by simpa using hnd⟩) (fun j hj => ?_) (ou5 _) (wf5 _)
          rcases List.mem_cons.1 hj with rfl | hj
          · exact .inr (by omega)
          · exact .inl (by simpa using hj)
        · have es : T.set p x (.node k hs y l r) = (.node p true x (.node k hs y l r) .nil, true) := by rw [T.set, if_neg ek, if_pos ep, if_neg ht]
          rw [es]
          simp [hb, hu3, c4, b2, nh]
          refine turned_node (k := p) (hs := true) (y := x) (i := h1.next + 1) (r := .nil) (nl := i :: (nl ++ nr)) (nr := []) (vl := .ptr i 8 0) (vr := .nilptr) (tk5 _) ⟨rfl, rfl⟩ (by rw [H.get_set, if_pos rfl]; rfl) (List.nodup_cons.2 ⟨by simpa using nn5, by simpa using hnd⟩) (fun j hj => ?_) (ou5 _) (wf5 _)
          rcases List.mem_cons.1 hj with rfl | hj
          · exact .inr (by omega)
          · exact .inl (by simpa using hj)
      · have b2 : ((com k p : Int) == (p.length : Int)) = false := by simp; omega
        obtain ⟨b, hb1, hb2⟩ := com_next k p (by omega) (by omega)
        cases b with
        | true =>
          have hkb : bN k (com k p) = 1 := by simp [bN, hb1]
          have hpb : bN p (com k p) = 0 := by simp [bN, hb2]
          have ht : k[com k p]? = some true := by simp [hb1]
          have es : T.set p x (.node k hs y l r) = (.node (p.take (com k p)) false default (.node p true x .nil .nil) (.node k hs y l r), true) := by rw [T.set, if_neg ek, if_neg ep, if_pos ht]
          rw [es]
          simp [hkb, hu3, c4, b2, nh]
          obtain ⟨h5, hh5⟩ : ∃ h5, h5 = h3.set (h1.next + 1) (.row (nodeC (pk f rd (p.take (com k p))) false 0 .nilptr (.ptr i 8 0))) := ⟨_, rfl⟩
          have w5 := wf5 (.row (nodeC (pk f rd (p.take (com k p))) false 0 .nilptr (.ptr i 8 0)))
          have o5 := ou5 (.row (nodeC (pk f rd (p.take (com k p))) false 0 .nilptr (.ptr i 8 0)))
          have t5 := tk5 (.row (nodeC (pk f rd (p.take (com k p))) false 0 .nilptr (.ptr i 8 0)))
          rw [← hh5] at w5 o5 t5
          have n9 : ¬ h1.next + 1 = h5.next + 8 * room := by rw [hh5, hh3]; simp; omega
          have n10 : ¬ h5.next + 8 * room = h.next := by rw [hh5, hh3]; simp; omega
          have x5 : h5.next = h1.next + 2 := by rw [hh5, hh3]; simp
          have hu5 : h5.get (h1.next + 1) = some (.row (nodeC (pk f rd (p.take (com k p))) false 0 .nilptr (.ptr i 8 0))) := by rw [hh5]; simp
          have c5 : cellsAt h5.get h.next 4 = some (pfxC (pk f rd p)) := by rw [hh5, cellsAt_set, if_neg nh]; exact c4
          simp only [nodeC, pfxC, e2] at hh5 hu5 c5
          rw [← hh5]
          refine dreg_dwp ?_
          simp [c5]
          refine dcall_at 4 (by rfl) (callEv_pure (h := h5) (v := .int .i64 ((bN p (com k p) : Nat) : Int)) rfl (by simp [room]) (by omega) (fun i hi => rfl) (fun h3 g3 => bit_ct hp (by omega))) ?_
          simp [hpb, c5, o1, upds_one, hu5, n9]
          refine dwp_end (by simp [evAt, apart, I.foot, refOf, n10]) ?_
          obtain ⟨q8, hq8⟩ : ∃ q8, q8 = h5.next + 8 * room := ⟨_, rfl⟩
          rw [← hq8]
          rw [← hq8] at n9 n10
          obtain ⟨H7, hH7⟩ : ∃ H7 : H, H7 = ⟨h5.next + 13 * room, upds (upds h5.get [(q8, .row (nodeC (pk f rd p) true x .nilptr .nilptr))]) [(h1.next + 1, .row (nodeC (pk f rd (p.take (com k p))) false 0 (.ptr q8 8 0) (.ptr i 8 0)))]⟩ := ⟨_, rfl⟩
          have G1 : H7.get q8 = some (.row (nodeC (pk f rd p) true x .nilptr .nilptr)) := by rw [hH7]; show upds (upds _ _) _ _ = _; rw [upds_one, if_neg (fun e => n9 e.symm), upds_one, if_pos rfl]
          have G2 : H7.get (h1.next + 1) = some (.row (nodeC (pk f rd (p.take (com k p))) false 0 (.ptr q8 8 0) (.ptr i 8 0))) := by rw [hH7]; show upds (upds _ _) _ _ = _; rw [upds_one, if_pos rfl]
          have G3 : ∀ j, j ≠ q8 → j ≠ h1.next + 1 → H7.get j = h5.get j := fun j a b => by rw [hH7]; simp only [upds_one]; rw [if_neg b, if_neg a]
          have hr16 : room = 16 := rfl
          have X7 : H7.next = h5.next + 13 * room := by rw [hH7]
          have W7 : H7.WF := fun j hj => by rw [G3 j (by omega) (by omega)]; exact w5 j (by omega)
          have O7 : Out (i :: (nl ++ nr)) h H7 := ⟨by have := o5.next; omega, fun j hj hn => by rw [G3 j (by have := o5.next; omega) (by omega)]; exact o5.keep j hj hn⟩
          have tlt := t5.lt w5
          have tk := t5.keep (g' := H7.get) fun j hj => G3 j (by have := tlt j hj; omega) (fun e => nn5 (e ▸ hj))
          have leaf : TreeAt f rd H7.get (.node p true x .nil .nil) (.ptr q8 8 0) [q8] := ⟨q8, .nilptr, .nilptr, [], [], rfl, G1, ⟨rfl, rfl⟩, ⟨rfl, rfl⟩, rfl⟩
          have fin : Turned f rd (i :: (nl ++ nr)) h (.node (p.take (com k p)) false 0 (.node p true x .nil .nil) (.node k hs y l r)) (.ptr (h1.next + 1) 8 0) H7 := by
            refine turned_node (nl := [q8]) (nr := i :: (nl ++ nr)) (vl := .ptr q8 8 0) (vr := .ptr i 8 0) leaf tk G2 ?_ (fun j hj => ?_) O7 W7
            · refine List.nodup_cons.2 ⟨fun hm => ?_, List.nodup_append.2 ⟨by simp, hnd, fun a ha c hc e => ?_⟩⟩
              · rcases List.mem_append.1 hm with hm | hm
                · simp only [List.mem_singleton] at hm; exact n9 hm
                · exact nn5 hm
              · subst e
                rw [List.mem_singleton] at ha; subst ha; have := tlt _ hc; omega
            · rcases List.mem_cons.1 hj with rfl | hj
              · exact .inr (by omega)
              · rcases List.mem_append.1 hj with hj | hj
                · rw [List.mem_singleton] at hj; subst hj; exact .inr (by omega)
                · exact .inl hj
          simp only [nodeC, e2] at hH7
          rw [← hH7]
          simp
          exact fin
        | false =>
          have hkb : bN k (com k p) = 0 := by simp [bN, hb1]
          have hpb : bN p (com k p) = 1 := by simp [bN, hb2]
          have ht : ¬ k[com k p]? = some true := by simp [hb1]
          have es : T.set p x (.node k hs y l r) = (.node (p.take (com k p)) false default (.node k hs y l r) (.node p true x .nil .nil), true) := by rw [T.set, if_neg ek, if_neg ep, if_neg ht]
          rw [es]
          simp [hkb, hu3, c4, b2, nh]
          obtain ⟨h5, hh5⟩ : ∃ h5, h5 = h3.set (h1.next + 1) (.row (nodeC (pk f rd (p.take (com k p))) false 0 (.ptr i 8 0) .nilptr)) := ⟨_, rfl⟩
          have w5 := wf5 (.row (nodeC (pk f rd (p.take (com k p))) false 0 (.ptr i 8 0) .nilptr))
          have o5 := ou5 (.row (nodeC (pk f rd (p.take (com k p))) false 0 (.ptr i 8 0) .nilptr))
          have t5 := tk5 (.row (nodeC (pk f rd (p.take (com k p))) false 0 (.ptr i 8 0) .nilptr))
          rw [← hh5] at w5 o5 t5
          have n9 : ¬ h1.next + 1 = h5.next + 8 * room := by rw [hh5, hh3]; simp; omega
          have n10 : ¬ h5.next + 8 * room = h.next := by rw [hh5, hh3]; simp; omega
          have x5 : h5.next = h1.next + 2 := by rw [hh5, hh3]; simp
          have hu5 : h5.get (h1.next + 1) = some (.row (nodeC (pk f rd (p.take (com k p))) false 0 (.ptr i 8 0) .nilptr)) := by rw [hh5]; simp
          have c5 : cellsAt h5.get h.next 4 = some (pfxC (pk f rd p)) := by rw [hh5, cellsAt_set, if_neg nh]; exact c4
          simp only [nodeC, pfxC, e2] at hh5 hu5 c5
          rw [← hh5]
          refine dreg_dwp ?_
          simp [c5]
          refine dcall_at 4 (by rfl) (callEv_pure (h := h5) (v := .int .i64 ((bN p (com k p) : Nat) : Int)) rfl (by simp [room]) (by omega) (fun i hi => rfl) (fun h3 g3 => bit_ct hp (by omega))) ?_
          simp [hpb, c5, o1, upds_one, hu5, n9]
          refine dwp_end (by simp [evAt, apart, I.foot, refOf, n10]) ?_
          obtain ⟨q8, hq8⟩ : ∃ q8, q8 = h5.next + 8 * room := ⟨_, rfl⟩
          rw [← hq8]
          rw [← hq8] at n9 n10
          obtain ⟨H7, hH7⟩ : ∃ H7 : H, H7 = ⟨h5.next + 13 * room, upds (upds h5.get [(q8, .row (nodeC (pk f rd p) true x .nilptr .nilptr))]) [(h1.next + 1, .row (nodeC (pk f rd (p.take (com k p))) false 0 (.ptr i 8 0) (.ptr q8 8 0)))]⟩ := ⟨_, rfl⟩
          have G1 : H7.get q8 = some (.row (nodeC (pk f rd p) true x .nilptr .nilptr)) := by rw [hH7]; show upds (upds _ _) _ _ = _; rw [upds_one, if_neg (fun e => n9 e.symm), upds_one, if_pos rfl]
          have G2 : H7.get (h1.next + 1) = some (.row (nodeC (pk f rd (p.take (com k p))) false 0 (.ptr i 8 0) (.ptr q8 8 0))) := by rw [hH7]; show upds (upds _ _) _ _ = _; rw [upds_one, if_pos rfl]
          have G3 : ∀ j, j ≠ q8 → j ≠ h1.next + 1 → H7.get j = h5.get j := fun j a b => by rw [hH7]; simp only [upds_one]; rw [if_neg b, if_neg a]
          have hr16 : room = 16 := rfl
          have X7 : H7.next = h5.next + 13 * room := by rw [hH7]
          have W7 : H7.WF := fun j hj => by rw [G3 j (by omega) (by omega)]; exact w5 j (by omega)
          have O7 : Out (i :: (nl ++ nr)) h H7 := ⟨by have := o5.next; omega, fun j hj hn => by rw [G3 j (by have := o5.next; omega) (by omega)]; exact o5.keep j hj hn⟩
          have tlt := t5.lt w5
          have tk := t5.keep (g' := H7.get) fun j hj => G3 j (by have := tlt j hj; omega) (fun e => nn5 (e ▸ hj))
          have leaf : TreeAt f rd H7.get (.node p true x .nil .nil) (.ptr q8 8 0) [q8] := ⟨q8, .nilptr, .nilptr, [], [], rfl, G1, ⟨rfl, rfl⟩, ⟨rfl, rfl⟩, rfl⟩
          have fin : Turned f rd (i :: (nl ++ nr)) h (.node (p.take (com k p)) false 0 (.node k hs y l r) (.node p true x .nil .nil)) (.ptr (h1.next + 1) 8 0) H7 := by
            refine turned_node (nl := i :: (nl ++ nr)) (nr := [q8]) (vl := .ptr i 8 0) (vr := .ptr q8 8 0) tk leaf G2 ?_ (fun j hj => ?_) O7 W7
            · refine List.nodup_cons.2 ⟨fun hm => ?_, List.nodup_append.2 ⟨hnd, by simp, fun a ha c hc e => ?_⟩⟩
              · rcases List.mem_append.1 hm with hm | hm
                · exact nn5 hm
                · simp only [List.mem_singleton] at hm; exact n9 hm
              · subst e
                rw [List.mem_singleton] at hc; subst hc; have := tlt _ ha; omega
            · rcases List.mem_cons.1 hj with rfl | hj
              · exact .inr (by omega)
              · rcases List.mem_append.1 hj with hj | hj
                · exact .inl hj
                · rw [List.mem_singleton] at hj; subst hj; exact .inr (by omega)
          simp only [nodeC, e2] at hH7
          rw [← hH7]
          simp
          exact fin
end Go.Am

/-
  A value taken away: the contract of 'del'.
-/
namespace Go.Am
open Go.Proofs

set_option maxRecDepth 100000
variable {f : Int} {rd : Nat}
theorem TreeAt.val' {g : Nat → Option O} {t : T Int} {v : V} {ns : List Nat} (a : TreeAt f rd g t v ns) : (t.isNil = true ∧ v = .nilptr) ∨ ∃ i, v = .ptr i 8 0 ∧ t.isNil = false := by
  cases t with
  | nil => exact .inl ⟨rfl, a.1⟩
  | node k hs x l r => obtain ⟨i, vl, vr, nl, nr, e1, e2, e3, e4, e5⟩ := a; exact .inr ⟨i, e1, rfl⟩
theorem del_ct {p : List Bool} (hp : p.length ≤ mx f) : ∀ (t : T Int) (w : List Bool) (v : V) (ns : List Nat) (h : H), t.Ok (mx f) w → TreeAt f rd h.get t v ns → ns.Nodup →
    Acalls Tryd.prog 48 [v, .agg (pfxC (pk f rd p))] h fun u h' => ∃ v', u = .tup [v', .bool (t.del p).2] ∧ Turned f rd ns h (t.del p).1 v' h' := by
  intro t
  induction t with
  | nil =>
    rintro w v ns h _ ⟨rfl, rfl⟩ _
    refine acalls_to Tryd.func48 S.trie_del_int_code S.trie_del_int_enter (Nat.le_of_ble_eq_true rfl) fun wf => ?_; simp only [S.trie_del_int]
    simp only [pfxC]
    simp
    refine dreg_quiet (wf.push _) ?_
    simp [eqV]
    exact ⟨_, ⟨rfl, rfl⟩, ⟨[], ⟨rfl, rfl⟩, by simp, by simp⟩, (Out.refl _ _).push _, wf.push _⟩
  | node k hs y l r ihl ihr =>
    rintro w v ns h ok ⟨i, vl, vr, nl, nr, rfl, hi, hl, hr, rfl⟩ hnd
    obtain ⟨w1, kB, okl, okr⟩ := ok
    refine acalls_to Tryd.func48 S.trie_del_int_code S.trie_del_int_enter (Nat.le_of_ble_eq_true rfl) fun wf => ?_; simp only [S.trie_del_int]
    have hlt := wf.lt hi
    have hne : i ≠ h.next := by omega
    have ll := hl.lt wf
    have lr := hr.lt wf
    obtain ⟨n1, n2, n3, n4, n5⟩ := nodup3 hnd
    obtain ⟨h1, hh1⟩ : ∃ h1, h1 = h.push (.row (pfxC (pk f rd p))) := ⟨_, rfl⟩
    have wf1 : h1.WF := by rw [hh1]; exact wf.push _
    have nx1 : h1.next = h.next + 1 := by rw [hh1]; simp
    have hi1 : h1.get i = some (.row (nodeC (pk f rd k) hs y vl vr)) := by rw [hh1]; simp [hne, hi]
    have c1 : cellsAt h1.get i 8 = some (nodeC (pk f rd k) hs y vl vr) := by rw [cellsAt_of hi1 (by rfl)]; rfl
    have c2 : cellsAt h1.get h.next 4 = some (pfxC (pk f rd p)) := by rw [hh1]; simp [pfxC]
    have g1 : Ge h h1 := by rw [hh1]; exact (Ge.refl _).push _
    have e1 : (pk f rd k).len = (k.length : Nat) := rfl
    have e2 : (pk f rd p).len = (p.length : Nat) := rfl
    have p128 := mx_le f
    have hi1' : i < h1.next := by omega
    have lk : ∀ j ∈ nl, h1.get j = h.get j := fun j hj => g1.2 j (ll j hj)
    have rk : ∀ j ∈ nr, h1.get j = h.get j := fun j hj => g1.2 j (lr j hj)
    have cl := com_le_left k p
    have self : Turned f rd (i :: (nl ++ nr)) h (.node k hs y l r) (.ptr i 8 0) h1 := turned_node (hl.keep lk) (hr.keep rk) hi1 hnd (fun j hj => .inl hj) (g1.out _) wf1
    simp only [pfxC, nodeC, e1, e2] at hh1 c1 c2 hi1 ⊢
    simp
    rw [← hh1]
    refine dreg_quiet wf1 ?_
    have cd : ∀ (b : Bool) (Q : Prop), (b = false → Q) → (b = true → Q) → Q := fun b _ h1 h2 => by cases b; exact h1 rfl; exact h2 rfl
    by_cases h1l : p.length < k.length
    · have es : T.del p (.node k hs y l r) = (.node k hs y l r, false) := by rw [T.del, if_pos (.inl h1l)]
      rw [es]
      simp [eqV, c1, c2, h1l]
      exact self
    · simp [eqV, c1, c2, h1l]
      refine qcall_of (v := .int .i64 ((com k p : Nat) : Int)) rfl (fun h2 _ => comm_ct kB hp) ?_
      by_cases h2l : com k p < k.length
      · have es : T.del p (.node k hs y l r) = (.node k hs y l r, false) := by rw [T.del, if_pos (.inr h2l)]
        rw [es]
        simp [c1, h2l]
        exact self
      · have h3 : ¬ (p.length < k.length ∨ com k p < k.length) := by omega
        simp [c1, h2l]
        refine dreg_of ?_
        simp [c1, c2]
        refine cond_cut (fun t' h' => t' 0 = .ptr i 8 0 ∧ ∃ g hs' y' l' r', t' 6 = .bool g ∧ T.del p (.node k hs y l r) = (prune k hs' y' l' r', g) ∧ Turned f rd (i :: (nl ++ nr)) h (.node k hs' y' l' r') (.ptr i 8 0) h') ?_ ?_ ?_
        · intro ep R hR
          have ep' : k.length = p.length := by
            have : (k.length : Int) = (p.length : Int) := by simpa using ep
            omega
          have es : T.del p (.node k hs y l r) = (prune k false default l r, hs) := by rw [T.del, if_neg h3, if_pos ep']
          simp [c1, hi1]
          refine hR _ _ ⟨by simp, hs, false, 0, l, r, by simp, es, ?_⟩
          refine turned_node (nl := nl) (nr := nr) (vl := vl) (vr := vr) (hl.keep fun j hj => ?_) (hr.keep fun j hj => ?_) (by rw [H.get_set, if_pos rfl]; rfl) hnd (fun j hj => .inl hj) ((g1.out _).set (.inl (by simp)) _) (wf1.set hi1' _)
          · rw [H.get_set, if_neg (show ¬ j = i from fun e => n1 (e ▸ hj)), lk j hj]
          · rw [H.get_set, if_neg (show ¬ j = i from fun e => n2 (e ▸ hj)), rk j hj]
        · intro ep R hR
          have ep' : ¬ k.length = p.length := by
            have : ¬ (k.length : Int) = (p.length : Int) := by simpa using ep
            omega
          refine dreg_of ?_
          simp [c1, c2]
          refine scall_of (bit_ct hp (by omega)) ?_
          rcases bN_cases p k.length with ⟨hb, ht⟩ | ⟨hb, ht⟩
          · have es : T.del p (.node k hs y l r) = (prune k hs y l (r.del p).1, (r.del p).2) := by rw [T.del, if_neg h3, if_neg ep', if_pos ht]
            simp [hb]
            refine dreg_of ?_
            simp [c1, c2]
            refine scall_rel (turned_make nr h1 wf1 (r.del p).1 |>.elim fun v e => e.elim fun h' e => ⟨.tup [v, .bool (r.del p).2], h', v, rfl, e⟩) (ihr _ _ _ h1 okr (hr.keep rk) n4) ?_
            rintro _ h2 ⟨v', rfl, q⟩
            have hi2 : h2.get i = _ := (q.out.keep i hi1' n2).trans hi1
            have q9 := turned_right (k := k) (hs := hs) (y := y) wf hlt hl lr hnd g1 q
            obtain ⟨o1, o2, o3⟩ := q.ex.elim fun _ a => a.1.one
            simp only [nodeC, e1] at q9
            simp [hi2, o2, o3]
            exact hR _ _ ⟨by simp, _, _, _, _, _, by simp, es, q9⟩
          · have es : T.del p (.node k hs y l r) = (prune k hs y (l.del p).1 r, (l.del p).2) := by rw [T.del, if_neg h3, if_neg ep', if_neg ht]
            simp [hb]
            refine dreg_of ?_
            simp [c1, c2]
            refine scall_rel (turned_make nl h1 wf1 (l.del p).1 |>.elim fun v e => e.elim fun h' e => ⟨.tup [v, .bool (l.del p).2], h', v, rfl, e⟩) (ihl _ _ _ h1 okl (hl.keep lk) n3) ?_
            rintro _ h2 ⟨v', rfl, q⟩
            have hi2 : h2.get i = _ := (q.out.keep i hi1' n1).trans hi1
            have q9 := turned_left (k := k) (hs := hs) (y := y) wf hlt hr ll hnd g1 q
            obtain ⟨o1, o2, o3⟩ := q.ex.elim fun _ a => a.1.one
            simp only [nodeC, e1] at q9
            simp [hi2, o2, o3]
            exact hR _ _ ⟨by simp, _, _, _, _, _, by simp, es, q9⟩
        · rintro t' h' ⟨t0, g, hs', y', l', r', t6, es, ⟨ns', ⟨i', vl', vr', nl', nr', ei, a2, a3, a4, rfl⟩, nd, sub⟩, o, w⟩
          cases ei
          rw [es]
          have d1 : cellsAt h'.get i 8 = some (nodeC (pk f rd k) hs' y' vl' vr') := by rw [cellsAt_of a2 (by rfl)]; rfl
          obtain ⟨m1, m2, m3, m4, m5⟩ := nodup3 nd
          have Q0 : Turned f rd (i :: (nl ++ nr)) h (.node k hs' y' l' r') (.ptr i 8 0) h' := turned_node a3 a4 a2 nd sub o w
          have Ql : Turned f rd (i :: (nl ++ nr)) h l' vl' h' := ⟨⟨nl', a3, m3, fun j hj => sub j (by simp [hj])⟩, o, w⟩
          have Qr : Turned f rd (i :: (nl ++ nr)) h r' vr' h' := ⟨⟨nr', a4, m4, fun j hj => sub j (by simp [hj])⟩, o, w⟩
          simp only [nodeC, e1] at d1
          unfold prune
          cases hs' with
          | true =>
            simp [t0, t6, d1]
            exact Q0
          | false =>
            rcases a3.val' with ⟨il, rfl⟩ | ⟨j, rfl, il⟩
            · simp [t0, t6, d1, eqV, il]
              exact Qr
            · rcases a4.val' with ⟨ir, rfl⟩ | ⟨j2, rfl, ir⟩
              · simp [t0, t6, d1, eqV, il, ir]
                exact Ql
              · simp [t0, t6, d1, eqV, il, ir]
                exact Q0
end Go.Am

/-
  The trie in the heap; a root's place.
-/
namespace Go.Am
open Go.Proofs

set_option maxRecDepth 100000
def rootC (f : Int) (d : Nat) (v : V) : List V := [.int .i64 f, .int .u64 (d : Nat), v]
def RootsAt (g : Nat → Option O) : List Rt → List (List V) → List Nat → Prop
  | [], cs, ns => cs = [] ∧ ns = []
  | r :: rs, cs, ns => ∃ v cs' n1 n2, cs = rootC r.fam r.rd v :: cs' ∧ TreeAt r.fam r.rd g r.t v n1 ∧ RootsAt g rs cs' n2 ∧ ns = n1 ++ n2
def RootsV (g : Nat → Option O) (rv : V) (cs : List (List V)) (qs : List Nat) : Prop :=
  (cs = [] ∧ rv = .nilsl ∧ qs = []) ∨ ∃ q, cs ≠ [] ∧ rv = .sl q (cs.length * 3) 0 cs.length none ∧ g q = some (.grow 3 cs.flatten) ∧ qs = [q]
def trieO (rv : V) (n : Nat) : O := .row [.bool true, rv, .int .i64 (n : Nat)]
def TrieAt (h : H) (i : Nat) (rs : List Rt) (n : Nat) (ns : List Nat) : Prop :=
  ∃ rv cs qs ms, h.get i = some (trieO rv n) ∧ RootsV h.get rv cs qs ∧ RootsAt h.get rs cs ms ∧ ns = i :: (qs ++ ms) ∧ ns.Nodup
theorem RootsAt.keep {g g' : Nat → Option O} : ∀ {rs : List Rt} {cs : List (List V)} {ns : List Nat}, RootsAt g rs cs ns → (∀ i ∈ ns, g' i = g i) → RootsAt g' rs cs ns
  | [], _, _, h, _ => h
  | r :: rs, cs, ns, ⟨v, cs', n1, n2, e1, e2, e3, e4⟩, hk => by
    subst e4
    exact ⟨v, cs', n1, n2, e1, e2.keep fun j hj => hk j (by simp [hj]), e3.keep fun j hj => hk j (by simp [hj]), rfl⟩
theorem RootsAt.live {g : Nat → Option O} : ∀ {rs : List Rt} {cs : List (List V)} {ns : List Nat}, RootsAt g rs cs ns → ∀ i ∈ ns, ∃ o, g i = some o
  | [], _, _, ⟨_, e⟩, i, hi => by subst e; simp at hi
  | r :: rs, cs, ns, ⟨v, cs', n1, n2, e1, e2, e3, e4⟩, i, hi => by
    subst e4
    rcases List.mem_append.1 hi with hi | hi
    · exact e2.live i hi
    · exact e3.live i hi
theorem RootsAt.len {g : Nat → Option O} : ∀ {rs : List Rt} {cs : List (List V)} {ns : List Nat}, RootsAt g rs cs ns → cs.length = rs.length
  | [], _, _, ⟨e, _⟩ => by subst e; rfl
  | r :: rs, cs, ns, ⟨v, cs', n1, n2, e1, e2, e3, e4⟩ => by subst e1; simp [e3.len]
theorem RootsAt.size {g : Nat → Option O} : ∀ {rs : List Rt} {cs : List (List V)} {ns : List Nat}, RootsAt g rs cs ns → ∀ c ∈ cs, c.length = 3
  | [], _, _, ⟨e, _⟩, c, hc => by subst e; simp at hc
  | r :: rs, cs, ns, ⟨v, cs', n1, n2, e1, e2, e3, e4⟩, c, hc => by
    subst e1
    rcases List.mem_cons.1 hc with rfl | hc
    · rfl
    · exact e3.size c hc
theorem RootsAt.all_one {g : Nat → Option O} : ∀ {rs : List Rt} {cs : List (List V)} {ns : List Nat}, RootsAt g rs cs ns → ∀ c ∈ cs, c.all V.one = true
  | [], _, _, ⟨e, _⟩, c, hc => by subst e; simp at hc
  | r :: rs, cs, ns, ⟨v, cs', n1, n2, e1, e2, e3, e4⟩, c, hc => by
    subst e1
    rcases List.mem_cons.1 hc with rfl | hc
    · simp [rootC, e2.one.1]
    · exact e3.all_one c hc
theorem RootsAt.app {g : Nat → Option O} : ∀ {a b : List Rt} {cs : List (List V)} {ns : List Nat}, RootsAt g (a ++ b) cs ns ↔ ∃ ca cb na nb, cs = ca ++ cb ∧ ns = na ++ nb ∧ RootsAt g a ca na ∧ RootsAt g b cb nb
  | [], b, cs, ns => by
    constructor
    · intro h; exact ⟨[], cs, [], ns, rfl, rfl, ⟨rfl, rfl⟩, h⟩
    · rintro ⟨ca, cb, na, nb, rfl, rfl, ⟨rfl, rfl⟩, h⟩; exact h
  | r :: a, b, cs, ns => by
    constructor
    · rintro ⟨v, cs', n1, n2, rfl, e2, e3, rfl⟩
      obtain ⟨ca, cb, na, nb, rfl, rfl, h1, h2⟩ := RootsAt.app.1 e3
      exact ⟨_ :: ca, cb, n1 ++ na, nb, rfl, by simp, ⟨v, ca, n1, na, rfl, e2, h1, rfl⟩, h2⟩
    · rintro ⟨ca, cb, na, nb, rfl, rfl, ⟨v, cs', n1, n2, rfl, e2, e3, rfl⟩, h2⟩
      exact ⟨v, cs' ++ cb, n1, n2 ++ nb, rfl, e2, RootsAt.app.2 ⟨cs', cb, n2, nb, rfl, rfl, e3, h2⟩, by simp⟩
theorem RootsAt.at {g : Nat → Option O} {rs : List Rt} {cs : List (List V)} {ns : List Nat} (h : RootsAt g rs cs ns) {i : Nat} (hi : i < rs.length) : ∃ v n1, cs[i]? = some (rootC rs[i].fam rs[i].rd v) ∧ TreeAt rs[i].fam rs[i].rd g rs[i].t v n1 ∧ (∀ j ∈ n1, j ∈ ns) := by
  have e : rs = rs.take i ++ rs[i] :: rs.drop (i + 1) := by rw [← List.drop_eq_getElem_cons hi, List.take_append_drop]
  rw [e] at h
  obtain ⟨ca, cb, na, nb, rfl, rfl, h1, v, cs', n1, n2, rfl, e2, e3, rfl⟩ := RootsAt.app.1 h
  have hl := h1.len
  rw [List.length_take, Nat.min_eq_left (by omega)] at hl
  refine ⟨v, n1, ?_, e2, fun j hj => by simp [hj]⟩
  rw [List.getElem?_append_right (by omega), hl, Nat.sub_self]; rfl
theorem RootsV.sls {g : Nat → Option O} {rv : V} {cs : List (List V)} {qs : List Nat} (h : RootsV g rv cs qs) (hs : ∀ c ∈ cs, c.length = 3) (hb : cs.length ≤ 1000000) : Sls g 3 rv cs := by
  rcases h with ⟨rfl, rfl, rfl⟩ | ⟨q, hne, rfl, hq, rfl⟩
  · exact ⟨.inl ⟨rfl, .inl rfl⟩, by simp, rfl, by simp⟩
  · refine ⟨.inr ⟨_, _, _, _, rfl⟩, hs, ?_, by omega⟩
    have hl := flat_len hs
    rw [elemsV_sl, if_neg (by simpa using hne), cellsAt_of hq (by simp [hl])]
    simp only [cells_grow, Nat.zero_add, hl, Nat.le_refl, if_true, List.drop_zero]
    rw [← hl, List.take_length]
theorem tw_at {α : Type} {p : α → Bool} : ∀ {l : List α} {i : Nat}, i ≤ l.length → (∀ j (hj : j < l.length), j < i → p l[j] = true) → (∀ h : i < l.length, p l[i] = false) → (l.takeWhile p).length = i ∧ l.dropWhile p = l.drop i
  | [], i, h, _, _ => by simp at h; subst h; simp
  | x :: l, 0, _, _, h3 => by
    have := h3 (by simp)
    simp at this
    rw [List.takeWhile_cons, List.dropWhile_cons]; simp [this]
  | x :: l, i + 1, h1, h2, h3 => by
    have hx := h2 0 (by simp) (by omega)
    simp at hx
    obtain ⟨a, b⟩ := tw_at (p := p) (l := l) (i := i) (by simpa using h1) (fun j hj hi => h2 (j + 1) (by simpa using hj) (by omega)) (fun h => h3 (by simpa using h))
    rw [List.takeWhile_cons, List.dropWhile_cons]
    simp [hx, a, b]
theorem root_ct {h : H} {i : Nat} {rs : List Rt} {n : Nat} {rv : V} {cs : List (List V)} {qs ms : List Nat} (hi : h.get i = some (trieO rv n)) (hv : RootsV h.get rv cs qs) (ha : RootsAt h.get rs cs ms) (hb : rs.length ≤ 1000000) {p : Pfx} :
    Pure Tryd.prog 31 [.ptr i 3 0, .agg (pfxC p)] h (.tup [.int .i64 ((rix p.fam p.rd rs : Nat) : Int), .bool (rhas p.fam p.rd rs)]) := by
  refine pure_to Tryd.func31 S.trie_Trie_int_root_code S.trie_Trie_int_root_enter rfl (Nat.le_of_ble_eq_true rfl) fun wf => ?_; simp only [S.trie_Trie_int_root]
  have hcl := ha.len
  have s := hv.sls ha.size (by omega)
  have hlt := wf.lt hi
  obtain ⟨h1, hh1⟩ : ∃ h1, h1 = h.push (.row (pfxC p)) := ⟨_, rfl⟩
  have g1 : Ge h h1 := by rw [hh1]; exact (Ge.refl _).push _
  have c1 : ∀ h', Ge h1 h' → cellsAt h'.get h.next 4 = some (pfxC p) := fun h' g => by rw [g.cells (by rw [hh1]; simp), hh1]; simp [pfxC]
  have c2 : ∀ h', Ge h1 h' → cellsAt h'.get i 3 = some [.bool true, rv, .int .i64 (n : Nat)] := fun h' g => by rw [(g1.trans g).cells hlt, cellsAt_of hi (by rfl)]; rfl
  have L := fun h' (g : Ge h1 h') => s.lenG wf rfl h' (g1.trans g)
  simp only [pfxC] at hh1 c1 ⊢
  have c0 : cellsAt h.get i 3 = some [.bool true, rv, .int .i64 (n : Nat)] := by rw [cellsAt_of hi (by rfl)]; rfl
  have hne : ¬ i = h.next := by omega
  have L' := L h1 (Ge.refl _)
  rw [hh1] at L'
  simp [hne, c0, L']
  rw [← hh1]
  refine loop_up (fun k t h' => (t 0 = .ptr i 3 0 ∧ t 3 = .ptr h.next 4 0 ∧ t 11 = rv ∧ t 12 = .int .i64 cs.length ∧ t 13 = .int .i64 (k : Nat)) ∧ Ge h1 h' ∧ k ≤ rs.length ∧ ∀ j (hj : j < rs.length), j < k → rlow p.fam p.rd rs[j] = true) cs.length ⟨by simp, Ge.refl _, by omega, fun j _ hj => absurd hj (by omega)⟩ ?_
  rintro k t h' hk ⟨⟨t0, t3, t11, t12, t13⟩, g', hkl, hlow⟩ K hK
  by_cases hlt2 : k < rs.length
  · have hkc : k < cs.length := by omega
    have hw := wrap_succ hkc (by omega)
    obtain ⟨v, n1, hc, _, _⟩ := ha.at hlt2
    obtain ⟨pp, q, o, ccs, h1', h2', h3', h4', h5', h6'⟩ := s.atG wf hkc
    have h3c := h3' h' (g1.trans g')
    have hcs : cs[k] = rootC rs[k].fam rs[k].rd v := by
      rw [List.getElem?_eq_getElem hkc] at hc
      exact Option.some.inj hc
    rw [hcs] at h5'
    have c1' := c1 h' g'
    have hn : ¬ h.next = h'.next := by have := g'.1; rw [hh1] at this; simp at this; omega
    have G1 : Ge h1 ((h'.push (.row [.int .i64 0, .int .u64 0, .nilptr])).set h'.next (.row [.int .i64 rs[k].fam, .int .u64 (rs[k].rd : Nat), v])) := (g'.push _).set g'.1 _
    have hv1 : v.one = true := by
      have := ha.all_one cs[k] (List.getElem_mem hkc)
      rw [hcs] at this
      simp [rootC] at this
      exact this
    have ou : o + 3 ≤ ccs.length := h4'
    simp only [rootC] at h5'
    have go : rlow p.fam p.rd rs[k] = true → ∀ t', (t' 0 = .ptr i 3 0 ∧ t' 3 = .ptr h.next 4 0 ∧ t' 11 = rv ∧ t' 12 = .int .i64 cs.length ∧ t' 13 = .int .i64 ((k + 1 : Nat) : Int)) → K t' ((h'.push (.row [.int .i64 0, .int .u64 0, .nilptr])).set h'.next (.row [.int .i64 rs[k].fam, .int .u64 (rs[k].rd : Nat), v])) := fun hl t' ht =>
      hK _ _ hkc ⟨ht, G1, hlt2, fun j hj hjk => by
        by_cases e : j = k
        · subst e; exact hl
        · exact hlow j hj (by omega)⟩
    have stop : rlow p.fam p.rd rs[k] = false → rix p.fam p.rd rs = k ∧ rhas p.fam p.rd rs = req p.fam p.rd rs[k] := fun hl => by
      obtain ⟨e1, e2⟩ := tw_at (p := rlow p.fam p.rd) (l := rs) (i := k) hkl hlow (fun _ => hl)
      refine ⟨e1, ?_⟩
      unfold rhas
      rw [e2, List.drop_eq_getElem_cons hlt2]
    have gg := g1.trans G1
    simp [t13, t12, hkc, t11, h1', h3c, ou, h5', hv1, t3, c1', hn]
    generalize hF : rs[k].fam = F at *
    generalize hD : rs[k].rd = D at *
    have lowd : rlow p.fam p.rd rs[k] = (decide (F < p.fam) || (decide (F = p.fam) && decide (D < p.rd))) := by rw [rlow, hF, hD]
    have eqd : req p.fam p.rd rs[k] = (decide (F = p.fam) && decide (D = p.rd)) := by rw [req, hF, hD]
    rw [lowd] at go stop
    rw [eqd] at stop
    by_cases q1 : F = p.fam
    · by_cases q2 : D = p.rd
      · obtain ⟨s1, s2⟩ := stop (by simp [q1, q2])
        simp [q1, q2, s1, s2, t3, c1', hn]
        rw [q1, q2] at gg
        exact gg
      · have q2' : ((D : Int) == (p.rd : Int)) = false := by simp; omega
        by_cases q3 : D < p.rd
        · have q4 : ¬ p.rd < D := by omega
          have gk := go (by simp [q1, q3])
          simp [q1, q2', q4, t3, c1', hn, t13, hw]
          rw [q1] at gk
          exact gk _ (by simp [t0, t3, t11, t12])
        · have q4 : p.rd < D := by omega
          obtain ⟨s1, s2⟩ := stop (by simp [q1]; omega)
          simp [q1, q2, q2', q4, t3, c1', hn, s1, s2]
          rw [q1] at gg
          exact gg
    · have q1' : (F == p.fam) = false := by simp [q1]
      by_cases q3 : F < p.fam
      · have q4 : ¬ p.fam < F := by omega
        have gk := go (by simp [q3])
        simp [q1', q4, t3, c1', hn, t13, hw]
        exact gk _ (by simp [t0, t3, t11, t12])
      · have q4 : p.fam < F := by omega
        obtain ⟨s1, s2⟩ := stop (by simp [q1, q3])
        simp [q1, q1', q4, t3, c1', hn, s1, s2]
        exact gg
  · have hk2 : k = rs.length := by omega
    obtain ⟨e1, e2⟩ := tw_at (p := rlow p.fam p.rd) (l := rs) (i := k) hkl hlow (fun h => absurd h hlt2)
    have e3 : rhas p.fam p.rd rs = false := by unfold rhas; rw [e2, hk2, List.drop_length]
    have c3 := c2 h' g'
    have L3 := L h' g'
    have hkc : ¬ k < cs.length := by omega
    have ek : cs.length = rs.length := hcl
    simp [t13, t12, hkc, t0, c3, L3]
    exact ⟨⟨by unfold rix; rw [e1]; omega, e3⟩, g1.trans g'⟩
end Go.Am

/-
  A trie whose root's tree was turned; one root more.
-/
namespace Go.Am
open Go.Proofs

set_option maxRecDepth 100000
theorem none_ct {h : H} {i : Nat} {rv : V} {n : Nat} (hi : h.get i = some (trieO rv n)) : Pure Tryd.prog 29 [.ptr i 3 0] h (.bool false) := by
  refine pure_to Tryd.func29 S.trie_Trie_int_none_code S.trie_Trie_int_none_enter rfl (Nat.le_of_ble_eq_true rfl) fun wf => ?_; simp only [S.trie_Trie_int_none]
  have c0 : cellsAt h.get i 3 = some [.bool true, rv, .int .i64 (n : Nat)] := by rw [cellsAt_of hi (by rfl)]; rfl
  simp [eqV, c0]
structure TTurned (ns : List Nat) (h : H) (i : Nat) (rs : List Rt) (n : Nat) (h' : H) : Prop where
  ex : ∃ ns', TrieAt h' i rs n ns' ∧ ∀ j ∈ ns', j ∈ ns ∨ h.next ≤ j
  out : Out ns h h'
  wf : h'.WF
theorem TrieAt.lt {h : H} (wf : h.WF) {i : Nat} {rs : List Rt} {n : Nat} {ns : List Nat} (a : TrieAt h i rs n ns) : ∀ j ∈ ns, j < h.next := by
  obtain ⟨rv, cs, qs, ms, h1, h2, h3, rfl, _⟩ := a
  intro j hj
  simp only [List.mem_cons, List.mem_append] at hj
  rcases hj with rfl | hj | hj
  · exact wf.lt h1
  · rcases h2 with ⟨_, _, rfl⟩ | ⟨q, _, _, hq, rfl⟩
    · simp at hj
    · rw [List.mem_singleton] at hj; subst hj; exact wf.lt hq
  · obtain ⟨o, ho⟩ := h3.live j hj; exact wf.lt ho
theorem RootsV.live {g : Nat → Option O} {rv : V} {cs : List (List V)} {qs : List Nat} (h : RootsV g rv cs qs) : ∀ i ∈ qs, ∃ o, g i = some o := by
  rcases h with ⟨_, _, rfl⟩ | ⟨q, _, _, hq, rfl⟩
  · simp
  · intro i hi; rw [List.mem_singleton] at hi; subst hi; exact ⟨_, hq⟩
theorem TrieAt.keep {h h' : H} {i : Nat} {rs : List Rt} {n : Nat} {ns : List Nat} (a : TrieAt h i rs n ns) (hk : ∀ j ∈ ns, h'.get j = h.get j) : TrieAt h' i rs n ns := by
  obtain ⟨rv, cs, qs, ms, h1, h2, h3, rfl, h5⟩ := a
  refine ⟨rv, cs, qs, ms, by rw [hk i (by simp)]; exact h1, ?_, h3.keep fun j hj => hk j (by simp [hj]), rfl, h5⟩
  rcases h2 with ⟨e1, e2, rfl⟩ | ⟨q, e0, e1, hq, rfl⟩
  · exact .inl ⟨e1, e2, rfl⟩
  · exact .inr ⟨q, e0, e1, by rw [hk q (by simp)]; exact hq, rfl⟩
theorem TrieAt.out {h h' : H} (wf : h.WF) {i : Nat} {rs : List Rt} {n : Nat} {ns ms : List Nat} (a : TrieAt h i rs n ns) (o : Out ms h h') (hd : ∀ j ∈ ns, j ∉ ms) : TrieAt h' i rs n ns :=
  a.keep fun j hj => o.keep j (a.lt wf j hj) (hd j hj)
/-- One root's tree and the count were turned. -/
theorem trie_turn {h h3 h4 : H} {i : Nat} {a b : List Rt} {f : Int} {d : Nat} {T' : T Int} {n' : Nat} {rv v v' : V} {ca cb : List (List V)} {na nr nb : List Nat} {q : Nat} (wf : h.WF) (hi : i < h.next)
    (erv : rv = .sl q ((ca ++ rootC f d v :: cb).length * 3) 0 (ca ++ rootC f d v :: cb).length none) (hq : q < h.next) (ra : RootsAt h.get a ca na) (rb : RootsAt h.get b cb nb) (lnr : ∀ j ∈ nr, j < h.next) (hnd : (i :: ([q] ++ (na ++ (nr ++ nb)))).Nodup)
    (tu : Turned f d nr h T' v' h3) (e1 : h4.get i = some (trieO rv n')) (e2 : h4.get q = some (.grow 3 (ca ++ rootC f d v' :: cb).flatten)) (ek : ∀ j, j ≠ i → j ≠ q → h4.get j = h3.get j) (en : h4.next = h3.next) :
    TTurned (i :: ([q] ++ (na ++ (nr ++ nb)))) h i (a ++ ⟨f, d, T'⟩ :: b) n' h4 := by
  obtain ⟨⟨nr', t1, t2, t3⟩, o, w⟩ := tu
  simp only [List.cons_append, List.nil_append, List.nodup_cons, List.mem_cons, List.mem_append, not_or] at hnd
  obtain ⟨⟨z1, z2, z3, z4⟩, ⟨y2, y3, y4⟩, x⟩ := hnd
  obtain ⟨x1, x2, x3⟩ := List.nodup_append.1 x
  obtain ⟨u1, u2, u3⟩ := List.nodup_append.1 x2
  have lna : ∀ j ∈ na, j < h.next := fun j hj => by obtain ⟨o, ho⟩ := ra.live j hj; exact wf.lt ho
  have lnb : ∀ j ∈ nb, j < h.next := fun j hj => by obtain ⟨o, ho⟩ := rb.live j hj; exact wf.lt ho
  have nn : ∀ j, j ∈ nr' → ∀ k, k < h.next → k ∉ nr → j ≠ k := fun j hj k hk hn e => by
    rcases t3 j hj with h1 | h1
    · exact hn (e ▸ h1)
    · omega
  refine ⟨⟨i :: ([q] ++ (na ++ (nr' ++ nb))), ⟨rv, ca ++ rootC f d v' :: cb, [q], na ++ (nr' ++ nb), e1, .inr ⟨q, by simp, by rw [erv]; simp, e2, rfl⟩, ?_, rfl, ?_⟩, ?_⟩, ⟨by rw [en]; exact o.next, fun j hj hn => ?_⟩, fun j hj => ?_⟩
  · refine RootsAt.app.2 ⟨ca, _, na, _, rfl, rfl, ra.keep fun j hj => ?_, v', cb, nr', nb, rfl, t1.keep fun j hj => ?_, rb.keep fun j hj => ?_, rfl⟩
    · rw [ek j (fun e => z2 (e ▸ hj)) (fun e => y2 (e ▸ hj)), o.keep j (lna j hj) (fun hm => x3 j hj j (by simp [hm]) rfl)]
    · rw [ek j (nn j hj i hi z3) (nn j hj q hq y3)]
    · rw [ek j (fun e => z4 (e ▸ hj)) (fun e => y4 (e ▸ hj)), o.keep j (lnb j hj) (fun hm => u3 j hm j hj rfl)]
  · simp only [List.cons_append, List.nil_append, List.nodup_cons, List.mem_cons, List.mem_append, not_or]
    refine ⟨⟨z1, z2, fun hm => nn i hm i hi z3 rfl, z4⟩, ⟨y2, fun hm => nn q hm q hq y3 rfl, y4⟩, List.nodup_append.2 ⟨x1, List.nodup_append.2 ⟨t2, u2, fun p hp r hr => nn p hp r (lnb r hr) (fun hm => u3 r hm r hr rfl)⟩, fun p hp r hr e => ?_⟩⟩
    rcases List.mem_append.1 hr with hr | hr
    · exact nn r hr p (lna p hp) (fun hm => x3 p hp p (by simp [hm]) rfl) e.symm
    · exact x3 p hp r (by simp [hr]) e
  · intro j hj
    simp only [List.cons_append, List.nil_append, List.mem_cons, List.mem_append] at hj ⊢
    rcases hj with hj | hj | hj | hj | hj
    · exact .inl (.inl hj)
    · exact .inl (.inr (.inl hj))
    · exact .inl (.inr (.inr (.inl hj)))
    · exact (t3 j hj).imp (fun h => .inr (.inr (.inr (.inl h)))) id
    · exact .inl (.inr (.inr (.inr (.inr hj))))
  · simp only [List.cons_append, List.nil_append, List.mem_cons, List.mem_append, not_or] at hn
    obtain ⟨b1, b2, b3, b4, b5⟩ := hn
    rw [ek j b1 b2, o.keep j hj b4]
  · rw [en] at hj
    have := o.next
    rw [ek j (by omega) (by omega)]; exact w j hj
end Go.Am

/-
  A root's spot: found, or made; Set.
-/
namespace Go.Am
open Go.Proofs

set_option maxRecDepth 100000
structure Spot (g : Nat → Option O) (i : Nat) (rs : List Rt) (n : Nat) (f : Int) (d : Nat) (N : List Nat) (a b : List Rt) (tr : T Int) (ca cb : List (List V)) (v : V) (na nr nb : List Nat) (q : Nat) : Prop where
  len : ca.length = rix f d rs
  obj : g i = some (trieO (.sl q ((ca ++ rootC f d v :: cb).length * 3) 0 (ca ++ rootC f d v :: cb).length none) n)
  cells : g q = some (.grow 3 (ca ++ rootC f d v :: cb).flatten)
  ra : RootsAt g a ca na
  rt : TreeAt f d g tr v nr
  rb : RootsAt g b cb nb
  nd : N.Nodup
  names : N = i :: ([q] ++ (na ++ (nr ++ nb)))
  tree : tr = treeOf f d rs
  put : ∀ T', rput f d T' rs = a ++ ⟨f, d, T'⟩ :: b
theorem Spot.sizes {g : Nat → Option O} {i : Nat} {rs : List Rt} {n : Nat} {f : Int} {d : Nat} {N : List Nat} {a b : List Rt} {tr : T Int} {ca cb : List (List V)} {v : V} {na nr nb : List Nat} {q : Nat} (s : Spot g i rs n f d N a b tr ca cb v na nr nb q) :
    ∀ c ∈ ca ++ rootC f d v :: cb, c.length = 3 := fun c hc => by
  rcases List.mem_append.1 hc with hc | hc
  · exact s.ra.size c hc
  · rcases List.mem_cons.1 hc with rfl | hc
    · rfl
    · exact s.rb.size c hc
theorem spot_found {h : H} {i : Nat} {rs : List Rt} {n : Nat} {ns : List Nat} {f : Int} {d : Nat} (o : RsOk rs) (a : TrieAt h i rs n ns) (hh : rhas f d rs = true) : ∃ a b tr ca cb v na nr nb q, Spot h.get i rs n f d ns a b tr ca cb v na nr nb q := by
  obtain ⟨rv, cs, qs, ms, h1, h2, h3, rfl, h5⟩ := a
  have hh0 := hh
  unfold rhas at hh
  cases e : rs.dropWhile (rlow f d) with
  | nil => rw [e] at hh; simp at hh
  | cons r b =>
    rw [e] at hh
    simp only at hh
    obtain ⟨e1, e2⟩ := req_iff.1 hh
    have hrs : rs = rs.takeWhile (rlow f d) ++ r :: b := by rw [← e]; exact rs_split f d rs
    rw [hrs] at h3
    obtain ⟨ca, cb, na, nb, rfl, rfl, x1, v, cs', n1, n2, rfl, y1, y2, rfl⟩ := RootsAt.app.1 h3
    rw [e1, e2] at y1
    rw [e1, e2] at h2
    rcases h2 with ⟨h2, _, _⟩ | ⟨q, _, rfl, hq, rfl⟩
    · simp at h2
    · exact ⟨rs.takeWhile (rlow f d), b, r.t, ca, cs', v, na, n1, n2, q, x1.len, h1, hq, x1, y1, y2, h5, rfl, by unfold treeOf; rw [e]; simp [hh], fun T' => by unfold rput; rw [hh0, e]; simp⟩
theorem Spot.wr {h : H} {i : Nat} {rs : List Rt} {n : Nat} {f : Int} {d : Nat} {N : List Nat} {a b : List Rt} {tr : T Int} {ca cb : List (List V)} {v : V} {na nr nb : List Nat} {q : Nat} (s : Spot h.get i rs n f d N a b tr ca cb v na nr nb q) (wf : h.WF) :
    i < h.next ∧ q < h.next ∧ (∀ j ∈ nr, j < h.next) ∧ i ≠ q ∧ i ∉ nr ∧ q ∉ nr := by
  have nd := s.nd
  rw [s.names] at nd
  simp only [List.cons_append, List.nil_append, List.nodup_cons, List.mem_cons, List.mem_append, not_or] at nd
  exact ⟨wf.lt s.obj, wf.lt s.cells, s.rt.lt wf, nd.1.1, nd.1.2.2.1, nd.2.1.2.1⟩
/-- The spot's tree and the count are turned. -/
theorem Spot.turn {h h3 h4 : H} {i : Nat} {rs : List Rt} {n n' : Nat} {f : Int} {d : Nat} {N : List Nat} {a b : List Rt} {tr T' : T Int} {ca cb : List (List V)} {v v' : V} {na nr nb : List Nat} {q : Nat} (s : Spot h.get i rs n f d N a b tr ca cb v na nr nb q) (wf : h.WF)
    (tu : Turned f d nr h T' v' h3) (e1 : h4.get i = some (trieO (.sl q ((ca ++ rootC f d v :: cb).length * 3) 0 (ca ++ rootC f d v :: cb).length none) n')) (e2 : h4.get q = some (.grow 3 (ca ++ rootC f d v' :: cb).flatten))
    (ek : ∀ j, j ≠ i → j ≠ q → h4.get j = h3.get j) (en : h4.next = h3.next) : TTurned N h i (rput f d T' rs) n' h4 := by
  have w := s.wr wf
  have nd := s.nd
  rw [s.put, s.names]
  rw [s.names] at nd
  exact trie_turn wf w.1 rfl w.2.1 s.ra s.rb w.2.2.1 nd tu e1 e2 ek en
theorem flat_set {ca cb : List (List V)} {f : Int} {d : Nat} {v v' : V} (hs : ∀ c ∈ ca, c.length = 3) : putCells (ca ++ rootC f d v :: cb).flatten (ca.length * 3 + 2) [v'] = (ca ++ rootC f d v' :: cb).flatten := by
  have hl := flat_len hs
  have e : (ca ++ rootC f d v :: cb).flatten = ca.flatten ++ ([.int .i64 f, .int .u64 (d : Nat)] ++ ([v] ++ cb.flatten)) := by simp [rootC]
  have e2 : (ca ++ rootC f d v' :: cb).flatten = ca.flatten ++ ([.int .i64 f, .int .u64 (d : Nat)] ++ ([v'] ++ cb.flatten)) := by simp [rootC]
  rw [e, e2, putCells, ← hl]
  generalize ca.flatten = A
  simp only [List.take_append, List.drop_append, List.length_singleton]
  rw [List.take_of_length_le (by omega), List.drop_of_length_le (l := A) (by omega), Nat.add_sub_cancel_left, show A.length + 2 + 1 - A.length = 3 by omega]
  simp
theorem roots_append {h : H} {rv x : V} {cs : List (List V)} {qs : List Nat} {e : List V} (hv : RootsV h.get rv cs qs) (hs : ∀ c ∈ cs, c.length = 3) (hb : cs.length < 1000000) (hx : elemsV h.get 3 x = some (1, e)) (h1 : e.all V.one = true) (he : e.length = 3) (wf : h.WF) :
    ∃ q dd, appendV h.get h.next 3 24 rv x = some (.sl q ((cs.length + 1) * 3) 0 (cs.length + 1) none, dd) ∧ (h.app dd).get q = some (.grow 3 (cs.flatten ++ e)) ∧ ((qs = [] ∧ q = h.next) ∨ qs = [q]) ∧ h.next ≤ (h.app dd).next ∧ (∀ j, j ≠ q → (h.app dd).get j = h.get j) ∧ (h.app dd).WF := by
  rcases hv with ⟨rfl, rfl, rfl⟩ | ⟨q, hne, rfl, hq, rfl⟩
  · exact ⟨h.next, _, by rw [appendV_nil hx (by omega) h1 (by omega) (by omega) (by omega)]; rfl, by simp, .inl ⟨rfl, rfl⟩, by simp, fun j hj => by rw [app_push, H.get_push, if_neg hj], by rw [app_push]; exact wf.push _⟩
  · have hl := flat_len hs
    refine ⟨q, _, by rw [appendV_grow hq hl rfl hx (by omega) h1 (by omega) (by omega) (by omega), Nat.add_mul], by simp, .inr rfl, by simp, fun j hj => by rw [app_set, H.get_set, if_neg hj], by rw [app_set]; exact wf.set (wf.lt hq) _⟩
/-- A root made. -/
theorem spot_fresh {h H : H} {i : Nat} {rs : List Rt} {n : Nat} {f : Int} {d : Nat} {rv : V} {cs : List (List V)} {qs ms : List Nat} {q : Nat} (wf : h.WF) (o : RsOk rs) (hi : i < h.next) (h2 : RootsV h.get rv cs qs) (h3 : RootsAt h.get rs cs ms) (h5 : (i :: (qs ++ ms)).Nodup) (hh : rhas f d rs = false)
    (hq : (qs = [] ∧ h.next ≤ q) ∨ qs = [q]) (e1 : H.get i = some (trieO (.sl q ((cs.length + 1) * 3) 0 (cs.length + 1) none) n)) (e2 : H.get q = some (.grow 3 (cs.take (rix f d rs) ++ rootC f d .nilptr :: cs.drop (rix f d rs)).flatten))
    (ek : ∀ j, j < h.next → j ≠ i → j ≠ q → H.get j = h.get j) :
    ∃ N a b tr ca cb v na nr nb, Spot H.get i rs n f d N a b tr ca cb v na nr nb q ∧ ∀ j ∈ N, j ∈ i :: (qs ++ ms) ∨ h.next ≤ j := by
  have hl := h3.len
  have hrl : rix f d rs ≤ rs.length := (List.takeWhile_prefix (rlow f d)).length_le
  have h3' := h3
  rw [rs_split f d rs] at h3'
  obtain ⟨ca, cb, na, nb, rfl, rfl, x1, x2⟩ := RootsAt.app.1 h3'
  have hca : ca.length = rix f d rs := x1.len
  have t1 : (ca ++ cb).take (rix f d rs) = ca := by rw [← hca]; simp
  have t2 : (ca ++ cb).drop (rix f d rs) = cb := by rw [← hca]; simp
  rw [t1, t2] at e2
  have qn : q ≠ i ∧ q ∉ na ∧ q ∉ nb := by
    rcases hq with ⟨_, hq⟩ | rfl
    · refine ⟨by omega, fun hm => ?_, fun hm => ?_⟩
      · obtain ⟨o, ho⟩ := x1.live q hm; have := wf.lt ho; omega
      · obtain ⟨o, ho⟩ := x2.live q hm; have := wf.lt ho; omega
    · simp only [List.cons_append, List.nil_append, List.nodup_cons, List.mem_cons, List.mem_append, not_or] at h5
      exact ⟨fun e => h5.1.1 e.symm, h5.2.1.1, h5.2.1.2⟩
  have nd2 : (i :: (na ++ nb)).Nodup := by
    rcases hq with ⟨rfl, _⟩ | rfl
    · exact h5
    · simp only [List.cons_append, List.nil_append, List.nodup_cons, List.mem_cons, List.mem_append, not_or] at h5 ⊢
      exact ⟨h5.1.2, h5.2.2⟩
  have lt1 : ∀ j ∈ na, j < h.next := fun j hj => by obtain ⟨o, ho⟩ := x1.live j hj; exact wf.lt ho
  have lt2 : ∀ j ∈ nb, j < h.next := fun j hj => by obtain ⟨o, ho⟩ := x2.live j hj; exact wf.lt ho
  obtain ⟨z1, z2⟩ := List.nodup_cons.1 nd2
  have el : (ca ++ rootC f d .nilptr :: cb).length = (ca ++ cb).length + 1 := by simp; omega
  refine ⟨i :: ([q] ++ (na ++ ([] ++ nb))), rs.takeWhile (rlow f d), rs.dropWhile (rlow f d), .nil, ca, cb, .nilptr, na, [], nb, ⟨hca, by rw [el]; exact e1, e2, x1.keep fun j hj => ?_, ⟨rfl, rfl⟩, x2.keep fun j hj => ?_, ?_, rfl, (treeOf_none hh).symm, fun T' => by unfold rput; rw [hh]; simp⟩, fun j hj => ?_⟩
  · exact ek j (lt1 j hj) (fun e => z1 (by simp [← e, hj])) (fun e => qn.2.1 (e ▸ hj))
  · exact ek j (lt2 j hj) (fun e => z1 (by simp [← e, hj])) (fun e => qn.2.2 (e ▸ hj))
  · simp only [List.cons_append, List.nil_append, List.nodup_cons, List.mem_cons, List.mem_append, not_or] at nd2 ⊢
    exact ⟨⟨fun e => qn.1 e.symm, nd2.1⟩, ⟨qn.2.1, qn.2.2⟩, nd2.2⟩
  · simp only [List.cons_append, List.nil_append, List.mem_cons, List.mem_append] at hj ⊢
    rcases hj with hj | hj | hj | hj
    · exact .inl (.inl hj)
    · rcases hq with ⟨_, hq⟩ | rfl
      · exact .inr (by omega)
      · exact .inl (.inr (.inl (by simp [hj])))
    · exact .inl (.inr (.inr (.inl hj)))
    · exact .inl (.inr (.inr (.inr hj)))
theorem slice_from {q n m k : Nat} (hk : k < m) : sliceSlV 3 (some (.int .i64 (k : Nat))) none none (.sl q n 0 m none) = some (.sl q n (k * 3) (m - k) none) := by
  have h1 : k ≤ m := by omega
  simp [sliceSlV, boundV, h1, hk]
theorem slice_end {q n m : Nat} : sliceSlV 3 (some (.int .i64 (m : Nat))) none none (.sl q n 0 m none) = some .slz := by
  simp [sliceSlV, boundV]
theorem copy_shift {g : Nat → Option O} {q : Nat} {ca cb : List (List V)} {z : List V} (ha : ∀ c ∈ ca, c.length = 3) (hb : ∀ c ∈ cb, c.length = 3) (h1 : ∀ c ∈ cb, c.all V.one = true) (hz : z.length = 3) (hne : cb ≠ []) (hq : g q = some (.grow 3 (ca.flatten ++ cb.flatten ++ z))) :
    ∃ w, w.length = 3 ∧ copyV g 3 (.sl q ((ca.length + cb.length + 1) * 3) ((ca.length + 1) * 3) (cb.length) none) (.sl q ((ca.length + cb.length + 1) * 3) (ca.length * 3) (cb.length + 1) none) = some (.int .i64 (cb.length : Nat), .set q (.grow 3 (ca.flatten ++ (w ++ cb.flatten)))) := by
  have la := flat_len ha
  have lb := flat_len hb
  have hb0 : 0 < cb.length := List.length_pos_iff.2 hne
  have one : cb.flatten.all V.one = true := by
    rw [List.all_eq_true]
    intro v hv
    obtain ⟨c, hc, hv⟩ := List.mem_flatten.1 hv
    exact List.all_eq_true.1 (h1 c hc) v hv
  generalize ca.flatten = A at *
  generalize cb.flatten = B at *
  have len : (A ++ B ++ z).length = (ca.length + cb.length + 1) * 3 := by simp [la, lb, hz]; omega
  refine ⟨(B ++ z).take 3, by simp [lb, hz], ?_⟩
  have el : elemsV g 3 (.sl q ((ca.length + cb.length + 1) * 3) (ca.length * 3) (cb.length + 1) none) = some (cb.length + 1, B ++ z) := by
    rw [elemsV_sl, if_neg (by omega), cellsAt_of hq (by rw [len_grow, len])]
    simp only [cells_grow]
    rw [if_pos (by rw [len]; omega), ← la, List.append_assoc, List.drop_left, List.take_of_length_le (by simp [lb, hz]; omega)]
  unfold copyV
  rw [el]
  simp only
  rw [if_neg (by omega), show min (cb.length + 1) cb.length = cb.length by omega]
  have tk : (B ++ z).take (cb.length * 3) = B := by rw [List.take_append_of_le_length (by omega), List.take_of_length_le (by omega)]
  rw [tk, one, hq]
  simp only [if_true, len_grow, len, put_grow]
  rw [if_pos (by omega)]
  simp only [Option.map_some, putCells]
  have e1 : (A ++ B ++ z).take ((ca.length + 1) * 3) = A ++ (B ++ z).take 3 := by
    rw [List.append_assoc, List.take_append, List.take_of_length_le (by omega), la, show (ca.length + 1) * 3 - ca.length * 3 = 3 by omega]
  have e2 : (A ++ B ++ z).drop ((ca.length + 1) * 3 + B.length) = [] := List.drop_of_length_le (by rw [len, lb]; omega)
  rw [e1, e2]
  simp
theorem put_root {ca cb : List (List V)} {w : List V} {f : Int} {d : Nat} {v : V} (ha : ∀ c ∈ ca, c.length = 3) (hw : w.length = 3) : putCells (ca.flatten ++ (w ++ cb.flatten)) (ca.length * 3) (rootC f d v) = (ca ++ rootC f d v :: cb).flatten := by
  have la := flat_len ha
  rw [List.flatten_append, List.flatten_cons]
  generalize ca.flatten = A at *
  simp only [putCells, ← la, rootC, List.length_cons, List.length_nil]
  rw [List.take_append_of_le_length (Nat.le_refl _), List.take_of_length_le (Nat.le_refl _), List.drop_append, List.drop_of_length_le (by omega), List.nil_append, show A.length + (0 + 1 + 1 + 1) - A.length = 3 by omega, List.drop_append, List.drop_of_length_le (by omega), hw]
  simp
end Go.Am

/-
  Set.
-/
namespace Go.Am
open Go.Proofs

set_option maxRecDepth 100000
theorem acall_rel {P : Program} {F : List Nat} {K : Tm → H → Prop} {d : Option Nat} {m : Nat} {is : List (SI × Nat)} {t : Tm} {h : H} {g : FuncId} {first cap args : List V} {Q' : V → H → Prop} (hm : m ≠ 2) (sat : ∃ v h', Q' v h') (c : Acalls P g (first ++ args ++ cap) h Q')
    (k : ∀ v h', Q' v h' → (m = 1 → Keep F h h') ∧ Awp P F K is (t.put d v) h') : acallK P F K d m is t h (.func (.func g) first cap) args := ⟨hm, Q', sat, c, k⟩
theorem TTurned.up {ns N : List Nat} {h h1 h2 h4 : H} {i : Nat} {rs : List Rt} {n : Nat} (g : Ge h h1) (o : Out ns h1 h2) (hN : ∀ j ∈ N, j ∈ ns ∨ h1.next ≤ j) (t : TTurned N h2 i rs n h4) : TTurned ns h i rs n h4 := by
  obtain ⟨⟨ns', a, b⟩, c, w⟩ := t
  have g1 := g.1
  have n1 := o.next
  exact ⟨⟨ns', a, fun j hj => by
    rcases b j hj with h1 | h1
    · exact (hN j h1).imp id fun h => by omega
    · exact .inr (by omega)⟩, ((g.out _).trans (o.trans c hN) fun j hj => .inl hj), w⟩
theorem Spot.top {g : Nat → Option O} {i : Nat} {rs : List Rt} {n : Nat} {f : Int} {d : Nat} {N : List Nat} {a b : List Rt} {tr : T Int} {ca cb : List (List V)} {v : V} {na nr nb : List Nat} {q : Nat} (s : Spot g i rs n f d N a b tr ca cb v na nr nb q) :
    (ca ++ rootC f d v :: cb).flatten.length = (ca ++ rootC f d v :: cb).length * 3 ∧ rix f d rs < (ca ++ rootC f d v :: cb).length ∧ (ca ++ rootC f d v :: cb).flatten[rix f d rs * 3 + 2]? = some v := by
  refine ⟨flat_len s.sizes, by rw [← s.len]; simp, ?_⟩
  have hl := flat_len s.ra.size
  rw [← s.len, ← hl, List.flatten_append, List.flatten_cons, List.getElem?_append_right (by omega), Nat.add_sub_cancel_left]
  rfl
theorem setno_ct {h : H} {i : Nat} {rv : V} {n : Nat} (hi : h.get i = some (trieO rv n)) {p : Pfx} (hp : mayP p = false) (x : Int) : Pure Tryd.prog 9 [.ptr i 3 0, .agg (pfxC p), .int .i64 x] h (.int .i64 2) := by
  refine pure_to Tryd.func9 S.trie_Trie_int_Set_code S.trie_Trie_int_Set_enter rfl (Nat.le_of_ble_eq_true rfl) fun wf => ?_; simp only [S.trie_Trie_int_Set]
  have hlt := wf.lt hi
  simp only [pfxC]
  simp
  refine none_ct (n := n) (rv := rv) (by rw [H.get_push, if_neg (by omega)]; exact hi) _ ?_
  simp
  refine pcheck_ct (p := p) _ ?_
  simp [hp]
/-- A value set in a trie. -/
theorem tset_ct {h : H} {i : Nat} {rs : List Rt} {n : Nat} {ns : List Nat} (o : RsOk rs) (ta : TrieAt h i rs n ns) (hb : rs.length < 1000000) (hn : n < 1000000000) {p : Pfx} (hp : mayP p = true) (x : Int) :
    Acalls Tryd.prog 9 [.ptr i 3 0, .agg (pfxC p), .int .i64 x] h fun u h' => u = .int .i64 0 ∧
      TTurned ns h i (rput p.fam p.rd (T.set (kOf p) x (treeOf p.fam p.rd rs)).1 rs) (n + if (T.set (kOf p) x (treeOf p.fam p.rd rs)).2 = true then 1 else 0) h' := by
  refine acalls_to Tryd.func9 S.trie_Trie_int_Set_code S.trie_Trie_int_Set_enter (Nat.le_of_ble_eq_true rfl) fun wf => ?_; simp only [S.trie_Trie_int_Set]
  obtain ⟨ep, kB⟩ := may_pk hp
  obtain ⟨x1, _, _, _, x5, _⟩ := may_parts hp
  have ta0 := ta
  obtain ⟨rv, cs, qs, ms, a1, a2, a3, rfl, a5⟩ := ta
  have hlt := wf.lt a1
  have tlt := ta0.lt wf
  have hcl := a3.len
  obtain ⟨h1, hh1⟩ : ∃ h1, h1 = h.push (.row (pfxC p)) := ⟨_, rfl⟩
  have g1 : Ge h h1 := by rw [hh1]; exact (Ge.refl _).push _
  have w1 : h1.WF := by rw [hh1]; exact wf.push _
  have nx1 : h1.next = h.next + 1 := by rw [hh1]; simp
  have b1 : h1.get h.next = some (.row (pfxC p)) := by rw [hh1]; simp
  have ta1 : TrieAt h1 i rs n (i :: (qs ++ ms)) := ta0.keep fun j hj => g1.2 j (tlt j hj)
  have i1 : h1.get i = some (trieO rv n) := (g1.2 i hlt).trans a1
  have v1 : RootsV h1.get rv cs qs := by
    rcases a2 with ⟨e1, e2, rfl⟩ | ⟨q, e0, e1, hq, rfl⟩
    · exact .inl ⟨e1, e2, rfl⟩
    · exact .inr ⟨q, e0, e1, by rw [g1.2 q (wf.lt hq)]; exact hq, rfl⟩
  have r1 : RootsAt h1.get rs cs ms := a3.keep fun j hj => g1.2 j (tlt j (by simp [hj]))
  have c1 : cellsAt h1.get h.next 4 = some (pfxC p) := by rw [cellsAt_of b1 (by rfl)]; rfl
  simp only [pfxC] at hh1 b1 c1 ⊢
  simp
  rw [← hh1]
  refine none_ct i1 _ ?_
  simp [c1]
  refine pcheck_ct (p := p) _ ?_
  simp [hp, c1]
  refine root_ct (p := p) i1 v1 r1 (by omega) _ ?_
  simp
  have ci1 : cellsAt h1.get i 3 = some [.bool true, rv, .int .i64 (n : Nat)] := by rw [cellsAt_of i1 (by rfl)]; rfl
  have hix : rix p.fam p.rd rs ≤ rs.length := (List.takeWhile_prefix (rlow p.fam p.rd)).length_le
  obtain ⟨ix, hixe⟩ : ∃ ix, ix = rix p.fam p.rd rs := ⟨_, rfl⟩
  rw [← hixe] at hix ⊢
  refine cond_cut (fun t' H => (t' 0 = .ptr i 3 0 ∧ t' 2 = .int .i64 x ∧ t' 4 = .ptr h.next 4 0 ∧ t' 8 = .int .i64 (ix : Nat)) ∧ H.WF ∧ H.get h.next = some (.row (pfxC p)) ∧ Out (i :: (qs ++ ms)) h1 H ∧
    ∃ N a b tr ca cb v na nr nb q, Spot H.get i rs n p.fam p.rd N a b tr ca cb v na nr nb q ∧ ∀ j ∈ N, j ∈ i :: (qs ++ ms) ∨ h1.next ≤ j) ?_ ?_ ?_
  · intro hnf R hR
    have hnf : rhas p.fam p.rd rs = false := by simpa using hnf
    obtain ⟨h2, hh2⟩ : ∃ h2, h2 = h1.push (.row [.int .i64 0, .int .u64 0, .nilptr]) := ⟨_, rfl⟩
    have g2 : Ge h1 h2 := by rw [hh2]; exact (Ge.refl _).push _
    have w2 : h2.WF := by rw [hh2]; exact w1.push _
    have nx2 : h2.next = h1.next + 1 := by rw [hh2]; simp
    have v2 : RootsV h2.get rv cs qs := by
      rcases v1 with ⟨e1, e2, rfl⟩ | ⟨q, e0, e1, hq, rfl⟩
      · exact .inl ⟨e1, e2, rfl⟩
      · exact .inr ⟨q, e0, e1, by rw [g2.2 q (w1.lt hq)]; exact hq, rfl⟩
    have el : elemsV h2.get 3 (.sl h1.next 3 0 1 (some 1)) = some (1, [.int .i64 0, .int .u64 0, .nilptr]) := by rw [hh2]; simp [elemsV_sl]
    obtain ⟨q, dd, A1, A2, A3, A4, A5, A6⟩ := roots_append v2 a3.size (by omega) el (by decide) (by rfl) w2
    obtain ⟨h3, hh3⟩ : ∃ h3, h3 = h2.app dd := ⟨_, rfl⟩
    rw [← hh3] at A2 A4 A5 A6
    have hqi : i ≠ q := fun e => by
      rcases A3 with ⟨_, rfl⟩ | rfl
      · omega
      · simp [← e] at a5
    have i3 : h3.get i = some (trieO rv n) := (A5 i hqi).trans ((g2.2 i (w1.lt i1)).trans i1)
    have B3 := i3
    rw [hh3, hh2] at B3
    have A1' := A1
    rw [hh2] at A1'
    simp only [H.next_push] at A1'
    simp only [trieO] at B3
    have so : ∀ a b c d e, (V.sl a b c d e).solid = true := fun _ _ _ _ _ => rfl
    simp [ci1, A1', B3, so]
    rw [← hh2, ← hh3]
    obtain ⟨h4, hh4⟩ : ∃ h4, h4 = h3.set i (.row [.bool true, .sl q ((cs.length + 1) * 3) 0 (cs.length + 1) none, .int .i64 (n : Nat)]) := ⟨_, rfl⟩
    rw [← hh4]
    have hi3 : i < h3.next := A6.lt i3
    have w4 : h4.WF := by rw [hh4]; exact A6.set hi3 _
    have i4 : h4.get i = some (trieO (.sl q ((cs.length + 1) * 3) 0 (cs.length + 1) none) n) := by rw [hh4]; simp [trieO]
    have q4 : h4.get q = some (.grow 3 (cs.flatten ++ [.int .i64 0, .int .u64 0, .nilptr])) := by rw [hh4, H.get_set, if_neg (fun e => hqi e.symm)]; exact A2
    have k4 : ∀ j, j < h1.next → j ≠ i → j ≠ q → h4.get j = h1.get j := fun j a b c => by rw [hh4, H.get_set, if_neg b, A5 j c, g2.2 j a]
    have nx4 : h1.next ≤ h4.next := by rw [hh4]; simp only [H.next_set]; omega
    have ci4 : cellsAt h4.get i 3 = some [.bool true, .sl q ((cs.length + 1) * 3) 0 (cs.length + 1) none, .int .i64 (n : Nat)] := by rw [cellsAt_of i4 (by rfl)]; rfl
    have hA3 : (qs = [] ∧ h1.next ≤ q) ∨ qs = [q] := A3.imp (fun h => ⟨h.1, by omega⟩) id
    have hqb : q ≠ h.next := fun e => by
      rcases hA3 with ⟨_, h⟩ | rfl
      · omega
      · have := tlt q (by simp); omega
    have b4 : h4.get h.next = some (.row (pfxC p)) := by rw [k4 h.next (by omega) (by omega) (fun e => hqb e.symm)]; exact b1
    have cb4 : cellsAt h4.get h.next 4 = some (pfxC p) := by rw [cellsAt_of b4 (by rfl)]; rfl
    obtain ⟨ca, cb, hcab, hca⟩ : ∃ ca cb, cs = ca ++ cb ∧ ca.length = ix := ⟨cs.take ix, cs.drop ix, (List.take_append_drop ix cs).symm, by simp; omega⟩
    have za : ∀ c ∈ ca, c.length = 3 := fun c hc => a3.size c (by rw [hcab]; simp [hc])
    have zb : ∀ c ∈ cb, c.length = 3 := fun c hc => a3.size c (by rw [hcab]; simp [hc])
    have ob : ∀ c ∈ cb, c.all V.one = true := fun c hc => a3.all_one c (by rw [hcab]; simp [hc])
    have hml : cs.length = ca.length + cb.length := by rw [hcab]; simp
    have wix : IntKind.i64.wrap ((ix : Int) + 1) = ((ix + 1 : Nat) : Int) := by rw [wrap_i64_id (by omega) (by omega)]; omega
    have s2 := slice_from (q := q) (n := (cs.length + 1) * 3) (show ix < cs.length + 1 by omega)
    have fin : ∀ (t' : Tm) (H : H) (w : List V), w.length = 3 → (t' 0 = .ptr i 3 0 ∧ t' 2 = .int .i64 x ∧ t' 4 = .ptr h.next 4 0 ∧ t' 8 = .int .i64 (ix : Nat)) → H.next = h4.next → H.get q = some (.grow 3 (ca ++ rootC p.fam p.rd .nilptr :: cb).flatten) → (∀ j, j ≠ q → H.get j = h4.get j) → R .normal t' H := by
      intro t' H w hw ht hn hq hk
      have hiN : i < h1.next := w1.lt i1
      obtain ⟨N, a, b, tr, ca', cb', v, na, nr, nb, S, hN⟩ := spot_fresh (H := H) w1 o hiN v1 r1 a5 hnf hA3 ((hk i hqi).trans i4) (by rw [hq, hcab, ← hixe, ← hca]; simp) (fun j a b c => by rw [hk j c]; exact k4 j a b c)
      have hqlt : q < h4.next := w4.lt q4
      refine hR _ _ ⟨ht, fun j hj => by rw [hk j (by omega)]; exact w4 j (by omega), by rw [hk _ (fun e => hqb e.symm)]; exact b4, ⟨by omega, fun j hj hn => ?_⟩, N, a, b, tr, ca', cb', v, na, nr, nb, q, S, hN⟩
      have hjq : j ≠ q := fun e => by
        subst e
        rcases hA3 with ⟨_, h⟩ | rfl
        · omega
        · simp at hn
      rw [hk j hjq, k4 j hj (fun e => hn (by simp [e])) hjq]
    rw [show cs.length + 1 - ix = cb.length + 1 by omega] at s2
    refine dreg_of ?_
    simp [ci4, wix]
    have len3 : ∀ w : List V, w.length = 3 → (ca.flatten ++ (w ++ cb.flatten)).length = (cs.length + 1) * 3 := fun w hw => by
      have := flat_len za
      have := flat_len zb
      simp only [List.length_append, hw]; omega
    have done : ∀ (t' : Tm) (H : H) (w : List V), w.length = 3 → (t' 0 = .ptr i 3 0 ∧ t' 2 = .int .i64 x ∧ t' 4 = .ptr h.next 4 0 ∧ t' 8 = .int .i64 (ix : Nat)) → H.next = h4.next → (∀ j, j ≠ q → H.get j = h4.get j) → R .normal t' (H.set q (.grow 3 (putCells (ca.flatten ++ (w ++ cb.flatten)) (ix * 3) (rootC p.fam p.rd .nilptr)))) := by
      intro t' H w hw ht hn hk
      refine fin t' _ w hw ht (by simpa using hn) ?_ (fun j hj => by rw [H.get_set, if_neg hj, hk j hj])
      rw [H.get_set, if_pos rfl, ← hca, put_root za hw]
    have cix : ((ix + 1 : Nat) : Int) = (ix : Int) + 1 := by omega
    by_cases hlast : cb = []
    · have s1 := slice_end (q := q) (n := (cs.length + 1) * 3) (m := cs.length + 1)
      have e1 : cs.length = ix := by rw [hml, hlast]; simp; omega
      rw [show ((cs.length + 1 : Nat) : Int) = (ix : Int) + 1 by omega] at s1
      have cp : copyV h4.get 3 .slz (.sl q ((cs.length + 1) * 3) (ix * 3) (cb.length + 1) none) = some (.int .i64 0, .keep) := by
        have el : elemsV h4.get 3 (.sl q ((cs.length + 1) * 3) (ix * 3) (cb.length + 1) none) = some (1, [.int .i64 0, .int .u64 0, .nilptr]) := by
          have lf := flat_len a3.size
          rw [elemsV_sl, if_neg (by omega), cellsAt_of q4 (by simp only [len_grow, List.length_append, lf, List.length_cons, List.length_nil]; omega)]
          simp only [cells_grow, List.length_append, lf, List.length_cons, List.length_nil, hlast]
          rw [if_pos (by omega), ← e1, ← lf, List.drop_left]
          rfl
        unfold copyV
        rw [el]
      have q4' : h4.get q = some (.grow 3 (ca.flatten ++ ([.int .i64 0, .int .u64 0, .nilptr] ++ cb.flatten))) := by rw [q4, hcab, hlast]; simp
      have d0 := done
      simp [s1, ci4, s2, cp]
      have q5 := q4'
      have ci5 := ci4
      have cb5 := cb4
      simp only [pfxC] at cb5
      have d0 := fun t' H => done t' H [.int .i64 0, .int .u64 0, .nilptr] rfl
      obtain ⟨L, hL⟩ : ∃ L, L = ca.flatten ++ ([.int .i64 0, .int .u64 0, .nilptr] ++ cb.flatten) := ⟨_, rfl⟩
      have hLl : L.length = (cs.length + 1) * 3 := by rw [hL]; exact len3 _ rfl
      have pc : putCells L (ix * 3) (rootC p.fam p.rd .nilptr) = L.take (ix * 3) ++ .int .i64 p.fam :: .int .u64 (p.rd : Nat) :: .nilptr :: L.drop (ix * 3 + 3) := by simp [putCells, rootC]
      rw [← hL] at q5
      simp only [← hL, pc] at d0
      have ixl : (ix : Int) < (cs.length : Int) + 1 := by omega
      have ixl2 : ix * 3 + 3 ≤ (cs.length + 1) * 3 := by omega
      refine dreg_of ?_
      simp [ci5, cb5, q5, hLl, ixl, ixl2]
      refine d0 _ h4 ?_ rfl (fun _ _ => rfl)
      simp
    · have hcb0 : 0 < cb.length := List.length_pos_iff.2 hlast
      have s1 := slice_from (q := q) (n := (cs.length + 1) * 3) (show ix + 1 < cs.length + 1 by omega)
      obtain ⟨w, hw, cp⟩ := copy_shift (g := h4.get) (q := q) za zb ob (show [V.int .i64 0, V.int .u64 0, V.nilptr].length = 3 by rfl) hlast (by rw [q4, hcab]; simp)
      rw [show cs.length + 1 - (ix + 1) = cb.length by omega, cix] at s1
      rw [hca, show ix + cb.length + 1 = cs.length + 1 by omega] at cp
      have l3 := len3 w hw
      simp [s1, ci4, s2, cp]
      obtain ⟨h5, hh5⟩ : ∃ h5, h5 = h4.set q (.grow 3 (ca.flatten ++ (w ++ cb.flatten))) := ⟨_, rfl⟩
      have k5 : ∀ j, j ≠ q → h5.get j = h4.get j := fun j hj => by rw [hh5, H.get_set, if_neg hj]
      have q5 : h5.get q = some (.grow 3 (ca.flatten ++ (w ++ cb.flatten))) := by rw [hh5]; simp
      have ci5 : cellsAt h5.get i 3 = some [.bool true, .sl q ((cs.length + 1) * 3) 0 (cs.length + 1) none, .int .i64 (n : Nat)] := by rw [cellsAt_of ((k5 i hqi).trans i4) (by rfl)]; rfl
      have cb5 : cellsAt h5.get h.next 4 = some (pfxC p) := by rw [cellsAt_of ((k5 _ (fun e => hqb e.symm)).trans b4) (by rfl)]; rfl
      simp only [pfxC] at cb5
      have n5 : h5.next = h4.next := by rw [hh5]; simp
      rw [← hh5]
      have d0 := fun t' H => done t' H w hw
      obtain ⟨L, hL⟩ : ∃ L, L = ca.flatten ++ (w ++ cb.flatten) := ⟨_, rfl⟩
      have hLl : L.length = (cs.length + 1) * 3 := by rw [hL]; exact len3 _ hw
      have pc : putCells L (ix * 3) (rootC p.fam p.rd .nilptr) = L.take (ix * 3) ++ .int .i64 p.fam :: .int .u64 (p.rd : Nat) :: .nilptr :: L.drop (ix * 3 + 3) := by simp [putCells, rootC]
      rw [← hL] at q5
      simp only [← hL, pc] at d0
      have ixl : (ix : Int) < (cs.length : Int) + 1 := by omega
      have ixl2 : ix * 3 + 3 ≤ (cs.length + 1) * 3 := by omega
      refine dreg_of ?_
      simp [ci5, cb5, q5, hLl, ixl, ixl2]
      refine d0 _ h5 ?_ n5 k5
      simp
  · intro hf R hR
    have hf : rhas p.fam p.rd rs = true := by simpa using hf
    obtain ⟨a, b, tr, ca, cb, v, na, nr, nb, q, S⟩ := spot_found o ta1 hf
    simp
    exact hR _ _ ⟨by simp, w1, b1, Out.refl _ _, _, a, b, tr, ca, cb, v, na, nr, nb, q, S, fun j hj => .inl hj⟩
  · rintro t' H ⟨⟨t0, t2, t4, t8⟩, wH, bH, oH, N, a, b, tr, ca, cb, v, na, nr, nb, q, S, hN⟩
    obtain ⟨iH, qH, lnr, iq, inr, qnr⟩ := S.wr wH
    obtain ⟨l1, l2, l3⟩ := S.top
    rw [← hixe] at l2 l3
    have qc := S.cells
    have ic := S.obj
    obtain ⟨m, hm⟩ : ∃ m, m = (ca ++ rootC p.fam p.rd v :: cb).length := ⟨_, rfl⟩
    obtain ⟨L, hL⟩ : ∃ L, L = (ca ++ rootC p.fam p.rd v :: cb).flatten := ⟨_, rfl⟩
    rw [← hm, ← hL] at l1
    rw [← hm] at l2 ic
    rw [← hL] at l3 qc
    have cbH : cellsAt H.get h.next 4 = some (pfxC p) := by rw [cellsAt_of bH (by rfl)]; rfl
    have ciH : cellsAt H.get i 3 = some [.bool true, .sl q (m * 3) 0 m none, .int .i64 (n : Nat)] := by rw [cellsAt_of ic (by rfl)]; rfl
    have cqH : cellsAt H.get q (m * 3) = some L := by rw [cellsAt_of qc (by rw [len_grow, l1])]; rfl
    simp only [pfxC] at cbH
    have sc := set_ct x1 x5 (p := kOf p) kB x tr [] v nr H (S.tree ▸ treeOf_ok o p.fam p.rd) S.rt (by
      have nd := S.nd
      rw [S.names] at nd
      simp only [List.cons_append, List.nil_append, List.nodup_cons] at nd
      exact (List.nodup_append.1 (List.nodup_append.1 nd.2.2).2.1).1)
    rw [← ep] at sc
    simp only [pfxC] at sc
    simp
    refine dreg_awp [i] [0, 0, 0, 2, 0, 0, 0, 0, 0, 0, 0, 0, 0, 0, 0, 1, 0, 0, 0, 0, 0, 0, 0] (by rfl) (by rfl) ?_
    simp [t0, t2, t4, t8, ciH, cbH, cqH, l2, l3, I.foot, refOf]
    refine acall_rel (by decide) (turned_make nr H wH (T.set (kOf p) x tr).1 |>.elim fun v e => e.elim fun h' e => ⟨.tup [v, .bool (T.set (kOf p) x tr).2], h', v, rfl, e⟩) sc ?_
    rintro _ h3 ⟨v', rfl, tu⟩
    refine ⟨fun _ j hj => by rw [List.mem_singleton] at hj; subst hj; exact tu.out.keep j iH inr, ?_⟩
    have q3 : h3.get q = some (.grow 3 L) := (tu.out.keep q qH qnr).trans qc
    have i3 : h3.get i = some (trieO (.sl q (m * 3) 0 m none) n) := (tu.out.keep i iH inr).trans ic
    obtain ⟨o1, o2, o3⟩ := tu.ex.elim fun _ a => a.1.one
    have lix : ix * 3 + 2 + 1 ≤ m * 3 := by omega
    obtain ⟨L', hL'⟩ : ∃ L', L' = (ca ++ rootC p.fam p.rd v' :: cb).flatten := ⟨_, rfl⟩
    have pc : L.take (ix * 3 + 2) ++ v' :: L.drop (ix * 3 + 2 + 1) = L' := by
      rw [hL', ← flat_set (v := v) S.ra.size, ← hL, S.len, ← hixe]
      simp [putCells]
    simp [q3, l1, l2, o2, o3, lix, pc]
    obtain ⟨h4, hh4⟩ : ∃ h4, h4 = h3.set q (.grow 3 L') := ⟨_, rfl⟩
    rw [← hh4]
    have i4 : h4.get i = some (trieO (.sl q (m * 3) 0 m none) n) := by rw [hh4, Am.H.get_set, if_neg iq]; exact i3
    have q4 : h4.get q = some (.grow 3 L') := by rw [hh4]; simp
    have ci4 : cellsAt h4.get i 3 = some [.bool true, .sl q (m * 3) 0 m none, .int .i64 (n : Nat)] := by rw [cellsAt_of i4 (by rfl)]; rfl
    have tre := S.tree
    cases hfr : (T.set (kOf p) x tr).2 with
    | false =>
      simp
      rw [← tre, hfr]
      refine (S.turn wH tu (n' := n) (by rw [← hm]; exact i4) (by rw [q4, hL']) (fun j a b => by rw [hh4, Am.H.get_set, if_neg b]) (by rw [hh4]; simp)).up g1 oH hN
    | true =>
      have wn : IntKind.i64.wrap ((n : Int) + 1) = ((n + 1 : Nat) : Int) := by rw [wrap_i64_id (by omega) (by omega)]; omega
      simp only [trieO] at i4
      simp [t0, ci4, wn, i4]
      rw [← tre, hfr]
      refine (S.turn wH tu (h4 := h4.set i (trieO (.sl q (m * 3) 0 m none) (n + 1))) (n' := n + 1) (by rw [← hm]; simp) (by rw [Am.H.get_set, if_neg (fun e => iq e.symm), q4, hL']) (fun j a b => by rw [Am.H.get_set, if_neg a, hh4, Am.H.get_set, if_neg b]) (by rw [hh4]; simp)).up g1 oH hN
end Go.Am

/-
  Del, Len, New.
-/
namespace Go.Am
open Go.Proofs

set_option maxRecDepth 100000
theorem len_ct {h : H} {i : Nat} {rv : V} {n : Nat} (hi : h.get i = some (trieO rv n)) : Pure Tryd.prog 17 [.ptr i 3 0] h (.int .i64 (n : Nat)) := by
  refine pure_to Tryd.func17 S.trie_Trie_int_Len_code S.trie_Trie_int_Len_enter rfl (Nat.le_of_ble_eq_true rfl) fun wf => ?_; simp only [S.trie_Trie_int_Len]
  have c0 : cellsAt h.get i 3 = some [.bool true, rv, .int .i64 (n : Nat)] := by rw [cellsAt_of hi (by rfl)]; rfl
  simp
  refine none_ct hi _ ?_
  simp [c0]
theorem new_ct {h : H} {Q : V → H → Prop} (q : h.WF → TrieAt (h.push (trieO .nilsl 0)) h.next [] 0 [h.next] → Q (.ptr h.next 3 0) (h.push (trieO .nilsl 0))) : Acalls Tryd.prog 8 [] h Q := by
  refine acalls_to Tryd.func8 S.trie_New_int_code S.trie_New_int_enter (Nat.le_of_ble_eq_true rfl) fun wf => ?_; simp only [S.trie_New_int]
  simp
  exact q wf ⟨.nilsl, [], [], [], by simp [trieO], .inl ⟨rfl, rfl, rfl⟩, ⟨rfl, rfl⟩, rfl, by simp⟩
/-- A prefix's value taken away. -/
theorem tdel_ct {h : H} {i : Nat} {rs : List Rt} {n : Nat} {ns : List Nat} (o : RsOk rs) (ta : TrieAt h i rs n ns) (hb : rs.length ≤ 1000000) (hn : n < 1000000000) {p : Pfx} (hp : mayP p = true) (hg : (T.del (kOf p) (treeOf p.fam p.rd rs)).2 = true → 0 < n) :
    Acalls Tryd.prog 20 [.ptr i 3 0, .agg (pfxC p)] h fun u h' => u = .bool (T.del (kOf p) (treeOf p.fam p.rd rs)).2 ∧
      TTurned ns h i (if rhas p.fam p.rd rs = true then rput p.fam p.rd (T.del (kOf p) (treeOf p.fam p.rd rs)).1 rs else rs) (n - if (T.del (kOf p) (treeOf p.fam p.rd rs)).2 = true then 1 else 0) h' := by
  refine acalls_to Tryd.func20 S.trie_Trie_int_Del_code S.trie_Trie_int_Del_enter (Nat.le_of_ble_eq_true rfl) fun wf => ?_; simp only [S.trie_Trie_int_Del]
  obtain ⟨ep, kB⟩ := may_pk hp
  have ta0 := ta
  obtain ⟨rv, cs, qs, ms, a1, a2, a3, rfl, a5⟩ := ta
  have hlt := wf.lt a1
  have tlt := ta0.lt wf
  obtain ⟨h1, hh1⟩ : ∃ h1, h1 = h.push (.row (pfxC p)) := ⟨_, rfl⟩
  have g1 : Ge h h1 := by rw [hh1]; exact (Ge.refl _).push _
  have w1 : h1.WF := by rw [hh1]; exact wf.push _
  have nx1 : h1.next = h.next + 1 := by rw [hh1]; simp
  have b1 : h1.get h.next = some (.row (pfxC p)) := by rw [hh1]; simp
  have ta1 : TrieAt h1 i rs n (i :: (qs ++ ms)) := ta0.keep fun j hj => g1.2 j (tlt j hj)
  have i1 : h1.get i = some (trieO rv n) := (g1.2 i hlt).trans a1
  have v1 : RootsV h1.get rv cs qs := by
    rcases a2 with ⟨e1, e2, rfl⟩ | ⟨q, e0, e1, hq, rfl⟩
    · exact .inl ⟨e1, e2, rfl⟩
    · exact .inr ⟨q, e0, e1, by rw [g1.2 q (wf.lt hq)]; exact hq, rfl⟩
  have r1 : RootsAt h1.get rs cs ms := a3.keep fun j hj => g1.2 j (tlt j (by simp [hj]))
  have c1 : cellsAt h1.get h.next 4 = some (pfxC p) := by rw [cellsAt_of b1 (by rfl)]; rfl
  simp only [pfxC] at hh1 b1 c1 ⊢
  simp
  rw [← hh1]
  refine none_ct i1 _ ?_
  simp [c1]
  refine pcheck_ct (p := p) _ ?_
  simp [hp, c1]
  refine root_ct (p := p) i1 v1 r1 (by omega) _ ?_
  simp
  obtain ⟨ix, hixe⟩ : ∃ ix, ix = rix p.fam p.rd rs := ⟨_, rfl⟩
  rw [← hixe]
  cases hf : rhas p.fam p.rd rs with
  | false =>
    have e0 := treeOf_none hf
    rw [e0]
    simp [T.del]
    exact ⟨⟨_, ta1, fun j hj => .inl hj⟩, g1.out _, w1⟩
  | true =>
    obtain ⟨a, b, tr, ca, cb, v, na, nr, nb, q, S⟩ := spot_found o ta1 hf
    obtain ⟨iH, qH, lnr, iq, inr, qnr⟩ := S.wr w1
    obtain ⟨l1, l2, l3⟩ := S.top
    rw [← hixe] at l2 l3
    have qc := S.cells
    have ic := S.obj
    obtain ⟨m, hm⟩ : ∃ m, m = (ca ++ rootC p.fam p.rd v :: cb).length := ⟨_, rfl⟩
    obtain ⟨L, hL⟩ : ∃ L, L = (ca ++ rootC p.fam p.rd v :: cb).flatten := ⟨_, rfl⟩
    rw [← hm, ← hL] at l1
    rw [← hm] at l2 ic
    rw [← hL] at l3 qc
    have ciH : cellsAt h1.get i 3 = some [.bool true, .sl q (m * 3) 0 m none, .int .i64 (n : Nat)] := by rw [cellsAt_of ic (by rfl)]; rfl
    have cqH : cellsAt h1.get q (m * 3) = some L := by rw [cellsAt_of qc (by rw [len_grow, l1])]; rfl
    have tre := S.tree
    rw [← tre] at hg ⊢
    have sc := del_ct (p := kOf p) kB tr [] v nr h1 (by rw [tre]; exact treeOf_ok o p.fam p.rd) S.rt (by
      have nd := S.nd
      rw [S.names] at nd
      simp only [List.cons_append, List.nil_append, List.nodup_cons] at nd
      exact (List.nodup_append.1 (List.nodup_append.1 nd.2.2).2.1).1)
    rw [← ep] at sc
    simp only [pfxC] at sc
    simp
    refine dreg_of ?_
    simp [ciH, c1, cqH, l2, l3]
    refine scall_rel (turned_make nr h1 w1 (T.del (kOf p) tr).1 |>.elim fun v e => e.elim fun h' e => ⟨.tup [v, .bool (T.del (kOf p) tr).2], h', v, rfl, e⟩) sc ?_
    rintro _ h3 ⟨v', rfl, tu⟩
    have q3 : h3.get q = some (.grow 3 L) := (tu.out.keep q qH qnr).trans qc
    have i3 : h3.get i = some (trieO (.sl q (m * 3) 0 m none) n) := (tu.out.keep i iH inr).trans ic
    have ci3 : cellsAt h3.get i 3 = some [.bool true, .sl q (m * 3) 0 m none, .int .i64 (n : Nat)] := by rw [cellsAt_of i3 (by rfl)]; rfl
    obtain ⟨o1, o2, o3⟩ := tu.ex.elim fun _ a => a.1.one
    have lix : ix * 3 + 2 + 1 ≤ m * 3 := by omega
    obtain ⟨L', hL'⟩ : ∃ L', L' = (ca ++ rootC p.fam p.rd v' :: cb).flatten := ⟨_, rfl⟩
    have pc : L.take (ix * 3 + 2) ++ v' :: L.drop (ix * 3 + 2 + 1) = L' := by
      rw [hL', ← flat_set (v := v) S.ra.size, ← hL, S.len, ← hixe]
      simp [putCells]
    simp [ci3, q3, l1, l2, o2, o3, lix, pc]
    obtain ⟨h4, hh4⟩ : ∃ h4, h4 = h3.set q (.grow 3 L') := ⟨_, rfl⟩
    rw [← hh4]
    have i4 : h4.get i = some (trieO (.sl q (m * 3) 0 m none) n) := by rw [hh4, H.get_set, if_neg iq]; exact i3
    have q4 : h4.get q = some (.grow 3 L') := by rw [hh4]; simp
    have ci4 : cellsAt h4.get i 3 = some [.bool true, .sl q (m * 3) 0 m none, .int .i64 (n : Nat)] := by rw [cellsAt_of i4 (by rfl)]; rfl
    cases hfr : (T.del (kOf p) tr).2 with
    | false =>
      simp
      refine (S.turn w1 tu (n' := n) (by rw [← hm]; exact i4) (by rw [q4, hL']) (fun j a b => by rw [hh4, H.get_set, if_neg b]) (by rw [hh4]; simp)).up g1 (Out.refl _ _) fun j hj => .inl hj
    | true =>
      have hn0 := hg hfr
      have wn : IntKind.i64.wrap ((n : Int) - 1) = ((n - 1 : Nat) : Int) := by rw [wrap_i64_id (by omega) (by omega)]; omega
      simp only [trieO] at i4
      simp [ci4, wn, i4]
      refine (S.turn w1 tu (h4 := h4.set i (trieO (.sl q (m * 3) 0 m none) (n - 1))) (n' := n - 1) (by rw [← hm]; simp) (by rw [H.get_set, if_neg (fun e => iq e.symm), q4, hL']) (fun j a b => by rw [H.get_set, if_neg a, hh4, H.get_set, if_neg b]) (by rw [hh4]; simp)).up g1 (Out.refl _ _) fun j hj => .inl hj
end Go.Am

/-
  The way down to a prefix; Get, Match.
-/
namespace Go.Am
open Go.Proofs

set_option maxRecDepth 100000
def T.sz {α : Type} : T α → Nat
  | .nil => 0
  | .node _ _ _ l r => l.sz + r.sz + 1
/-- What was found: none, or a node. -/
def FV (g : Nat → Option O) (f : Int) (d : Nat) : Option (List Bool × Int) → V → Prop
  | none, fv => fv = .nilptr
  | some (k, y), fv => ∃ j hs vl vr, fv = .ptr j 8 0 ∧ g j = some (.row (nodeC (pk f d k) hs y vl vr))
theorem FV.one {g : Nat → Option O} {f : Int} {d : Nat} {a : Option (List Bool × Int)} {fv : V} (x : FV g f d a fv) : fv.one = true := by
  match a, x with
  | none, x => rw [show fv = .nilptr from x]; rfl
  | some (k, y), ⟨j, _, _, _, e, _⟩ => rw [e]; rfl
theorem wayno_ct {h : H} {i : Nat} {rv : V} {n : Nat} (hi : h.get i = some (trieO rv n)) {p : Pfx} (hp : mayP p = false) (fn : V) : Pure Tryd.prog 35 [.ptr i 3 0, .agg (pfxC p), fn] h (.tup []) := by
  refine pure_to Tryd.func35 S.trie_Trie_int_way_code S.trie_Trie_int_way_enter rfl (Nat.le_of_ble_eq_true rfl) fun wf => ?_; simp only [S.trie_Trie_int_way]
  have hlt := wf.lt hi
  simp only [pfxC]
  simp
  refine none_ct (n := n) (rv := rv) (by rw [H.get_push, if_neg (by omega)]; exact hi) _ ?_
  simp
  refine pcheck_ct (p := p) _ ?_
  simp [hp]
theorem way_ct (tst : List Bool → Bool → Bool) {g : FuncId} {caps : List V} {fb : Nat} {h : H} {i : Nat} {rs : List Rt} {n : Nat} {ns : List Nat} (o : RsOk rs) (ta : TrieAt h i rs n ns) (hb : rs.length ≤ 1000000) {p : Pfx} (hp : mayP p = true)
    (hfb : h.get fb = some (.row [.nilptr])) (hfn : fb ∉ ns)
    (htell : ∀ h' : H, h'.WF → (∀ j, j < h.next → j ≠ fb → h'.get j = h.get j) → h.next ≤ h'.next → (∃ c, h'.get fb = some (.row [c])) → ∀ (j : Nat) (k : List Bool) (hs : Bool) (y : Int) (vl vr : V), k.length ≤ mx p.fam → j ≠ fb → j < h.next → h.get j = some (.row (nodeC (pk p.fam p.rd k) hs y vl vr)) →
      ∀ Q : V → H → Prop, Q (.tup []) (if tst k hs = true then h'.set fb (.row [.ptr j 8 0]) else h') → Acalls Tryd.prog g (.ptr j 8 0 :: caps) h' Q) :
    Acalls Tryd.prog 35 [.ptr i 3 0, .agg (pfxC p), .func (.func g) [] caps] h fun u h' => u = .tup [] ∧ h'.WF ∧ h.next ≤ h'.next ∧ (∀ j, j < h.next → j ≠ fb → h'.get j = h.get j) ∧
      ∃ fv, h'.get fb = some (.row [fv]) ∧ FV h.get p.fam p.rd ((treeOf p.fam p.rd rs).find tst (kOf p) none) fv := by
  refine acalls_to Tryd.func35 S.trie_Trie_int_way_code S.trie_Trie_int_way_enter (Nat.le_of_ble_eq_true rfl) fun wf => ?_; simp only [S.trie_Trie_int_way]
  obtain ⟨ep, kB⟩ := may_pk hp
  have ta0 := ta
  obtain ⟨rv, cs, qs, ms, a1, a2, a3, rfl, a5⟩ := ta
  have hlt := wf.lt a1
  have tlt := ta0.lt wf
  have flt := wf.lt hfb
  obtain ⟨h1, hh1⟩ : ∃ h1, h1 = h.push (.row (pfxC p)) := ⟨_, rfl⟩
  have g1 : Ge h h1 := by rw [hh1]; exact (Ge.refl _).push _
  have w1 : h1.WF := by rw [hh1]; exact wf.push _
  have nx1 : h1.next = h.next + 1 := by rw [hh1]; simp
  have b1 : h1.get h.next = some (.row (pfxC p)) := by rw [hh1]; simp
  have ta1 : TrieAt h1 i rs n (i :: (qs ++ ms)) := ta0.keep fun j hj => g1.2 j (tlt j hj)
  have i1 : h1.get i = some (trieO rv n) := (g1.2 i hlt).trans a1
  have v1 : RootsV h1.get rv cs qs := by
    rcases a2 with ⟨e1, e2, rfl⟩ | ⟨q, e0, e1, hq, rfl⟩
    · exact .inl ⟨e1, e2, rfl⟩
    · exact .inr ⟨q, e0, e1, by rw [g1.2 q (wf.lt hq)]; exact hq, rfl⟩
  have r1 : RootsAt h1.get rs cs ms := a3.keep fun j hj => g1.2 j (tlt j (by simp [hj]))
  have c1 : cellsAt h1.get h.next 4 = some (pfxC p) := by rw [cellsAt_of b1 (by rfl)]; rfl
  have fb1 : h1.get fb = some (.row [.nilptr]) := (g1.2 fb flt).trans hfb
  simp only [pfxC] at hh1 b1 c1 ⊢
  simp
  rw [← hh1]
  refine none_ct i1 _ ?_
  simp [c1]
  refine pcheck_ct (p := p) _ ?_
  simp [hp, c1]
  refine root_ct (p := p) i1 v1 r1 (by omega) _ ?_
  simp
  obtain ⟨ix, hixe⟩ : ∃ ix, ix = rix p.fam p.rd rs := ⟨_, rfl⟩
  rw [← hixe]
  cases hf : rhas p.fam p.rd rs with
  | false =>
    have e0 := treeOf_none hf
    rw [e0]
    simp [T.find]
    exact ⟨w1, by omega, fun j hj _ => g1.2 j hj, .nilptr, fb1, rfl⟩
  | true =>
    obtain ⟨a, b, tr, ca, cb, v, na, nr, nb, q, S⟩ := spot_found o ta1 hf
    obtain ⟨iH, qH, lnr, iq, inr, qnr⟩ := S.wr w1
    obtain ⟨l1, l2, l3⟩ := S.top
    rw [← hixe] at l2 l3
    have qc := S.cells
    have ic := S.obj
    obtain ⟨m, hm⟩ : ∃ m, m = (ca ++ rootC p.fam p.rd v :: cb).length := ⟨_, rfl⟩
    obtain ⟨L, hL⟩ : ∃ L, L = (ca ++ rootC p.fam p.rd v :: cb).flatten := ⟨_, rfl⟩
    rw [← hm, ← hL] at l1
    rw [← hm] at l2 ic
    rw [← hL] at l3 qc
    have ciH : cellsAt h1.get i 3 = some [.bool true, .sl q (m * 3) 0 m none, .int .i64 (n : Nat)] := by rw [cellsAt_of ic (by rfl)]; rfl
    have cqH : cellsAt h1.get q (m * 3) = some L := by rw [cellsAt_of qc (by rw [len_grow, l1])]; rfl
    have tre := S.tree
    rw [← tre]
    have nrN : ∀ j ∈ nr, j ∈ i :: (qs ++ ms) := fun j hj => by rw [S.names]; simp [hj]
    have trok : tr.Ok (mx p.fam) [] := by rw [tre]; exact treeOf_ok o p.fam p.rd
    have rt0 : TreeAt p.fam p.rd h.get tr v nr := S.rt.keep fun j hj => (g1.2 j (tlt j (nrN j hj))).symm
    have p128 := mx_le p.fam
    have epl : p.len = ((kOf p).length : Nat) := congrArg Pfx.len ep
    have epa : p.addr = (pk p.fam p.rd (kOf p)).addr := congrArg Pfx.addr ep
    simp [ciH, cqH, l2, l3]
    refine loopA_of (fun z t h' => ∃ cur v' nc acc fv w', z = cur.sz ∧ (t 2 = .func (.func g) [] caps ∧ t 4 = .ptr h.next 4 0 ∧ t 8 = v') ∧ h'.WF ∧ h1.next ≤ h'.next ∧ (∀ j, j < h1.next → j ≠ fb → h'.get j = h1.get j) ∧ h'.get fb = some (.row [fv]) ∧ FV h.get p.fam p.rd acc fv ∧
      TreeAt p.fam p.rd h.get cur v' nc ∧ (∀ j ∈ nc, j ∈ nr) ∧ cur.Ok (mx p.fam) w' ∧ cur.find tst (kOf p) acc = tr.find tst (kOf p) none) (n := tr.sz) ⟨tr, v, nr, none, .nilptr, [], rfl, by simp, w1, Nat.le_refl _, fun _ _ _ => rfl, fb1, rfl, rt0, fun _ h => h, trok, rfl⟩ ?_
    rintro z t h' ⟨cur, v', nc, acc, fv, w', rfl, ⟨t2, t4, t8⟩, wh, nh, kh, hfv, hacc, ht, hsub, hok, hfind⟩ N hN
    have bh : cellsAt h'.get h.next 4 = some (pfxC p) := by rw [cellsAt_of ((kh h.next (by omega) (by omega)).trans b1) (by rfl)]; rfl
    simp only [pfxC] at bh
    refine dreg_quiet wh ?_
    have out : ∀ (h'' : H), h''.WF → h1.next ≤ h''.next → (∀ j, j < h1.next → j ≠ fb → h''.get j = h1.get j) → h''.WF ∧ h.next ≤ h''.next ∧ (∀ j, j < h.next → j ≠ fb → h''.get j = h.get j) := fun h'' w n k => ⟨w, by omega, fun j hj hn => (k j (by omega) hn).trans (g1.2 j hj)⟩
    cases cur with
    | nil =>
      obtain ⟨rfl, rfl⟩ := ht
      simp [t8, eqV]
      simp only [T.find] at hfind
      obtain ⟨x1, x2, x3⟩ := out h' wh nh kh
      exact ⟨x1, x2, x3, fv, hfv, hfind ▸ hacc⟩
    | node k hs y l r =>
      obtain ⟨j, vl, vr, nl, nr', rfl, hj, hl, hr, rfl⟩ := ht
      obtain ⟨ok1, ok2, ok3, ok4⟩ := hok
      have jN : j ∈ i :: (qs ++ ms) := nrN j (hsub j (by simp))
      have jlt := tlt j jN
      have jfb : j ≠ fb := fun e => hfn (e ▸ jN)
      have hj' : h'.get j = some (.row (nodeC (pk p.fam p.rd k) hs y vl vr)) := (kh j (by omega) jfb).trans ((g1.2 j jlt).trans hj)
      have cj : cellsAt h'.get j 8 = some (nodeC (pk p.fam p.rd k) hs y vl vr) := by rw [cellsAt_of hj' (by rfl)]; rfl
      have e1 : (pk p.fam p.rd k).len = (k.length : Nat) := rfl
      simp only [nodeC, e1] at cj
      obtain ⟨y1, y2, y3⟩ := out h' wh nh kh
      by_cases hle : k.length ≤ (kOf p).length
      · have hle' : (k.length : Int) ≤ p.len := by omega
        have cm : ∀ h2, Pure Tryd.prog 55 [.agg (pfxC (pk p.fam p.rd k)), .agg (pfxC p)] h2 (.int .i64 ((com k (kOf p) : Nat) : Int)) := fun h2 => by
          have := comm_ct (h := h2) (r := p.rd) ok2 kB
          rwa [← ep] at this
        simp [t8, t4, eqV, cj, bh, hle']
        refine qcall_of (v := .int .i64 ((com k (kOf p) : Nat) : Int)) rfl (fun h2 _ => cm h2) ?_
        have bc := fun h0 => bit_ct (h := h0) (f := p.fam) (r := p.rd) kB (n := k.length) (by omega)
        simp only [← epa] at bc
        by_cases hcm : com k (kOf p) = k.length
        · have b1' : ((com k (kOf p) : Int) == (k.length : Int)) = true := by simp; omega
          simp [t8, cj, b1', t2]
          rw [T.find, if_pos ⟨hle, hcm⟩] at hfind
          refine htell h' wh (fun j hj hn => y3 j hj hn) y2 ⟨fv, hfv⟩ j k hs y vl vr ok2 jfb jlt hj _ ?_
          simp
          obtain ⟨h2, hh2⟩ : ∃ h2, h2 = (if tst k hs = true then h'.set fb (.row [.ptr j 8 0]) else h') := ⟨_, rfl⟩
          have w2 : h2.WF := by rw [hh2]; split; exact wh.set (by omega) _; exact wh
          have n2 : h2.next = h'.next := by rw [hh2]; split <;> simp
          have k2 : ∀ j, j ≠ fb → h2.get j = h'.get j := fun j hj => by
            rw [hh2]; split
            · rw [H.get_set, if_neg hj]
            · rfl
          obtain ⟨fv2, f2, acc2⟩ : ∃ fv2, h2.get fb = some (.row [fv2]) ∧ FV h.get p.fam p.rd (if tst k hs = true then some (k, y) else acc) fv2 := by
            rw [hh2]; split
            · exact ⟨.ptr j 8 0, by simp, j, hs, vl, vr, rfl, hj⟩
            · exact ⟨fv, hfv, hacc⟩
          have cj2 : cellsAt h2.get j 8 = some (nodeC (pk p.fam p.rd k) hs y vl vr) := by rw [cellsAt_of ((k2 j jfb).trans hj') (by rfl)]; rfl
          have bh2 : cellsAt h2.get h.next 4 = some (pfxC p) := by rw [cellsAt_of ((k2 h.next (by omega)).trans ((kh h.next (by omega) (by omega)).trans b1)) (by rfl)]; rfl
          simp only [nodeC, e1, pfxC] at cj2 bh2
          have kk2 : ∀ j, j < h1.next → j ≠ fb → h2.get j = h1.get j := fun j hj hn => (k2 j hn).trans (kh j hj hn)
          rw [← hh2]
          refine dreg_of ?_
          by_cases hel : k.length = (kOf p).length
          · have b2' : ((k.length : Int) == p.len) = true := by rw [epl, hel]; simp
            simp [t8, t4, cj2, bh2, b2']
            rw [if_pos hel] at hfind
            obtain ⟨z1, z2, z3⟩ := out h2 w2 (by omega) kk2
            exact ⟨z1, z2, z3, fv2, f2, hfind ▸ acc2⟩
          · have b2' : ((k.length : Int) == p.len) = false := by rw [epl]; simp; omega
            simp [t8, t4, cj2, bh2, b2']
            rw [if_neg hel] at hfind
            refine dreg_of ?_
            simp [t8, t4, cj2, bh2]
            refine scall_of (bc _) ?_
            rcases bN_cases (kOf p) k.length with ⟨hb, ht⟩ | ⟨hb, ht⟩
            · rw [if_pos ht] at hfind
              simp [hb, cj2]
              refine hN _ _ _ (by simp [T.sz]; omega) ⟨r, vr, nr', _, fv2, _, rfl, by simp [t2, t4], w2, by omega, kk2, f2, acc2, hr, fun j hj => hsub j (by simp [hj]), ok4, hfind⟩
            · rw [if_neg ht] at hfind
              simp [hb, cj2]
              refine hN _ _ _ (by simp [T.sz]; omega) ⟨l, vl, nl, _, fv2, _, rfl, by simp [t2, t4], w2, by omega, kk2, f2, acc2, hl, fun j hj => hsub j (by simp [hj]), ok3, hfind⟩
        · have b1' : ((com k (kOf p) : Int) == (k.length : Int)) = false := by simp; omega
          simp [t8, cj, b1']
          rw [T.find, if_neg (by omega)] at hfind
          exact ⟨y1, y2, y3, fv, hfv, hfind ▸ hacc⟩
      · have hle' : ¬ (k.length : Int) ≤ p.len := by omega
        simp [t8, t4, eqV, cj, bh, hle']
        rw [T.find, if_neg (by omega)] at hfind
        exact ⟨y1, y2, y3, fv, hfv, hfind ▸ hacc⟩
end Go.Am

/-
  Get, Match.
-/
namespace Go.Am
open Go.Proofs

set_option maxRecDepth 100000
theorem match1_ct {h : H} {p : Pfx} {fb j : Nat} {c : V} (hfb : h.get fb = some (.row [c])) {k : List Bool} {hs : Bool} {y : Int} {vl vr : V} (hj : h.get j = some (.row (nodeC (pk p.fam p.rd k) hs y vl vr)))
    {Q : V → H → Prop} (q : Q (.tup []) (if hs = true then h.set fb (.row [.ptr j 8 0]) else h)) : Acalls Tryd.prog 36 [.ptr j 8 0, .ptr fb 1 0] h Q := by
  refine acalls_to Tryd.func36 S.trie_Trie_int_Match_1_code S.trie_Trie_int_Match_1_enter (Nat.le_of_ble_eq_true rfl) fun wf => ?_; simp only [S.trie_Trie_int_Match_1]
  have cj : cellsAt h.get j 8 = some (nodeC (pk p.fam p.rd k) hs y vl vr) := by rw [cellsAt_of hj (by rfl)]; rfl
  simp only [nodeC] at cj
  cases hs with
  | true => simp [cj, hfb]; simpa using q
  | false => simp [cj]; simpa using q
/-- What is found of a prefix. -/
def tget (rs : List Rt) (p : Pfx) : Option Int := if mayP p = true then (treeOf p.fam p.rd rs).find (fun k h => decide (k = kOf p) && h) (kOf p) none |>.map (·.2) else none
def tmatch (rs : List Rt) (p : Pfx) : Option (Pfx × Int) := if mayP p = true then (treeOf p.fam p.rd rs).find (fun _ h => h) (kOf p) none |>.map fun x => (pk p.fam p.rd x.1, x.2) else none
def mC (o : Option (Pfx × Int)) : Pfx × Int := o.getD (zeroP, 0)
theorem match_ct {h : H} {i : Nat} {rs : List Rt} {n : Nat} {ns : List Nat} (o : RsOk rs) (ta : TrieAt h i rs n ns) (hb : rs.length ≤ 1000000) {p : Pfx} :
    Pure Tryd.prog 11 [.ptr i 3 0, .agg (pfxC p)] h (.tup [.agg (pfxC (mC (tmatch rs p)).1), .int .i64 (mC (tmatch rs p)).2, .bool (tmatch rs p).isSome]) := by
  refine pure_to Tryd.func11 S.trie_Trie_int_Match_code S.trie_Trie_int_Match_enter rfl (Nat.le_of_ble_eq_true rfl) fun wf => ?_; simp only [S.trie_Trie_int_Match]
  have tlt := ta.lt wf
  obtain ⟨h1, hh1⟩ : ∃ h1, h1 = ((h.push (.row (pfxC p))).push (.row (pfxC zeroP))).push (.row [.nilptr]) := ⟨_, rfl⟩
  have g1 : Ge h h1 := by rw [hh1]; exact (((Ge.refl _).push _).push _).push _
  have w1 : h1.WF := by rw [hh1]; exact ((wf.push _).push _).push _
  have r1 : h1.get (h.next + 1) = some (.row (pfxC zeroP)) := by rw [hh1]; simp
  have f1 : h1.get (h.next + 1 + 1) = some (.row [.nilptr]) := by rw [hh1]; simp
  have x1 : h1.next = h.next + 3 := by rw [hh1]; simp
  have ta1 : TrieAt h1 i rs n ns := ta.keep fun j hj => g1.2 j (tlt j hj)
  have cf1 : cellsAt h1.get (h.next + 1 + 1) 1 = some [.nilptr] := by rw [cellsAt_of f1 (by rfl)]; rfl
  simp only [pfxC, zeroP] at hh1 r1 ⊢
  have n1 : ¬ h.next = h.next + 1 + 1 := by omega
  simp [n1]
  simp only [Int.natCast_zero] at hh1 r1
  rw [← hh1]
  cases hp : mayP p with
  | false =>
    have e0 : tmatch rs p = none := by simp [tmatch, hp]
    obtain ⟨rv, _, _, _, a1, _⟩ := ta1
    refine wayno_ct a1 hp _ _ ?_
    simp [cf1, eqV, e0, r1, mC, zeroP]
    exact g1.set (by omega) _
  | true =>
    refine Acalls.mono (way_ct (fun _ h => h) (fb := h.next + 1 + 1) (caps := [.ptr (h.next + 1 + 1) 1 0]) o ta1 hb hp f1 (fun hm => by have := tlt _ hm; omega) ?_) ?_
    · intro h' w' k' n' ⟨c, hc⟩ j k hs y vl vr hk jn jl hj Q q
      exact match1_ct hc ((k' j jl jn).trans hj) q
    · rintro _ h2 ⟨rfl, w2, n2, k2, fv, hfv, acc⟩
      have gg : Ge h h2 := ⟨by omega, fun j hj => (k2 j (by omega) (by omega)).trans (g1.2 j hj)⟩
      have cf : cellsAt h2.get (h.next + 1 + 1) 1 = some [fv] := by rw [cellsAt_of hfv (by rfl)]; rfl
      have rr2 := (k2 (h.next + 1) (by omega) (by omega)).trans r1
      have et : tmatch rs p = ((treeOf p.fam p.rd rs).find (fun _ h => h) (kOf p) none).map (fun x => (pk p.fam p.rd x.1, x.2)) := by simp [tmatch, hp]
      rw [et]
      generalize (treeOf p.fam p.rd rs).find (fun _ h => h) (kOf p) none = r at acc
      match r, acc with
      | none, acc =>
        rw [show fv = .nilptr from acc] at cf
        simp [cf, eqV, rr2, mC, zeroP]
        exact gg.set (by omega) _
      | some (k, y), ⟨j, hs, vl, vr, e, hj⟩ =>
        rw [e] at cf
        have jlt := w1.lt hj
        have jne : j ≠ h.next + 1 + 1 := fun e => by rw [e, f1] at hj; cases hj
        have cj : cellsAt h2.get j 8 = some (nodeC (pk p.fam p.rd k) hs y vl vr) := by rw [cellsAt_of ((k2 j jlt jne).trans hj) (by rfl)]; rfl
        simp only [nodeC] at cj
        have jn2 : j ≠ h.next + 1 := fun e => by rw [e, r1] at hj; simp [nodeC] at hj
        have jn2' : ¬ h.next + 1 = j := fun e => jn2 e.symm
        have e8 : ¬ h.next + 1 = h.next + 1 + 1 := by omega
        simp [cf, eqV]
        refine dreg_dwp ?_
        simp [cf, cj, rr2]
        refine dwp_end (by simp [evAt, apart, I.foot, refOf, jn2']) ?_
        simp [mC]
        exact ⟨by have := gg.1; show h.next ≤ h2.next + 11 * room; omega, fun z hz => by
          show upds _ _ _ = _
          rw [upds_one, if_neg (by omega)]; exact gg.2 z hz⟩
end Go.Am

/-
  What is told: walk.
-/
namespace Go.Am
open Go.Proofs

set_option maxRecDepth 100000
def pairC (x : Pfx × Int) : List V := [.int .i64 x.1.fam, .int .u64 (x.1.rd : Nat), .str x.1.addr, .int .i64 x.1.len, .int .i64 x.2]
/-- What is told of a tree. -/
def told (f : Int) (d : Nat) (letp : List Bool → Bool) (t : T Int) : List (Pfx × Int) := (t.pairs.filter fun x => letp x.1).map fun x => (pk f d x.1, x.2)
theorem told_node (f : Int) (d : Nat) (letp : List Bool → Bool) (k : List Bool) (hs : Bool) (y : Int) (l r : T Int) : told f d letp (.node k hs y l r) = (if (hs && letp k) = true then [(pk f d k, y)] else []) ++ (told f d letp l ++ told f d letp r) := by
  simp only [told, T.pairs, List.filter_append, List.map_append]
  cases hs <;> simp
  cases hlk : letp k <;> simp [hlk]
/-- A told state: what stays, what a round does. -/
structure Telling (yi : Nat) (lg : FuncId) (lcaps : List V) (h0 : H) (ns : List Nat) (whole : List (Pfx × Int)) (J : List (Pfx × Int) → H → Prop) : Prop where
  sat : ∀ pre, pre <+: whole → ∃ h, J pre h
  wf : ∀ pre h, J pre h → h.WF
  keep : ∀ pre h, J pre h → ∀ j ∈ ns, h.get j = h0.get j
  mono : ∀ pre h h', J pre h → Ge h h' → h'.WF → J pre h'
  step : ∀ pre x h, J pre h → pre ++ [x] <+: whole → Ayields Tryd.prog yi [.agg (pfxC x.1), .int .i64 x.2] h fun r h' => r = .bool true ∧ J (pre ++ [x]) h'
theorem swp_mono {P : Program} {K K' : Tm → H → Prop} (hk : ∀ t h, K t h → K' t h) : ∀ (ops : List SI) {t : Tm} {h : H}, Swp P K ops t h → Swp P K' ops t h
  | [], _, _, c => hk _ _ c
  | _ :: ops, _, _, c => Sstep.mono (fun _ _ c' => swp_mono hk ops c') c
theorem scall_yl {P : Program} {K : Tm → H → Prop} {d : Option Nat} {is : List SI} {t : Tm} {h : H} {i : Nat} {args : List V} {Q' : V → H → Prop} (sat : ∃ v h', Q' v h') (c : Ayields P i args h Q') (k : ∀ v h', Q' v h' → Swp P K is (t.put d v) h') :
    scallK P K d is t h (.yl i) args := ⟨Q', sat, c, k⟩
theorem walk_ct {yi : Nat} {lg : FuncId} {lcaps : List V} {h0 : H} {ns : List Nat} {whole : List (Pfx × Int)} {J : List (Pfx × Int) → H → Prop} (tl : Telling yi lg lcaps h0 ns whole J) {f : Int} {d : Nat} {letp : List Bool → Bool}
    (hlet : ∀ pre h, J pre h → ∀ k, k.length ≤ mx f → Pure Tryd.prog lg (.agg (pfxC (pk f d k)) :: lcaps) h (.bool (letp k))) :
    ∀ (t : T Int) (w : List Bool) (v : V) (ms : List Nat) (pre : List (Pfx × Int)) (h : H), t.Ok (mx f) w → TreeAt f d h0.get t v ms → (∀ j ∈ ms, j ∈ ns) → J pre h → pre ++ told f d letp t <+: whole →
      Acalls Tryd.prog 58 [v, .func (.func lg) [] lcaps, .yl yi] h fun r h' => r = .bool true ∧ J (pre ++ told f d letp t) h' := by
  intro t
  induction t with
  | nil =>
    rintro w v ms pre h _ ⟨rfl, rfl⟩ _ hJ _
    refine acalls_to Tryd.func58 S.trie_walk_int_code S.trie_walk_int_enter (Nat.le_of_ble_eq_true rfl) fun wf => ?_; simp only [S.trie_walk_int]
    simp [eqV, told, T.pairs]
    exact hJ
  | node k hs y l r ihl ihr =>
    rintro w v ms pre h ok ⟨i, vl, vr, nl, nr, rfl, hi, hl, hr, rfl⟩ hsub hJ hw
    obtain ⟨w1, kB, okl, okr⟩ := ok
    refine acalls_to Tryd.func58 S.trie_walk_int_code S.trie_walk_int_enter (Nat.le_of_ble_eq_true rfl) fun wf => ?_; simp only [S.trie_walk_int]
    have node : ∀ pre h, J pre h → cellsAt h.get i 8 = some (nodeC (pk f d k) hs y vl vr) := fun pre h hJ => by rw [cellsAt_of ((tl.keep pre h hJ i (hsub i (by simp))).trans hi) (by rfl)]; rfl
    have c0 := node pre h hJ
    rw [told_node] at hw ⊢
    simp only [nodeC] at c0
    have e1 : (pk f d k).len = (k.length : Nat) := rfl
    simp [eqV]
    obtain ⟨xs, hxs⟩ : ∃ xs, xs = (if (hs && letp k) = true then [(pk f d k, y)] else []) := ⟨_, rfl⟩
    have hxs' := hxs
    simp only [Bool.and_eq_true] at hxs'
    rw [← hxs'] 
    rw [← hxs] at hw
    refine dreg_of (swp_mono (K := fun t' h' => (t' 0 = .ptr i 8 0 ∧ t' 1 = .func (.func lg) [] lcaps ∧ t' 2 = .yl yi ∧ t' 33 = .bool false) ∧ J (pre ++ xs) h') ?_ _ ?_)
    · rintro t' h' ⟨⟨t0, t1, t2, t33⟩, hJ'⟩
      have c1 := node _ h' hJ'
      simp only [nodeC] at c1
      simp [t0, t1, t2, t33, c1]
      refine Acalls.mono (ihl _ vl nl _ h' okl hl (fun j hj => hsub j (by simp [hj])) hJ' (List.IsPrefix.trans ⟨told f d letp r, by simp⟩ hw)) ?_
      rintro _ h2 ⟨rfl, hJ2⟩
      have c2 := node _ h2 hJ2
      simp only [nodeC] at c2
      simp [t0, t1, t2, c2]
      refine Acalls.mono (ihr _ vr nr _ h2 okr hr (fun j hj => hsub j (by simp [hj])) hJ2 (by simpa using hw)) ?_
      rintro _ h3 ⟨rfl, hJ3⟩
      simp
      simpa using hJ3
    · cases hs with
      | false =>
        have : xs = [] := by rw [hxs]; simp
        subst this
        simp [c0]
        exact hJ
      | true =>
        simp [c0]
        refine scall_of (hlet _ _ hJ k kB) ?_
        cases hlk : letp k with
        | false =>
          have : xs = [] := by rw [hxs]; simp [hlk]
          subst this
          simp
          exact hJ
        | true =>
          have : xs = [(pk f d k, y)] := by rw [hxs]; simp [hlk]
          subst this
          have hpre : pre ++ [(pk f d k, y)] <+: whole := List.IsPrefix.trans ⟨told f d letp l ++ told f d letp r, by simp⟩ hw
          simp [c0]
          refine scall_yl ((tl.sat _ hpre).elim fun h' hh => ⟨.bool true, h', rfl, hh⟩) (tl.step _ _ _ hJ hpre) ?_
          rintro _ h2 ⟨rfl, hJ2⟩
          simp
          exact hJ2
end Go.Am

/-
  The iterators of All and Under.
-/
namespace Go.Am
open Go.Proofs

set_option maxRecDepth 100000
theorem let_all {h : H} {p : Pfx} : Pure Tryd.prog 59 [.agg (pfxC p)] h (.bool true) := by
  refine pure_to Tryd.func59 S.trie_Trie_int_All_1_1_code S.trie_Trie_int_All_1_1_enter rfl (Nat.le_of_ble_eq_true rfl) fun wf => ?_; simp only [S.trie_Trie_int_All_1_1]
  simp only [pfxC]
  simp
theorem let_under {h : H} {p q : Pfx} {pb : Nat} (hpb : h.get pb = some (.row (pfxC p))) : Pure Tryd.prog 64 [.agg (pfxC q), .ptr pb 4 0] h (.bool (covP p q)) := by
  refine pure_to Tryd.func64 S.trie_Trie_int_Under_1_1_code S.trie_Trie_int_Under_1_1_enter rfl (Nat.le_of_ble_eq_true rfl) fun wf => ?_; simp only [S.trie_Trie_int_Under_1_1]
  have hlt := wf.lt hpb
  have hne : ¬ pb = h.next := by omega
  have cp : cellsAt h.get pb 4 = some (pfxC p) := by rw [cellsAt_of hpb (by rfl)]; rfl
  simp only [pfxC] at cp ⊢
  simp [cp, hne]
  refine covers_ct (a := p) (b := q) _ ?_
  simp
theorem told_all (r : Rt) : told r.fam r.rd (fun _ => true) r.t = rtPairs r := by
  unfold told rtPairs
  rw [List.filter_eq_self.2 (fun _ _ => rfl)]
section
variable {yi : Nat} {lcaps : List V} {h0 : H} {ns : List Nat} {whole : List (Pfx × Int)} {J : List (Pfx × Int) → H → Prop}
theorem TrieAt.told {lg : FuncId} (tl : Telling yi lg lcaps h0 ns whole J) {i : Nat} {rs : List Rt} {n : Nat} (ta : TrieAt h0 i rs n ns) {pre : List (Pfx × Int)} {h : H} (hJ : J pre h) : TrieAt h i rs n ns := ta.keep (tl.keep pre h hJ)
theorem all1_ct (tl : Telling yi 59 [] h0 ns whole J) {i : Nat} {rs : List Rt} {n : Nat} (o : RsOk rs) (ta : TrieAt h0 i rs n ns) (hb : rs.length ≤ 1000000) (hwh : whole = rsPairs rs) {tb : Nat}
    (htb : ∀ pre h, J pre h → h.get tb = some (.row [.ptr i 3 0])) {h : H} (hJ : J [] h) : Acalls Tryd.prog 57 [.yl yi, .ptr tb 1 0] h fun r h' => r = .tup [] ∧ J whole h' := by
  refine acalls_to Tryd.func57 S.trie_Trie_int_All_1_code S.trie_Trie_int_All_1_enter (Nat.le_of_ble_eq_true rfl) fun wf => ?_; simp only [S.trie_Trie_int_All_1]
  obtain ⟨rv, cs, qs, ms, a1, a2, a3, rfl, a5⟩ := ta
  have view : ∀ pre h, J pre h → h.get i = some (trieO rv n) ∧ RootsV h.get rv cs qs ∧ RootsAt h.get rs cs ms := fun pre h hJ => by
    have k := tl.keep pre h hJ
    refine ⟨(k i (by simp)).trans a1, ?_, a3.keep fun j hj => k j (by simp [hj])⟩
    rcases a2 with ⟨e1, e2, rfl⟩ | ⟨q, e0, e1, hq, rfl⟩
    · exact .inl ⟨e1, e2, rfl⟩
    · exact .inr ⟨q, e0, e1, (k q (by simp)).trans hq, rfl⟩
  have hcl := a3.len
  obtain ⟨v1, v2, v3⟩ := view _ h hJ
  have cb : cellsAt h.get tb 1 = some [.ptr i 3 0] := by rw [cellsAt_of (htb _ h hJ) (by rfl)]; rfl
  have ci : cellsAt h.get i 3 = some [.bool true, rv, .int .i64 (n : Nat)] := by rw [cellsAt_of v1 (by rfl)]; rfl
  have L := (v2.sls a3.size (by omega)).len
  simp [cb]
  refine none_ct v1 _ ?_
  simp [cb, ci, L]
  refine loop_up (fun k t h' => (t 0 = .yl yi ∧ t 10 = rv ∧ t 11 = .int .i64 cs.length ∧ t 12 = .int .i64 (k : Nat)) ∧ k ≤ rs.length ∧ J (rsPairs (rs.take k)) h') cs.length ⟨by simp, by omega, by simpa [rsPairs] using hJ⟩ ?_
  rintro k t h' hk ⟨⟨t0, t10, t11, t12⟩, hkl, hJ'⟩ K hK
  by_cases hlt2 : k < rs.length
  · have hkc : k < cs.length := by omega
    have hw := wrap_succ hkc (by omega)
    obtain ⟨w1, w2, w3⟩ := view _ h' hJ'
    have wf' := tl.wf _ h' hJ'
    obtain ⟨v, n1, hc, ht, hsub⟩ := a3.at hlt2
    obtain ⟨pp, q, off, ccs, h1', h2', h4', h5', h6'⟩ := (w2.sls a3.size (by omega)).at hkc
    have hcs : cs[k] = rootC rs[k].fam rs[k].rd v := by
      rw [List.getElem?_eq_getElem hkc] at hc
      exact Option.some.inj hc
    rw [hcs] at h5'
    have hv1 := ht.one
    simp only [rootC] at h5'
    simp [t12, t11, hkc, t10, t0, h1', h2', h4', h5', hv1.1]
    have G : Ge h' ((h'.push (.row [.int .i64 0, .int .u64 0, .nilptr])).set h'.next (.row [.int .i64 rs[k].fam, .int .u64 (rs[k].rd : Nat), v])) := ((Ge.refl _).push _).set (Nat.le_refl _) _
    have hJ2 := tl.mono _ _ _ hJ' G ((wf'.push _).set (by simp) _)
    have eq : rsPairs (rs.take k) ++ told rs[k].fam rs[k].rd (fun _ => true) rs[k].t = rsPairs (rs.take (k + 1)) := by
      unfold rsPairs
      rw [told_all, List.take_add_one, List.getElem?_eq_getElem hlt2, List.flatMap_append]
      simp only [Option.toList_some, List.flatMap_cons, List.flatMap_nil, List.append_nil]
    refine Acalls.mono (walk_ct tl (letp := fun _ => true) (fun _ _ _ _ _ => let_all) rs[k].t [] v n1 _ _ (o.all _ (List.getElem_mem hlt2)).ok ht (fun j hj => by simp [hsub j hj]) hJ2 (by
      rw [eq, hwh]
      conv => rhs; rw [← List.take_append_drop (k + 1) rs]
      unfold rsPairs
      rw [List.flatMap_append]
      exact List.prefix_append _ _)) ?_
    rintro _ h3 ⟨rfl, hJ3⟩
    rw [eq] at hJ3
    simp [t12, hw]
    exact hK _ _ hkc ⟨by simp [t0, t10, t11], hlt2, hJ3⟩
  · have hk2 : k = rs.length := by omega
    have hkc : ¬ k < cs.length := by omega
    rw [hk2, List.take_length, ← hwh] at hJ'
    simp [t12, t11, hkc]
    exact hJ'
/-- What a prefix covers. -/
def tunder (rs : List Rt) (p : Pfx) : List (Pfx × Int) := if mayP p = true then told p.fam p.rd (fun k => (kOf p).isPrefixOf k) (treeOf p.fam p.rd rs) else []
theorem under1_ct {pb : Nat} (tl : Telling yi 64 [.ptr pb 4 0] h0 ns whole J) {i : Nat} {rs : List Rt} {n : Nat} (o : RsOk rs) (ta : TrieAt h0 i rs n ns) (hb : rs.length ≤ 1000000) {p : Pfx} (hwh : whole = tunder rs p) {tb : Nat}
    (htb : ∀ pre h, J pre h → h.get tb = some (.row [.ptr i 3 0])) (hpb : ∀ pre h, J pre h → h.get pb = some (.row (pfxC p))) {h : H} (hJ : J [] h) :
    Acalls Tryd.prog 63 [.yl yi, .ptr tb 1 0, .ptr pb 4 0] h fun r h' => r = .tup [] ∧ J whole h' := by
  refine acalls_to Tryd.func63 S.trie_Trie_int_Under_1_code S.trie_Trie_int_Under_1_enter (Nat.le_of_ble_eq_true rfl) fun wf => ?_; simp only [S.trie_Trie_int_Under_1]
  have ta1 := ta.told tl hJ
  have ta1' := ta1
  obtain ⟨rv, cs, qs, ms, a1, a2, a3, ens, a5⟩ := ta1
  have cb : cellsAt h.get tb 1 = some [.ptr i 3 0] := by rw [cellsAt_of (htb _ h hJ) (by rfl)]; rfl
  have cp : cellsAt h.get pb 4 = some (pfxC p) := by rw [cellsAt_of (hpb _ h hJ) (by rfl)]; rfl
  have cpU := cp
  simp only [pfxC] at cp
  simp [cb]
  refine none_ct a1 _ ?_
  simp [cp]
  refine pcheck_ct (p := p) _ ?_
  cases hp : mayP p with
  | false =>
    simp
    rw [hwh]
    simpa [tunder, hp] using hJ
  | true =>
    obtain ⟨ep, kB⟩ := may_pk hp
    obtain ⟨x1, _, _, _, x5, _⟩ := may_parts hp
    simp [cb, cp]
    refine root_ct (p := p) a1 a2 a3 (by omega) _ ?_
    simp
    obtain ⟨ix, hixe⟩ : ∃ ix, ix = rix p.fam p.rd rs := ⟨_, rfl⟩
    rw [← hixe]
    cases hf : rhas p.fam p.rd rs with
    | false =>
      have e0 := treeOf_none hf
      simp
      rw [hwh]
      simpa [tunder, hp, e0, told, T.pairs] using hJ
    | true =>
      obtain ⟨a, b, tr, ca, cb', v, na, nr, nb, q, S⟩ := spot_found o ta1' hf
      obtain ⟨l1, l2, l3⟩ := S.top
      rw [← hixe] at l2 l3
      have qc := S.cells
      have ic := S.obj
      obtain ⟨m, hm⟩ : ∃ m, m = (ca ++ rootC p.fam p.rd v :: cb').length := ⟨_, rfl⟩
      obtain ⟨L, hL⟩ : ∃ L, L = (ca ++ rootC p.fam p.rd v :: cb').flatten := ⟨_, rfl⟩
      rw [← hm, ← hL] at l1
      rw [← hm] at l2 ic
      rw [← hL] at l3 qc
      have ciH : cellsAt h.get i 3 = some [.bool true, .sl q (m * 3) 0 m none, .int .i64 (n : Nat)] := by rw [cellsAt_of ic (by rfl)]; rfl
      have cqH : cellsAt h.get q (m * 3) = some L := by rw [cellsAt_of qc (by rw [len_grow, l1])]; rfl
      have tre := S.tree
      have nrN : ∀ j ∈ nr, j ∈ ns := fun j hj => by rw [S.names]; simp [hj]
      have trok : tr.Ok (mx p.fam) [] := by rw [tre]; exact treeOf_ok o p.fam p.rd
      have hdown : tr.down (kOf p) = tr.down (kOf p) := rfl
      have p128 := mx_le p.fam
      have epl : p.len = ((kOf p).length : Nat) := congrArg Pfx.len ep
      have epa : p.addr = (pk p.fam p.rd (kOf p)).addr := congrArg Pfx.addr ep
      simp [cb, ciH, cqH, l2, l3]
      refine loopA_of (fun z t h' => ∃ cur v' nc w', z = cur.sz ∧ (t 0 = .yl yi ∧ t 2 = .ptr pb 4 0 ∧ t 6 = v') ∧ h' = h ∧ TreeAt p.fam p.rd h.get cur v' nc ∧ (∀ j ∈ nc, j ∈ nr) ∧ cur.Ok (mx p.fam) w' ∧ cur.down (kOf p) = tr.down (kOf p)) (n := tr.sz) ⟨tr, v, nr, [], rfl, by simp, rfl, S.rt, fun _ h => h, trok, rfl⟩ ?_
      rintro z t h' ⟨cur, v', nc, w', rfl, ⟨t0, t2, t6⟩, rfl, ht, hsub, hok, hfind⟩ N hN
      refine dreg_quiet (tl.wf _ _ hJ) ?_
      have last : cur.down (kOf p) = cur → Acalls Tryd.prog 58 [v', .func (.func 64) [] [.ptr pb 4 0], .yl yi] h' fun r h2 => r = .bool true ∧ J whole h2 := fun hd => by
        have eq : told p.fam p.rd (fun k => (kOf p).isPrefixOf k) cur = whole := by
          rw [hwh, tunder, if_pos hp, ← tre]
          unfold told
          rw [← T.down_pairs trok, ← hfind, hd]
        have ht0 : TreeAt p.fam p.rd h0.get cur v' nc := ht.keep fun j hj => (tl.keep _ _ hJ j (nrN j (hsub j hj))).symm
        have w := walk_ct tl (f := p.fam) (d := p.rd) (letp := fun k => (kOf p).isPrefixOf k) (fun pre h2 hj k hk => by
          have := let_under (q := pk p.fam p.rd k) (hpb pre h2 hj)
          rw [show covP p (pk p.fam p.rd k) = (kOf p).isPrefixOf k by
            have := covP_pk (r := p.rd) x1 x5 kB hk
            rwa [← ep] at this] at this
          exact this) cur w' v' nc [] h' hok ht0 (fun j hj => nrN j (hsub j hj)) hJ (by rw [eq]; exact List.prefix_refl _)
        rw [eq] at w
        simpa using w
      cases cur with
      | nil =>
        obtain ⟨rfl, rfl⟩ := ht
        simp [t6, eqV, t2, t0]
        refine Acalls.mono (last rfl) ?_
        rintro _ h2 ⟨rfl, hJ2⟩
        simp
        exact hJ2
      | node k hs y l r =>
        obtain ⟨j, vl, vr, nl, nr', rfl, hj, hl, hr, rfl⟩ := ht
        obtain ⟨ok1, ok2, ok3, ok4⟩ := hok
        have cj : cellsAt h'.get j 8 = some (nodeC (pk p.fam p.rd k) hs y vl vr) := by rw [cellsAt_of hj (by rfl)]; rfl
        have e1 : (pk p.fam p.rd k).len = (k.length : Nat) := rfl
        simp only [nodeC, e1] at cj
        by_cases hle : k.length < (kOf p).length
        · have hle' : (k.length : Int) < p.len := by omega
          have cm : ∀ h2, Pure Tryd.prog 55 [.agg (pfxC (pk p.fam p.rd k)), .agg (pfxC p)] h2 (.int .i64 ((com k (kOf p) : Nat) : Int)) := fun h2 => by
            have := comm_ct (h := h2) (r := p.rd) ok2 kB
            rwa [← ep] at this
          simp [t6, t2, eqV, cj, cp, hle']
          refine qcall_of (v := .int .i64 ((com k (kOf p) : Nat) : Int)) rfl (fun h2 _ => cm h2) ?_
          have bc := fun h0 => bit_ct (h := h0) (f := p.fam) (r := p.rd) kB (n := k.length) (by omega)
          simp only [← epa] at bc
          by_cases hcm : com k (kOf p) = k.length
          · have b1' : ((com k (kOf p) : Int) == (k.length : Int)) = true := by simp; omega
            simp [t6, cj, b1']
            rw [T.down, if_pos ⟨hle, hcm⟩] at hfind
            refine dreg_of ?_
            simp [t6, t2, cj, cp]
            refine scall_of (bc _) ?_
            rcases bN_cases (kOf p) k.length with ⟨hb, ht⟩ | ⟨hb, ht⟩
            · rw [if_pos ht] at hfind
              simp [hb, cj]
              refine hN _ _ _ (by simp [T.sz]; omega) ⟨r, vr, nr', _, rfl, by simp [t2, t0], rfl, hr, fun j hj => hsub j (by simp [hj]), ok4, hfind⟩
            · rw [if_neg ht] at hfind
              simp [hb, cj]
              refine hN _ _ _ (by simp [T.sz]; omega) ⟨l, vl, nl, _, rfl, by simp [t2, t0], rfl, hl, fun j hj => hsub j (by simp [hj]), ok3, hfind⟩
          · have b1' : ((com k (kOf p) : Int) == (k.length : Int)) = false := by simp; omega
            simp [t6, t2, cj, b1', t0]
            refine Acalls.mono (last (by rw [T.down, if_neg (by omega)])) ?_
            rintro _ h2 ⟨rfl, hJ2⟩
            simp
            exact hJ2
        · have hle' : ¬ (k.length : Int) < p.len := by omega
          simp [t6, t2, eqV, cj, cp, hle', t0]
          refine Acalls.mono (last (by rw [T.down, if_neg (by omega)])) ?_
          rintro _ h2 ⟨rfl, hJ2⟩
          simp
          exact hJ2
end
end Go.Am

/-
  Plain laws of a trie as a list of pairs that rise: set, taken away, found, matched, covered.
-/
namespace Go.Am

set_option maxRecDepth 100000
def tset (rs : List Rt) (p : Pfx) (x : Int) : List Rt := rput p.fam p.rd (T.set (kOf p) x (treeOf p.fam p.rd rs)).1 rs
def tfresh (rs : List Rt) (p : Pfx) (x : Int) : Bool := (T.set (kOf p) x (treeOf p.fam p.rd rs)).2
def tdel (rs : List Rt) (p : Pfx) : List Rt := if rhas p.fam p.rd rs = true then rput p.fam p.rd (T.del (kOf p) (treeOf p.fam p.rd rs)).1 rs else rs
def tgone (rs : List Rt) (p : Pfx) : Bool := (T.del (kOf p) (treeOf p.fam p.rd rs)).2
theorem rsPairs_app (a b : List Rt) : rsPairs (a ++ b) = rsPairs a ++ rsPairs b := by simp [rsPairs]
theorem rsPairs_cons (r : Rt) (b : List Rt) : rsPairs (r :: b) = rtPairs r ++ rsPairs b := by simp [rsPairs]
theorem rtPairs_len (r : Rt) : (rtPairs r).length = r.t.pairs.length := by simp [rtPairs]
theorem rput_len (f : Int) (d : Nat) (t : T Int) (rs : List Rt) : (rsPairs (rput f d t rs)).length + (treeOf f d rs).pairs.length = (rsPairs rs).length + t.pairs.length := by
  have e0 : rsPairs rs = rsPairs (rs.takeWhile (rlow f d)) ++ rsPairs (rs.dropWhile (rlow f d)) := by rw [← rsPairs_app, ← rs_split]
  rw [e0, rput, rsPairs_app, rsPairs_cons, List.length_append, List.length_append, List.length_append, rtPairs_len]
  unfold rhas treeOf
  cases e : rs.dropWhile (rlow f d) with
  | nil => simp [rsPairs, T.pairs]
  | cons r b =>
    simp only [List.tail_cons, rsPairs_cons, List.length_append, rtPairs_len]
    by_cases h : req f d r = true
    · rw [if_pos h, if_pos h]; omega
    · rw [if_neg h, if_neg h, rsPairs_cons, List.length_append, rtPairs_len]
      simp only [T.pairs, List.length_nil]; omega
theorem ne_pk {p q : Pfx} (hp : mayP p = true) (hq : mayP q = true) (hf : q.fam = p.fam) (hd : q.rd = p.rd) : q = p ↔ kOf q = kOf p := by
  constructor
  · intro e; rw [e]
  · intro e
    rw [(may_pk hp).1, (may_pk hq).1, hf, hd, e]
theorem tset_ok {rs : List Rt} (o : RsOk rs) {p : Pfx} (hp : mayP p = true) (x : Int) : RsOk (tset rs p x) := by
  obtain ⟨x1, _, _, _, x5, _⟩ := may_parts hp
  exact rput_ok o x1 x5 (T.set_ok (may_pk hp).2 (treeOf_ok o _ _) (List.nil_prefix))
theorem treeOf_put {rs : List Rt} (o : RsOk rs) {f : Int} {d : Nat} {t : T Int} (h0 : sizeN f ≠ 0) (hr : d = 0 ∨ apartF f = true) (ht : t.Ok (mx f) []) (f' : Int) (d' : Nat) : treeOf f' d' (rput f d t rs) = if f' = f ∧ d' = d then t else treeOf f' d' rs := by
  have o2 := rput_ok o h0 hr ht
  split
  · rename_i e
    obtain ⟨rfl, rfl⟩ := e
    exact (rput_self o t h0 hr ht).1
  · rename_i e
    cases h : rhas f' d' rs with
    | true =>
      obtain ⟨r, hr', e1, e2, e3⟩ := (treeOf_iff o (t := treeOf f' d' rs)).2 ⟨h, rfl⟩
      exact ((treeOf_iff o2 (t := treeOf f' d' rs)).1 ⟨r, (rput_mem o r).2 (.inr ⟨hr', by rw [e1, e2]; exact e⟩), e1, e2, e3⟩).2
    | false =>
      rw [treeOf_none h]
      cases h2 : rhas f' d' (rput f d t rs) with
      | false => exact treeOf_none h2
      | true =>
        exfalso
        obtain ⟨r, hr', e1, e2, e3⟩ := (treeOf_iff o2 (t := treeOf f' d' (rput f d t rs))).2 ⟨h2, rfl⟩
        rcases (rput_mem o r).1 hr' with rfl | ⟨h5, _⟩
        · exact e ⟨e1.symm, e2.symm⟩
        · have := ((treeOf_iff o (t := r.t)).1 ⟨r, h5, e1, e2, rfl⟩).1
          rw [h] at this; cases this
theorem tset_len (rs : List Rt) (p : Pfx) (x : Int) : (rsPairs (tset rs p x)).length = (rsPairs rs).length + if tfresh rs p x = true then 1 else 0 := by
  have h1 := rput_len p.fam p.rd (T.set (kOf p) x (treeOf p.fam p.rd rs)).1 rs
  have h2 := T.set_len (p := kOf p) (x := x) (t := treeOf p.fam p.rd rs)
  unfold tset tfresh
  omega
theorem tdel_ok {rs : List Rt} (o : RsOk rs) {p : Pfx} (hp : mayP p = true) : RsOk (tdel rs p) := by
  obtain ⟨x1, _, _, _, x5, _⟩ := may_parts hp
  unfold tdel
  split
  · exact rput_ok o x1 x5 (T.del_ok (treeOf_ok o _ _))
  · exact o
theorem tdel_mem {rs : List Rt} (o : RsOk rs) {p : Pfx} (hp : mayP p = true) (q : Pfx) (y : Int) : (q, y) ∈ rsPairs (tdel rs p) ↔ q ≠ p ∧ (q, y) ∈ rsPairs rs := by
  obtain ⟨x1, _, _, _, x5, _⟩ := may_parts hp
  rw [mem_rs (tdel_ok o hp), mem_rs o]
  unfold tdel
  by_cases hq : mayP q = true
  · by_cases hs : q.fam = p.fam ∧ q.rd = p.rd
    · have hk := ne_pk hp hq hs.1 hs.2
      rw [hs.1, hs.2]
      split
      · rename_i hh
        rw [(rput_self o _ x1 x5 (T.del_ok (treeOf_ok o _ _))).1, T.del_mem (treeOf_ok o p.fam p.rd), show (q ≠ p) = (kOf q ≠ kOf p) from propext (not_congr hk)]
        simp [hq]
      · rename_i hh
        rw [treeOf_none (by simpa using hh)]
        simp [T.pairs]
    · have hn : q ≠ p := fun e => hs (by rw [e]; exact ⟨rfl, rfl⟩)
      split
      · rw [treeOf_put o x1 x5 (T.del_ok (treeOf_ok o _ _)), if_neg hs]; simp [hn]
      · simp [hn]
  · simp [hq]
theorem tdel_len (rs : List Rt) (p : Pfx) : (rsPairs rs).length = (rsPairs (tdel rs p)).length + if tgone rs p = true then 1 else 0 := by
  have h2 := T.del_len (p := kOf p) (t := treeOf p.fam p.rd rs)
  unfold tdel tgone
  split
  · have h1 := rput_len p.fam p.rd (T.del (kOf p) (treeOf p.fam p.rd rs)).1 rs
    omega
  · rename_i hh
    rw [treeOf_none (by simpa using hh)]
    simp [T.del]
theorem tget_iff {rs : List Rt} (o : RsOk rs) {p : Pfx} {y : Int} : tget rs p = some y ↔ (p, y) ∈ rsPairs rs := by
  rw [mem_rs o]
  unfold tget
  by_cases hp : mayP p = true
  · rw [if_pos hp, T.find_get (treeOf_ok o p.fam p.rd)]
    simp only [hp, true_and]
    have ok := treeOf_ok o p.fam p.rd
    generalize treeOf p.fam p.rd rs = t at ok
    constructor
    · intro h
      cases hf : t.pairs.find? (fun x => decide (x.1 = kOf p)) with
      | none => rw [hf] at h; simp at h
      | some z =>
        rw [hf] at h
        simp at h
        have h1 := List.find?_some hf
        have h2 := List.mem_of_find?_eq_some hf
        simp at h1
        rw [← h1, ← h]; exact h2
    · intro h
      cases hf : t.pairs.find? (fun x => decide (x.1 = kOf p)) with
      | none =>
        have := List.find?_eq_none.1 hf _ h
        simp at this
      | some z =>
        have h1 := List.find?_some hf
        have h2 := List.mem_of_find?_eq_some hf
        simp at h1
        have s := ok.sorted
        have e : z.2 = y := by
          have : ∀ {l : List (List Bool × Int)}, (l.Pairwise fun x y => bl x.1 y.1 = true) → z ∈ l → (kOf p, y) ∈ l → z.2 = y := by
            intro l
            induction l with
            | nil => intro _ hz; simp at hz
            | cons a l ih =>
              intro s hz hy
              obtain ⟨s1, s2⟩ := List.pairwise_cons.1 s
              rcases List.mem_cons.1 hz with e1 | hz <;> rcases List.mem_cons.1 hy with e2 | hy
              · rw [← e1] at e2; rw [← e2]
              · have := s1 _ hy; rw [← e1, h1, bl_irr] at this; cases this
              · have := s1 _ hz; rw [← e2, h1, bl_irr] at this; cases this
              · exact ih s2 hz hy
          exact this s h2 h
        simp [e]
  · rw [if_neg hp]; simp [hp]
/-- What is taken away was there. -/
theorem tgone_iff {rs : List Rt} (o : RsOk rs) {p : Pfx} (hp : mayP p = true) : tgone rs p = (tget rs p).isSome := by
  have h1 := tdel_len rs p
  have s1 := rs_sorted o
  have s2 := rs_sorted (tdel_ok o hp)
  cases hg : tget rs p with
  | none =>
    have hn : ∀ y, (p, y) ∉ rsPairs rs := fun y hy => by have := (tget_iff o).2 hy; rw [hg] at this; cases this
    have e : rsPairs (tdel rs p) = rsPairs rs := psorted_eq s2 s1 fun x => by
      obtain ⟨q, y⟩ := x
      rw [tdel_mem o hp]
      constructor
      · exact fun h => h.2
      · exact fun h => ⟨fun e => hn y (e ▸ h), h⟩
    rw [e] at h1
    cases hx : tgone rs p with
    | false => rfl
    | true => rw [hx] at h1; simp at h1
  | some y =>
    have hy := (tget_iff o).1 hg
    cases hx : tgone rs p with
    | true => rfl
    | false =>
      exfalso
      rw [hx] at h1
      simp at h1
      have e : rsPairs (tdel rs p) = (rsPairs rs).filter fun z => decide (z.1 ≠ p) := psorted_eq s2 (s1.filter _) fun z => by
        obtain ⟨q, w⟩ := z
        rw [tdel_mem o hp, List.mem_filter]
        simp [and_comm]
      rw [e] at h1
      have : ((rsPairs rs).filter fun z => decide (z.1 ≠ p)).length < (rsPairs rs).length := List.length_filter_lt_length_iff_exists.2 ⟨(p, y), hy, by simp⟩
      omega
theorem tunder_eq {rs : List Rt} (o : RsOk rs) (p : Pfx) : tunder rs p = (rsPairs rs).filter fun x => covP p x.1 := by
  unfold tunder
  by_cases hp : mayP p = true
  · rw [if_pos hp]
    obtain ⟨ep, kB⟩ := may_pk hp
    obtain ⟨x1, _, _, _, x5, _⟩ := may_parts hp
    have ok := treeOf_ok o p.fam p.rd
    refine psorted_eq ?_ ((rs_sorted o).filter _) fun x => ?_
    · unfold PSorted told
      rw [List.pairwise_map]
      refine List.Pairwise.imp_of_mem ?_ (ok.sorted.filter _)
      intro a b ha hb h
      exact pk_lt (ok.keys a (List.mem_filter.1 ha).1).2 (ok.keys b (List.mem_filter.1 hb).1).2 h
    · obtain ⟨q, y⟩ := x
      rw [List.mem_filter, mem_rs o]
      simp only [told, List.mem_map, List.mem_filter, Prod.mk.injEq]
      constructor
      · rintro ⟨⟨k, z⟩, ⟨h1, h2⟩, rfl, rfl⟩
        have hk := (ok.keys _ h1).2
        refine ⟨⟨pk_may x1 x5 hk, ?_⟩, ?_⟩
        · show (kOf (pk p.fam p.rd k), z) ∈ (treeOf p.fam p.rd rs).pairs
          rw [kOf_pk hk]; exact h1
        · rw [ep]
          show covP (pk p.fam p.rd (kOf p)) (pk p.fam p.rd k) = true
          rw [covP_pk x1 x5 kB hk]; exact h2
      · rintro ⟨⟨h1, h2⟩, h3⟩
        obtain ⟨c1, c2, _, _⟩ := covP_other h3
        obtain ⟨eq, kq⟩ := may_pk h1
        rw [← c1, ← c2] at h2
        refine ⟨(kOf q, y), ⟨h2, ?_⟩, ?_, rfl⟩
        · rw [eq, ep, ← c1, ← c2, covP_pk x1 x5 kB (by rw [c1]; exact kq)] at h3
          exact h3
        · rw [c1, c2]; exact eq.symm
  · rw [if_neg hp]
    symm
    rw [List.filter_eq_nil_iff]
    intro x _ hc
    exact hp (covP_other hc).2.2.2
theorem PSorted.nodup {l : List (Pfx × Int)} (s : PSorted l) : l.Nodup := s.imp fun {a b} h e => by rw [e] at h; exact cmp_irr _ h
end Go.Am
