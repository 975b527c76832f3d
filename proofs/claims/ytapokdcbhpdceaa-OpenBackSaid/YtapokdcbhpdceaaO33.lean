/-
  What is encoded comes back: the plain law, joined.
-/
import Derived.Test.YtapokdcbhpdceaaO32
namespace Go.Am
open Go.Proofs

structure Facts (o : Opn) : Prop where
  asn : o.asn ≠ 0
  four : o.four = false → o.asn ≤ 65535
  h0 : 0 ≤ o.hold
  h1 : o.hold ≠ 1
  h2 : o.hold ≠ 2
  h3 : o.hold ≤ 65535
  id : o.id ≠ 0
  fams : FamOk o.fams
  ne : o.fams ≠ []
  adds : FamOk (o.adds.map Add.fam)
  how : ∀ x ∈ o.adds, (x.send || x.take) = true
  gr : o.hasgr = false → o.again = false ∧ o.time = 0 ∧ o.kept = []
  t0 : 0 ≤ o.time
  t1 : o.time ≤ 4095
  kept : FamOk (o.kept.map Rest.fam)
theorem fam_of {l : List Int} (h : rising 0 l = true) : FamOk l := ⟨rising_pair _ _ h, fun x hx => ⟨by have := rising_mem _ _ h x hx; omega, rising_le _ _ h x hx⟩⟩
theorem facts {o : Opn} (h : checkB o = true) : Facts o := by
  simp only [checkB, Bool.not_eq_true', Bool.or_eq_false_iff, Bool.not_eq_false', decide_eq_false_iff_not] at h
  obtain ⟨⟨⟨⟨⟨⟨⟨⟨⟨⟨⟨⟨⟨⟨a1, a2⟩, a3⟩, a4⟩, a5⟩, a6⟩, a7⟩, a8⟩, a9⟩, a10⟩, a11⟩, a12⟩, a13⟩, a14⟩, a15⟩ := h
  refine ⟨by simpa using a1, fun hf => ?_, by omega, by simpa using a4, by simpa using a5, by omega, by simpa using a7, fam_of a9, by intro e; rw [e] at a8; simp at a8, fam_of a10, fun x hx => ?_, fun hg => ?_, by omega, by omega, fam_of a15⟩
  · rw [hf] at a2; simp at a2; omega
  · rw [List.any_eq_false] at a11
    have := a11 x hx
    cases h1 : x.send <;> cases h2 : x.take <;> simp_all
  · rw [hg] at a12
    simp at a12
    exact ⟨a12.1.1, a12.1.2, a12.2⟩
theorem step_ref (r : Bool) (st : Opn) (rest : List UInt8) (h : st.refresh = false) : eachB capS st ((if r = true then capB 2 [] else []) ++ rest) = eachB capS { st with refresh := r } rest := by
  cases r with
  | false => cases st; simp only at h; subst h; rfl
  | true =>
    rw [if_pos rfl, eachB_cap (by omega) (by simp)]
    rfl
theorem step_gr {o : Opn} (F : Facts o) (st : Opn) (rest : List UInt8) (h1 : st.hasgr = false) (h2 : st.again = false) (h3 : st.time = 0) (h4 : st.kept = []) (hf : ∀ x ∈ o.kept, fam5 x.fam) (h5 : o.kept.length ≤ 5) :
    eachB capS st ((if o.hasgr = true then capB 64 (be 2 (o.time.toNat + if o.again = true then 32768 else 0) ++ keptB o.kept) else []) ++ rest) = eachB capS { st with hasgr := o.hasgr, again := o.again, time := o.time, kept := o.kept } rest := by
  have t0 := F.t0
  have t1 := F.t1
  cases hg : o.hasgr with
  | false =>
    obtain ⟨b1, b2, b3⟩ := F.gr hg
    rw [b1, b2, b3]
    cases st; simp only at h1 h2 h3 h4; subst h1 h2 h3 h4; rfl
  | true =>
    rw [if_pos rfl, eachB_cap (by omega) (by simp [be_len, keptB_len] <;> omega)]
    obtain ⟨tn, htn⟩ : ∃ n : Nat, o.time = n := ⟨o.time.toNat, by omega⟩
    obtain ⟨nv, hnv⟩ : ∃ nv, nv = o.time.toNat + (if o.again = true then 32768 else 0) := ⟨_, rfl⟩
    have hn : nv < 256 ^ 2 := by rw [hnv]; split <;> omega
    rw [← hnv]
    have e1 : (be 2 nv ++ keptB o.kept).take 2 = be 2 nv := List.take_left' (be_len _ _)
    have e2 : (be 2 nv ++ keptB o.kept).drop 2 = keptB o.kept := List.drop_left' (be_len _ _)
    have hl : ¬ ((be 2 nv ++ keptB o.kept).length < 2 ∨ (be 2 nv ++ keptB o.kept).length % 4 ≠ 2) := by simp [be_len, keptB_len] <;> omega
    have hcs : capS st 64 (be 2 nv ++ keptB o.kept) = .ok { st with hasgr := true, again := o.again, time := o.time, kept := o.kept } := by
      unfold capS
      rw [if_neg (by omega), if_neg (by omega), if_pos rfl, if_neg hl, e1, e2, val_be_lt hn, kept_back F.kept hf]
      congr 1
      have ha : decide (32768 ≤ nv) = o.again := by
        rw [hnv]; cases o.again <;> simp <;> omega
      have ht : ((nv % 4096 : Nat) : Int) = o.time := by
        rw [hnv]; cases o.again <;> simp <;> omega
      rw [ha, ht]
    rw [hcs]
theorem step_four {o : Opn} (hk : o.Ok) (F : Facts o) (st : Opn) (rest : List UInt8) (h1 : st.four = false) (h2 : o.four = false → st.asn = o.asn) :
    eachB capS st ((if o.four = true then capB 65 (be 4 o.asn.toNat) else []) ++ rest) = eachB capS { st with four := o.four, asn := o.asn } rest := by
  have a0 := hk.a0
  have a1 := hk.a1
  cases hg : o.four with
  | false =>
    have := h2 hg
    cases st; simp only at h1 this; subst h1 this; rfl
  | true =>
    rw [if_pos rfl, eachB_cap (by omega) (by simp [be_len])]
    have hv : val (be 4 o.asn.toNat) = o.asn.toNat := val_be_lt (by omega)
    have hz : ¬ o.asn.toNat = 0 := by have := F.asn; omega
    have hcs : capS st 65 (be 4 o.asn.toNat) = .ok { st with four := true, asn := o.asn } := by
      unfold capS
      rw [if_neg (by omega), if_neg (by omega), if_neg (by omega), if_pos rfl, if_pos (be_len _ _), hv, if_neg hz]
      congr 2
      omega
    rw [hcs]
theorem step_adds {o : Opn} (F : Facts o) (st : Opn) (h1 : st.adds = []) (hf : ∀ x ∈ o.adds, fam5 x.fam) (h5 : o.adds.length ≤ 5) :
    eachB capS st (if o.adds.isEmpty = true then [] else capB 69 (addsB o.adds)) = .ok { st with adds := o.adds } := by
  cases hg : o.adds.isEmpty with
  | true =>
    have : o.adds = [] := List.isEmpty_iff.1 hg
    rw [this]
    cases st; simp only at h1; subst h1; simp [eachB]
  | false =>
    rw [if_neg (by simp), ← List.append_nil (capB 69 (addsB o.adds)), eachB_cap (by omega) (by simp [addsB_len] <;> omega)]
    have hcs : capS st 69 (addsB o.adds) = .ok { st with adds := o.adds } := by
      unfold capS
      rw [if_neg (by omega), if_neg (by omega), if_neg (by omega), if_neg (by omega), if_pos rfl, if_pos (by rw [addsB_len]; omega), adds_back F.adds hf F.how]
    rw [hcs]
    simp [eachB]
theorem caps_back {o : Opn} (hk : o.Ok) (hc : checkB o = true) (st : Opn) (h1 : st.fams = []) (h2 : st.refresh = false) (h3 : st.hasgr = false) (h4 : st.again = false) (h5 : st.time = 0) (h6 : st.kept = []) (h7 : st.four = false) (h8 : o.four = false → st.asn = o.asn) (h9 : st.adds = []) (h10 : st.hold = o.hold) (h11 : st.id = o.id) :
    eachB capS st (capsB o) = .ok o := by
  have F := facts hc
  have G := good_of hc
  simp only [capsB, cap3, cap2, cap1, List.append_assoc]
  rw [fams_back _ _ _ G.ff, h1, fold_with _ [] (by simpa using F.fams), List.nil_append, step_ref, step_gr F, step_four hk F, step_adds F]
  · cases o; cases st
    simp only at h10 h11
    subst h10 h11
    rfl
  all_goals first | exact h2 | exact h3 | exact h4 | exact h5 | exact h6 | exact h7 | exact h8 | exact h9 | exact G.kf | exact G.k5 | exact G.af | exact G.a5
theorem dec_enc {o : Opn} (hk : o.Ok) (hc : checkB o = true) : decB (encB o) = .ok o := by
  have F := facts hc
  have G := good_of hc
  obtain ⟨a0, a1, i0, i1⟩ := hk
  have hk : o.Ok := ⟨a0, a1, i0, i1⟩
  obtain ⟨_, _, _, _, cl⟩ := cap_len G
  have hh0 := F.h0
  have hh3 := F.h3
  obtain ⟨A, hA⟩ : ∃ A : Nat, A = (if 65535 < o.asn then 23456 else o.asn.toNat) := ⟨_, rfl⟩
  have hA1 : A < 256 ^ 2 := by rw [hA]; split <;> omega
  have hA0 : A ≠ 0 := by have := F.asn; rw [hA]; split <;> omega
  have hH : o.hold.toNat < 256 ^ 2 := by omega
  have hI : o.id.toNat < 256 ^ 4 := by omega
  have hI0 : o.id.toNat ≠ 0 := by have := F.id; omega
  have hL : (capsB o).length + 2 < 256 ^ 1 := by omega
  have hs : encB o = be 1 4 ++ (be 2 A ++ (be 2 o.hold.toNat ++ (be 4 o.id.toNat ++ (be 1 ((capsB o).length + 2) ++ (capB 2 (capsB o) ++ []))))) := by
    simp only [encB, ← hA, capB, List.append_assoc, List.append_nil]
  obtain ⟨R, hR⟩ : ∃ R, R = capB 2 (capsB o) ++ [] := ⟨_, rfl⟩
  rw [← hR] at hs
  have d1 : (encB o).drop 1 = be 2 A ++ (be 2 o.hold.toNat ++ (be 4 o.id.toNat ++ (be 1 ((capsB o).length + 2) ++ R))) := by rw [hs]; exact List.drop_left' (be_len _ _)
  have d3 : (encB o).drop 3 = be 2 o.hold.toNat ++ (be 4 o.id.toNat ++ (be 1 ((capsB o).length + 2) ++ R)) := by
    rw [show (3 : Nat) = 1 + 2 from rfl, ← List.drop_drop, d1]; exact List.drop_left' (be_len _ _)
  have d5 : (encB o).drop 5 = be 4 o.id.toNat ++ (be 1 ((capsB o).length + 2) ++ R) := by
    rw [show (5 : Nat) = 3 + 2 from rfl, ← List.drop_drop, d3]; exact List.drop_left' (be_len _ _)
  have d9 : (encB o).drop 9 = be 1 ((capsB o).length + 2) ++ R := by
    rw [show (9 : Nat) = 5 + 4 from rfl, ← List.drop_drop, d5]; exact List.drop_left' (be_len _ _)
  have d10 : (encB o).drop 10 = R := by
    rw [show (10 : Nat) = 9 + 1 from rfl, ← List.drop_drop, d9]; exact List.drop_left' (be_len _ _)
  have hRl : R.length = (capsB o).length + 2 := by rw [hR]; simp [capB, be_len]; omega
  have hlen : ¬ (encB o).length < 10 := by rw [hs]; simp [be_len]; omega
  have t0 : (encB o).take 1 = be 1 4 := by rw [hs]; exact List.take_left' (be_len _ _)
  have v0 : val (be 1 4) = 4 := val_be_lt (by omega)
  have v1 : val (((encB o).drop 1).take 2) = A := by rw [d1, List.take_left' (be_len _ _), val_be_lt hA1]
  have v2 : val (((encB o).drop 3).take 2) = o.hold.toNat := by rw [d3, List.take_left' (be_len _ _), val_be_lt hH]
  have v3 : val (((encB o).drop 5).take 4) = o.id.toNat := by rw [d5, List.take_left' (be_len _ _), val_be_lt hI]
  have v4 : val (((encB o).drop 9).take 1) = (capsB o).length + 2 := by rw [d9, List.take_left' (be_len _ _), val_be_lt hL]
  have key : eachB step1 ⟨(A : Nat), (o.hold.toNat : Nat), (o.id.toNat : Nat), [], false, false, [], false, false, 0, []⟩ R = .ok o := by
    rw [hR, eachB_cap (by omega) (by omega)]
    have : step1 ⟨(A : Nat), (o.hold.toNat : Nat), (o.id.toNat : Nat), [], false, false, [], false, false, 0, []⟩ 2 (capsB o) = .ok o := by
      unfold step1
      rw [if_pos rfl]
      refine caps_back hk hc _ rfl rfl rfl rfl rfl rfl rfl (fun hf => ?_) rfl (by simp only; omega) (by simp only; omega)
      have := F.four hf
      simp only
      rw [hA, if_neg (by omega)]; omega
    rw [this]
    simp [eachB]
  unfold decB
  rw [if_neg hlen, t0, v0, if_neg (by simp), v1, if_neg hA0, v2, if_neg (by have := F.h1; have := F.h2; omega), v3, if_neg hI0, v4, d10, if_neg (by rw [hRl]; simp), key]
  simp only
  rw [if_neg (by have := F.ne; simpa using this)]
end Go.Am
