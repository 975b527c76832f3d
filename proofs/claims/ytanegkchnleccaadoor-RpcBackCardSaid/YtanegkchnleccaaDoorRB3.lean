/-
  Questions come back from their bytes; RpcBack's contract.
-/
import Derived.Test.YtanegkchnleccaaDoorPE
import Derived.Test.YtanegkchnleccaaDoorRW
namespace Go.Am
open Go.Proofs

set_option maxRecDepth 100000
theorem rd_app {r : Rq} (hm : mayRq r = true) (hr : r.p.rd < 18446744073709551616) (z : List UInt8) : rdQ (encRq r ++ z) = r ∧ rdE (encRq r ++ z) = (z, true) := by
  obtain ⟨⟨k1, k2⟩, hn, ⟨f1, f2⟩, hp4, hz⟩ := mayRq_fit hm
  obtain ⟨k, n, f, p⟩ := r
  simp only at k1 k2 hn f1 f2 hp4 hz hr
  obtain ⟨a, rfl⟩ := Int.eq_ofNat_of_zero_le (show 0 ≤ k by omega)
  obtain ⟨b, rfl⟩ := Int.eq_ofNat_of_zero_le f1
  obtain ⟨tl, htl⟩ : ∃ tl, tl = if (a : Int) = 4 then pfxB p else [] := ⟨_, rfl⟩
  have es : encRq ⟨(a : Int), n, (b : Int), p⟩ ++ z = be 1 a ++ (txtB n ++ (be 1 b ++ (tl ++ z))) := by simp [encRq, htl]
  obtain ⟨s, hs⟩ : ∃ s, s = encRq ⟨(a : Int), n, (b : Int), p⟩ ++ z := ⟨_, rfl⟩
  rw [← hs]
  have x1 := vl_app (n := 1) (v := a) (l := txtB n ++ (be 1 b ++ (tl ++ z))) (b := true) (by omega)
  rw [← es, ← hs] at x1
  have x2 := xn_app (t := n) (l := be 1 b ++ (tl ++ z)) (b := true) (by omega)
  have x3 := vl_app (n := 1) (v := b) (l := tl ++ z) (b := true) (by omega)
  have ek : rdK s = a := x1.2
  have e3 : rd3 s = (tl ++ z, true) := by unfold rd3; rw [x1.1, x2.1, x3.1]
  unfold rdQ rdE
  rw [ek, x1.1, x2.1, x2.2, x3.2, e3]
  by_cases h4 : a = 4
  · have t4 : tl ++ z = pfxB p ++ z := by rw [htl, if_pos (by omega)]
    obtain ⟨pf, pal⟩ := mayP_fit (hp4 (by omega)) hr
    have x4 := pn_app (l := z) (b := true) pf pal
    rw [← t4] at x4
    rw [if_pos h4, if_pos h4, x4.1, x4.2]
    exact ⟨rfl, rfl⟩
  · have t4 : tl = [] := by rw [htl, if_neg (by omega)]
    rw [if_neg h4, if_neg h4, t4, hz (by omega)]
    exact ⟨rfl, rfl⟩
theorem decOf_ok {s : List UInt8} {r : Rq} (h : decOf s = some r) : mayRq r = true ∧ encRq r = s ∧ r.p.rd < 18446744073709551616 := by
  unfold decOf at h
  split at h
  · rename_i hc
    obtain ⟨h1, h2, h3⟩ := hc
    cases h
    refine ⟨h3, ?_, ?_⟩
    · have key : (rd3 s).2 = true ∧ (rd3 s).1 = if rdK s = 4 then pfxB (pv (rd3 s)) else [] := by
        unfold rdE at h1 h2
        split at h1
        · rename_i h4
          rw [if_pos h4] at h2 ⊢
          obtain ⟨a1, a2⟩ := pn_ok h1
          rw [h2, List.append_nil] at a2
          exact ⟨a1, a2⟩
        · rename_i h4
          rw [if_neg h4] at h2 ⊢
          exact ⟨h1, h2⟩
      obtain ⟨b1, b2⟩ := key
      have b3 : (nx 1 (xn (nx 1 (s, true)))).2 = true := b1
      obtain ⟨c1, c2, _⟩ := nx_ok b3
      obtain ⟨d1, d2⟩ := xn_ok c1
      obtain ⟨_, e2, _⟩ := nx_ok d1
      have e2' : s = be 1 (rdK s) ++ (nx 1 (s, true)).1 := e2
      have c2' : (xn (nx 1 (s, true))).1 = be 1 (vl 1 (xn (nx 1 (s, true)))) ++ (rd3 s).1 := c2
      obtain ⟨s0, hs0⟩ : ∃ s0, s0 = s := ⟨_, rfl⟩
      have : s = be 1 (rdK s) ++ (txtB (xv (nx 1 (s, true))) ++ (be 1 (vl 1 (xn (nx 1 (s, true)))) ++ if rdK s = 4 then pfxB (pv (rd3 s)) else [])) := by
        rw [← b2, ← c2', ← d2]
        exact e2'
      refine Eq.trans ?_ this.symm
      unfold encRq rdQ
      by_cases h4 : rdK s = 4
      · have i4 : (rdK s : Int) = 4 := by omega
        simp only [if_pos h4, if_pos i4, Int.toNat_natCast, List.append_assoc]
      · have i4 : ¬ (rdK s : Int) = 4 := by omega
        simp only [if_neg h4, if_neg i4, Int.toNat_natCast, List.append_assoc]
    · unfold rdQ
      simp only
      split
      · have := vl_lt 8 (nx 1 (rd3 s))
        unfold pv
        simp only
        omega
      · decide
  · cases h
theorem enc_pre {a b : Rq} {z : List UInt8} (ha : mayRq a = true) (hra : a.p.rd < 18446744073709551616) (hb : mayRq b = true) (hrb : b.p.rd < 18446744073709551616) (h : encRq b = encRq a ++ z) : a = b ∧ z = [] := by
  have h1 := rd_app ha hra z
  have h2 := rd_app hb hrb []
  rw [List.append_nil, h] at h2
  refine ⟨h1.1.symm.trans h2.1, ?_⟩
  have := h1.2.symm.trans h2.2
  simpa using this
theorem dec_back {a : Rq} (ha : mayRq a = true) (hra : a.p.rd < 18446744073709551616) : decOf (encRq a) = some a := by
  have h := rd_app ha hra []
  rw [List.append_nil] at h
  unfold decOf
  rw [h.1, h.2, if_pos ⟨rfl, rfl, ha⟩]
theorem dec_more {a : Rq} (ha : mayRq a = true) (hra : a.p.rd < 18446744073709551616) : decOf (encRq a ++ [0]) = none := by
  have h := rd_app ha hra [0]
  unfold decOf
  rw [h.2, if_neg (by simp)]
theorem dec_less {a : Rq} (ha : mayRq a = true) (hra : a.p.rd < 18446744073709551616) {n : Nat} (hn : n < (encRq a).length) : decOf ((encRq a).take n) = none := by
  cases h : decOf ((encRq a).take n) with
  | none => rfl
  | some r =>
    exfalso
    obtain ⟨h1, h2, h3⟩ := decOf_ok h
    have := enc_pre h1 h3 ha hra (z := (encRq a).drop n) (by rw [h2, List.take_append_drop])
    have h4 := congrArg List.length this.2
    simp at h4
    omega
theorem rback_ct {h : H} {x y : Rw} (fx : RwFit x) (fy : RwFit y) : Pure Tryd.prog 3 [.agg (rawC x), .agg (rawC y)] h (.bool true) := by
  refine pure_to Tryd.func3 S.Hlaw33_RpcBack_code S.Hlaw33_RpcBack_enter rfl (Nat.le_of_ble_eq_true rfl) fun wf => ?_; simp only [S.Hlaw33_RpcBack]
  obtain ⟨a, ha⟩ : ∃ a, a = askR x := ⟨_, rfl⟩
  obtain ⟨b, hb⟩ : ∃ b, b = askR y := ⟨_, rfl⟩
  have ma : mayRq a = true := by rw [ha]; exact ask_may fx
  have mb : mayRq b = true := by rw [hb]; exact ask_may fy
  have ra : a.p.rd < 18446744073709551616 := by rw [ha]; exact ask_rd fx
  have rb : b.p.rd < 18446744073709551616 := by rw [hb]; exact ask_rd fy
  have ka := fun g : H => ask_ct (h := g) fx
  have kb := fun g : H => ask_ct (h := g) fy
  rw [← ha] at ka
  rw [← hb] at kb
  obtain ⟨A, hA⟩ : ∃ A, A = rawC x := ⟨_, rfl⟩
  obtain ⟨B, hB⟩ : ∃ B, B = rawC y := ⟨_, rfl⟩
  rw [← hA] at ka
  rw [← hB] at kb
  rw [← hA, ← hB]
  have lA : A.length = 21 := by rw [hA]; simp [rawC, fx.addr]
  have lB : B.length = 21 := by rw [hB]; simp [rawC, fy.addr]
  have oA : A.all V.one = true := by rw [hA]; simp [rawC, byteV]
  have oB : B.all V.one = true := by rw [hB]; simp [rawC, byteV]
  have bA : ∀ n, boxV n (.agg A) = some (.ptr n 21 0, .push (.row A)) := fun n => by rw [boxV_agg, if_pos oA, lA]
  have bB : ∀ n, boxV n (.agg B) = some (.ptr n 21 0, .push (.row B)) := fun n => by rw [boxV_agg, if_pos oB, lB]
  have tA : A.take 21 = A := List.take_of_length_le (by omega)
  have tB : B.take 21 = B := List.take_of_length_le (by omega)
  simp [bA, bB]
  obtain ⟨h1, hh1⟩ : ∃ h1, h1 = (h.push (.row A)).push (.row B) := ⟨_, rfl⟩
  have N1 : h1.next = h.next + 2 := by rw [hh1]; simp
  have w1 : h1.WF := by rw [hh1]; exact (wf.push _).push _
  have g1 : Ge h h1 := by rw [hh1]; exact ((Ge.refl _).push _).push _
  have cA : cellsAt h1.get h.next 21 = some A := by rw [hh1]; simp [lA]
  have cB : cellsAt h1.get (h.next + 1) 21 = some B := by rw [hh1]; simp [lB]
  rw [← hh1]
  refine dreg_dwp ?_
  simp [cA, lA, tA]
  refine dcall_at 1 (by rfl) (callEv_pure (h := h1) (v := .agg (rqC a)) rfl (by simp [room]) (by simp) (fun i hi => rfl) (fun h3 g3 => ka h3)) ?_
  simp [cB, lB, tB]
  refine dcall_at 3 (by rfl) (callEv_pure (h := h1) (v := .agg (rqC b)) rfl (by simp [room]) (by simp) (fun i hi => by simp) (fun h3 g3 => kb h3)) ?_
  have hr : room = 16 := rfl
  have n45 : (h1.next + 4 * room = h1.next + 5 * room) = False := eq_false (by omega)
  have n54 : (5 * room = 4 * room) = False := eq_false (by omega)
  have n45' : (4 * room = 5 * room) = False := eq_false (by omega)
  simp [rqC, upds_one, n45', n54]
  refine dwp_end ?_ ?_
  · simp [evAt, apart, I.foot, refOf]
    omega
  obtain ⟨q4, hq4⟩ : ∃ q, q = h1.next + 4 * room := ⟨_, rfl⟩
  obtain ⟨q5, hq5⟩ : ∃ q, q = h1.next + 5 * room := ⟨_, rfl⟩
  rw [← hq4, ← hq5]
  obtain ⟨g2, hg2⟩ : ∃ g, g = upds (upds (upds (upds h1.get [(q4, .row [V.int .i64 0, V.str [], V.int .i64 0, V.int .i64 0, V.int .u64 0, V.str [], V.int .i64 0])]) [(q5, .row [V.int .i64 0, V.str [], V.int .i64 0, V.int .i64 0, V.int .u64 0, V.str [], V.int .i64 0])]) [(q4, .row [V.int .i64 a.kind, V.str a.name, V.int .i64 a.fam, V.int .i64 a.p.fam, V.int .u64 (a.p.rd : Int), V.str a.p.addr, V.int .i64 a.p.len])]) [(q5, .row [V.int .i64 b.kind, V.str b.name, V.int .i64 b.fam, V.int .i64 b.p.fam, V.int .u64 (b.p.rd : Int), V.str b.p.addr, V.int .i64 b.p.len])] := ⟨_, rfl⟩
  have ne45 : q4 ≠ q5 := by omega
  have x4 : cellsAt g2 q4 7 = some [V.int .i64 a.kind, V.str a.name, V.int .i64 a.fam, V.int .i64 a.p.fam, V.int .u64 (a.p.rd : Int), V.str a.p.addr, V.int .i64 a.p.len] := by rw [hg2]; simp [ne45]
  have x5 : cellsAt g2 q5 7 = some [V.int .i64 b.kind, V.str b.name, V.int .i64 b.fam, V.int .i64 b.p.fam, V.int .u64 (b.p.rd : Int), V.str b.p.addr, V.int .i64 b.p.len] := by rw [hg2]; simp
  have gx : ∀ j, j < h.next → g2 j = h.get j := fun j hj => by
    rw [hg2, upds_one, if_neg (by omega), upds_one, if_neg (by omega), upds_one, if_neg (by omega), upds_one, if_neg (by omega)]
    exact g1.2 j hj
  have ge : ∀ nx, h.next ≤ nx → Ge h ⟨nx, g2⟩ := fun nx hx => ⟨hx, fun j hj => gx j hj⟩
  have fa := mayRq_fit ma
  have fb := mayRq_fit mb
  have ea : ∀ g : H, Pure Tryd.prog 5 [.agg (rqC a)] g (.tup [.str (encRq a), .int .i64 0]) := fun g => by
    have := rencode_ct (h := g) (r := a) (by omega) ra
    unfold encV at this
    rwa [if_pos ma] at this
  have eb : ∀ g : H, Pure Tryd.prog 5 [.agg (rqC b)] g (.tup [.str (encRq b), .int .i64 0]) := fun g => by
    have := rencode_ct (h := g) (r := b) (by omega) rb
    unfold encV at this
    rwa [if_pos mb] at this
  have ck : ∀ g : H, Pure Tryd.prog 7 [.agg (rqC a)] g (.int .i64 0) := fun g => by
    have := rcheck_ct (h := g) (r := a) (by omega)
    rwa [if_pos ma] at this
  have da : ∀ g : H, Pure Tryd.prog 6 [.str (encRq a)] g (.tup [.agg (rqC a), .int .i64 0]) := fun g => by
    have := rdecode_ct (h := g) (s := encRq a)
    rwa [dec_back ma ra] at this
  have dm : ∀ g : H, Pure Tryd.prog 6 [.str (encRq a ++ [0])] g (.tup [.agg (rqC zeroR), .int .i64 4]) := fun g => by
    have := rdecode_ct (h := g) (s := encRq a ++ [0])
    rwa [dec_more ma ra] at this
  obtain ⟨s, hs⟩ : ∃ s, s = encRq a := ⟨_, rfl⟩
  obtain ⟨u, hu⟩ : ∃ u, u = encRq b := ⟨_, rfl⟩
  have spos : 0 < s.length := by rw [hs]; simp [encRq, be_len]; omega
  have slen : s.length ≤ 1000000 := by
    rw [hs]
    by_cases h4 : a.kind = 4
    · obtain ⟨pf, _⟩ := mayP_fit (fa.2.2.2.1 h4) ra
      have hp := pf.addr
      have : a.p.addr.length ≤ 16 := by
        obtain ⟨_, pal⟩ := mayP_fit (fa.2.2.2.1 h4) ra
        have := size_le a.p.fam
        omega
      simp [encRq, be_len, txtB_len, h4, pfxB]; omega
    · simp [encRq, be_len, txtB_len, h4]; omega
  have dl : ∀ g : H, Pure Tryd.prog 6 [.str (s.take (s.length - 1))] g (.tup [.agg (rqC zeroR), .int .i64 4]) := fun g => by
    have := rdecode_ct (h := g) (s := s.take (s.length - 1))
    rw [hs, dec_less ma ra (by rw [← hs]; omega)] at this
    rw [hs]
    exact this
  have pre : ∀ z, u = s ++ z → a = b := fun z hz => (enc_pre ma ra mb rb (z := z) (by rw [← hu, ← hs]; exact hz)).1
  have q1 := eq_rq a a
  have q2 := eq_rq a b
  simp only [decide_true] at q1
  rw [← hs] at ea da dm
  rw [← hu] at eb
  simp only [rqC] at ea eb ck da q1 q2
  simp [← hg2, x4]
  refine ea _ _ ?_
  simp [x5]
  refine eb _ _ ?_
  simp
  refine da _ _ ?_
  have n48 : (q4 = h1.next + 8 * room) = False := eq_false (by omega)
  have n58 : (q5 = h1.next + 8 * room) = False := eq_false (by omega)
  have wl : IntKind.i64.wrap ((s.length : Int) - 1) = ((s.length - 1 : Nat) : Int) := by rw [wrap_i64_id (by omega) (by omega)]; omega
  obtain ⟨l1, hl1⟩ : ∃ l1, l1 = s.length - 1 := ⟨_, rfl⟩
  rw [← hl1] at wl dl
  have l1s : l1 ≤ s.length := by omega
  have k1 : s.length + 1 ≤ 9223372036854775807 := by omega
  simp [x4, q1, n48]
  refine ck _ _ ?_
  have fin : ∀ nx o1 o2, h.next ≤ nx → Ge h (((⟨nx, g2⟩ : H).push o1).set nx o2) := fun nx o1 o2 hx => ((ge nx hx).push _).set hx _
  by_cases hab : a = b
  · have q2' := q2
    rw [decide_eq_true hab] at q2'
    simp [x4, x5, n48, n58, q2', k1]
    refine dm _ _ ?_
    simp [wl, l1s]
    refine dl _ _ ?_
    simp
    refine works_ct _ _ ?_
    simp
    exact fin _ _ _ (by omega)
  · have q2' := q2
    rw [decide_eq_false hab] at q2'
    by_cases hle : s.length ≤ u.length
    · have ile : (s.length : Int) ≤ (u.length : Int) := by omega
      have bt : (u.take s.length == s) = false := beq_eq_false_iff_ne.2 fun e => hab (pre (u.drop s.length) (by rw [← e, List.length_take, Nat.min_eq_left hle, List.take_append_drop]))
      simp [x4, x5, n48, n58, q2', k1, hle, bt]
      refine dm _ _ ?_
      simp [wl, l1s]
      refine dl _ _ ?_
      simp
      refine works_ct _ _ ?_
      simp
      exact fin _ _ _ (by omega)
    · have ile : ¬ (s.length : Int) ≤ (u.length : Int) := by omega
      simp [x4, x5, n48, n58, q2', k1, hle]
      refine dm _ _ ?_
      simp [wl, l1s]
      refine dl _ _ ?_
      simp
      refine works_ct _ _ ?_
      simp
      exact fin _ _ _ (by omega)
end Go.Am
