/-
  RP7, RP8, RP9, RP10, in one text.
-/
import Derived.Test.YtanegkchnleccaaGreatDoorPD
import Derived.Test.YtanegkchnleccaaGreatDoorPC
import Derived.Test.YtanegkchnleccaaGreatDoorPA
/-
  The taker made; questions read.
-/
namespace Go.Am
open Go.Proofs

set_option maxRecDepth 100000
theorem taking_ct {h : H} {s : List UInt8} {Q : V → H → Prop} (q : ∀ c d i h', Tk h' c d i (s, true) → Ge h h' → h'.WF → h.next ≤ c ∧ h.next ≤ d ∧ h.next ≤ i → Q (.agg (tkr c d)) h') : Acalls Tryz.prog 22 [.str s] h Q := by
  refine acalls_to Tryz.func22 S.rpc_taking_code S.rpc_taking_enter (Nat.le_of_ble_eq_true rfl) fun wf => ?_; simp only [S.rpc_taking]
  have on : ∀ f a b, (V.func f a b).one = true := fun _ _ _ => rfl
  have so : ∀ f a b, (V.func f a b).solid = true := fun _ _ _ => rfl
  have cl : ∀ f a b, (V.func f a b).cells = [.func f a b] := fun _ _ _ => rfl
  have sp : ∀ a b c, (V.ptr a b c).solid = true := fun _ _ _ => rfl
  have cp : ∀ a b c, (V.ptr a b c).cells = [.ptr a b c] := fun _ _ _ => rfl
  have e1 : (h.next = h.next + 1 + 1 + 1) = False := by simp; omega
  have e2 : (h.next = h.next + 1 + 1) = False := by simp; omega
  simp
  refine new_ct ?_
  simp [on, so, cl, sp, cp, e1, e2]
  refine q (h.next + 1 + 1) (h.next + 1 + 1 + 1) (h.next + 1) _ ⟨?_, ?_, ?_⟩ ?_ ?_ ⟨by omega, by omega, by omega⟩
  · simp; omega
  · simp
  · simp; omega
  · exact ((((((((Ge.refl _).push _).push _).push _).set (by omega) _).push _).set (by omega) _)).set (by omega) _
  · exact (((((((wf.push _).push _).push _).set (by simp) _).push _).set (by simp) _)).set (by simp; omega) _
/-- While a question is read. -/
structure Dc (h g : H) (c d i n2 n4 n5 : Nat) (s : Rs) (C : List V) : Prop where
  t : Tk g c d i s
  r2 : g.get n2 = some (.row [.int .i64 0, .str [], .int .i64 0, .int .i64 0, .int .u64 0, .str [], .int .i64 0])
  r4 : g.get n4 = some (.row (tkr c d))
  r5 : g.get n5 = some (.row C)
  ge : Ge h g
  wf : g.WF
  lo : h.next ≤ d ∧ h.next ≤ i ∧ h.next ≤ n5
  ne2 : n2 ≠ d ∧ n2 ≠ i ∧ n2 ≠ n5
  ne4 : n4 ≠ d ∧ n4 ≠ i ∧ n4 ≠ n5
  ne5 : n5 ≠ c ∧ n5 ≠ d ∧ n5 ≠ i
theorem Dc.set {h g : H} {c d i n2 n4 n5 : Nat} {s : Rs} {C : List V} (x : Dc h g c d i n2 n4 n5 s C) (s' : Rs) (C' : List V) : Dc h ((setT g i d s').set n5 (.row C')) c d i n2 n4 n5 s' C' := by
  obtain ⟨a1, a2, a3⟩ := x.ne2
  obtain ⟨b1, b2, b3⟩ := x.ne4
  obtain ⟨d1, d2, d3⟩ := x.ne5
  have t' := x.t.set s'
  refine ⟨⟨?_, ?_, ?_⟩, ?_, ?_, ?_, ?_, ?_, x.lo, x.ne2, x.ne4, x.ne5⟩
  · rw [H.get_set, if_neg (Ne.symm d1)]; exact t'.c
  · rw [H.get_set, if_neg (Ne.symm d3)]; exact t'.i
  · rw [H.get_set, if_neg (Ne.symm d2)]; exact t'.d
  · rw [H.get_set, if_neg a3, setT_get a2 a1]; exact x.r2
  · rw [H.get_set, if_neg b3, setT_get b2 b1]; exact x.r4
  · rw [H.get_set, if_pos rfl]
  · obtain ⟨l1, l2, l3⟩ := x.lo
    exact Ge.set (Ge.set (Ge.set x.ge l2 _) l1 _) l3 _
  · exact (setT_wf x.t x.wf).set (by rw [setT_next]; exact x.wf.lt x.r5) _
theorem Dc.c4 {h g : H} {c d i n2 n4 n5 : Nat} {s : Rs} {C : List V} (x : Dc h g c d i n2 n4 n5 s C) : cellsAt g.get n4 3 = some (tkr c d) := (cellsAt_of (n := 3) x.r4 rfl).trans rfl
theorem Dc.c5 {h g : H} {c d i n2 n4 n5 : Nat} {s s' : Rs} {C : List V} (x : Dc h g c d i n2 n4 n5 s C) : (setT g i d s').get n5 = some (.row C) := by rw [setT_get x.ne5.2.2 x.ne5.2.1]; exact x.r5
theorem Dc.k5 {h g : H} {c d i n2 n4 n5 : Nat} {s : Rs} {C : List V} (x : Dc h g c d i n2 n4 n5 s C) (hC : C.length = 7) : cellsAt g.get n5 7 = some C := (cellsAt_of (n := 7) x.r5 (by simpa using hC)).trans rfl
theorem Dc.ge2 {h g : H} {c d i n2 n4 n5 : Nat} {s : Rs} {C : List V} (x : Dc h g c d i n2 n4 n5 s C) (h2 : h.next ≤ n2) (o : O) : Ge h (g.set n2 o) := x.ge.set h2 _
/-- What is read of bytes as a question. -/
def rdK (s : List UInt8) : Nat := vl 1 (s, true)
def rd3 (s : List UInt8) : Rs := nx 1 (xn (nx 1 (s, true)))
def rdQ (s : List UInt8) : Rq := ⟨(rdK s : Nat), xv (nx 1 (s, true)), (vl 1 (xn (nx 1 (s, true))) : Nat), if rdK s = 4 then pv (rd3 s) else zeroP⟩
def rdE (s : List UInt8) : Rs := if rdK s = 4 then pn (rd3 s) else rd3 s
def decOf (s : List UInt8) : Option Rq := if (rdE s).2 = true ∧ (rdE s).1 = [] ∧ mayRq (rdQ s) = true then some (rdQ s) else none
def decV : Option Rq → V
  | some r => .tup [.agg (rqC r), .int .i64 0]
  | none => .tup [.agg (rqC zeroR), .int .i64 4]
theorem decV_ids (o : Option Rq) : (decV o).ids = [] := by cases o <;> rfl
theorem rdecode_ct {h : H} {s : List UInt8} : Pure Tryz.prog 8 [.str s] h (decV (decOf s)) := by
  refine pure_to Tryz.func8 S.rpc_Decode_code S.rpc_Decode_enter (by exact decV_ids _) (Nat.le_of_ble_eq_true rfl) fun wf => ?_; simp only [S.rpc_Decode]
  simp
  refine taking_ct fun c d i h1 t1 g1 w1 lo => ?_
  obtain ⟨q1, q2, q3⟩ := lo
  simp at q1 q2 q3
  have lc := w1.lt t1.c
  have ld := w1.lt t1.d
  have li := w1.lt t1.i
  have z2 : h1.get h.next = some (.row [.int .i64 0, .str [], .int .i64 0, .int .i64 0, .int .u64 0, .str [], .int .i64 0]) := by rw [g1.2 _ (by simp)]; simp
  have g1' : Ge h h1 := ((Ge.refl h).push _).trans g1
  have n1 := g1'.1
  have n2 : h.next < h1.next := by have := g1.1; simp at this; omega
  have tone : (tkr c d).all V.one = true := rfl
  have tlen : (tkr c d).length = 3 := rfl
  have e0 : ∀ hh, (tkr c d)[0]'hh = .func (.func 38) [] [.ptr c 1 0, .ptr d 1 0] := fun _ => rfl
  have e2 : ∀ hh, (tkr c d)[2]'hh = .func (.func 42) [] [.ptr d 1 0, .ptr c 1 0] := fun _ => rfl
  obtain ⟨h2, hh2⟩ : ∃ h2, h2 = h1.push (.row (tkr c d)) := ⟨_, rfl⟩
  have t2 : Tk h2 c d i (s, true) := by rw [hh2]; exact t1.push w1 _
  have w2 : h2.WF := by rw [hh2]; exact w1.push _
  have N2 : h2.next = h1.next + 1 := by rw [hh2]; simp
  have hk : vl 1 (s, true) < 256 := vl_lt 1 _
  obtain ⟨k, hk'⟩ : ∃ k, k = vl 1 (s, true) := ⟨_, rfl⟩
  have wk : IntKind.i64.wrap (k : Int) = (k : Nat) := wrap_i64_id (by omega) (by omega)
  have c2 : cellsAt h2.get h1.next 3 = some (tkr c d) := by rw [hh2]; simp [tlen]
  have tk3 : (tkr c d).take 3 = tkr c d := rfl
  simp [-List.all_eq_true, tone, tlen, H.push_set, e0, ← hh2, c2]
  refine numT_ct t2 1 rfl (by omega) ?_
  rw [← hk']
  have sn : (setT h2 i d (nx 1 (s, true))).next = h1.next + 1 := N2
  have hp : ∀ o o', ((setT h2 i d (nx 1 (s, true))).push o).set (h1.next + 1) o' = (setT h2 i d (nx 1 (s, true))).push o' := fun o o' => by rw [← sn]; exact H.push_set _ _ _
  obtain ⟨h3, hh3⟩ : ∃ h3, h3 = (setT h2 i d (nx 1 (s, true))).push (.row [.int .i64 (k : Nat), .str [], .int .i64 0, .int .i64 0, .int .u64 0, .str [], .int .i64 0]) := ⟨_, rfl⟩
  have ws : (setT h2 i d (nx 1 (s, true))).WF := setT_wf t2 w2
  have x3 : Dc h h3 c d i h.next h1.next (h1.next + 1) (nx 1 (s, true)) [.int .i64 (k : Nat), .str [], .int .i64 0, .int .i64 0, .int .u64 0, .str [], .int .i64 0] := by
    refine ⟨?_, ?_, ?_, ?_, ?_, ?_, ⟨by omega, by omega, by omega⟩, ⟨by omega, by omega, by omega⟩, ⟨by omega, by omega, by omega⟩, ⟨by omega, by omega, by omega⟩⟩
    · rw [hh3]; exact (t2.set _).push ws _
    · rw [hh3, H.get_push, if_neg (by omega), setT_get (by omega) (by omega), hh2, H.get_push, if_neg (by omega)]; exact z2
    · rw [hh3, H.get_push, if_neg (by omega), setT_get (by omega) (by omega), hh2, H.get_push, if_pos rfl]
    · rw [hh3, H.get_push, if_pos (by omega)]
    · have : Ge h h2 := by rw [hh2]; exact g1'.push _
      rw [hh3]
      exact ((this.set (by omega) _).set (by omega) _).push _
    · rw [hh3]; exact ws.push _
  obtain ⟨nm, hnm⟩ : ∃ nm, nm = xv (nx 1 (s, true)) := ⟨_, rfl⟩
  obtain ⟨f, hf⟩ : ∃ f, f = vl 1 (xn (nx 1 (s, true))) := ⟨_, rfl⟩
  have wf' : IntKind.i64.wrap (f : Int) = (f : Nat) := by have := vl_lt 1 (xn (nx 1 (s, true))); exact wrap_i64_id (by omega) (by omega)
  simp [wk, sn, hp, ← hh3, x3.c4, tlen, tk3]
  refine textT_ct x3.t ?_
  rw [← hnm]
  obtain ⟨h4, hh4⟩ : ∃ h4, h4 = (setT h3 i d (xn (nx 1 (s, true)))).set (h1.next + 1) (.row [.int .i64 (k : Nat), .str nm, .int .i64 0, .int .i64 0, .int .u64 0, .str [], .int .i64 0]) := ⟨_, rfl⟩
  have x4 : Dc h h4 c d i h.next h1.next (h1.next + 1) (xn (nx 1 (s, true))) [.int .i64 (k : Nat), .str nm, .int .i64 0, .int .i64 0, .int .u64 0, .str [], .int .i64 0] := by rw [hh4]; exact x3.set _ _
  simp [x3.c5, ← hh4, x4.c4, tlen, e0]
  refine numT_ct x4.t 1 rfl (by omega) ?_
  rw [← hf]
  obtain ⟨h5, hh5⟩ : ∃ h5, h5 = (setT h4 i d (rd3 s)).set (h1.next + 1) (.row [.int .i64 (k : Nat), .str nm, .int .i64 (f : Nat), .int .i64 0, .int .u64 0, .str [], .int .i64 0]) := ⟨_, rfl⟩
  have x5 : Dc h h5 c d i h.next h1.next (h1.next + 1) (rd3 s) [.int .i64 (k : Nat), .str nm, .int .i64 (f : Nat), .int .i64 0, .int .u64 0, .str [], .int .i64 0] := by rw [hh5]; exact x4.set _ _
  have er : nx 1 (xn (nx 1 (s, true))) = rd3 s := rfl
  rw [er]
  have k5 := x5.k5 rfl
  have ekk : rdK s = k := hk'.symm
  simp [wf', x4.c5, ← hh5, k5]
  by_cases h4 : k = 4
  · have b4 : ((k : Int) == 4) = true := beq_iff_eq.2 (by omega)
    simp [h4, x5.c4, tlen, tk3]
    refine prefixT_ct x5.t ?_
    obtain ⟨p, hp'⟩ : ∃ p, p = pv (rd3 s) := ⟨_, rfl⟩
    rw [← hp']
    have hE : rdE s = pn (rd3 s) := by unfold rdE; rw [if_pos (by omega)]
    have hR : rdQ s = ⟨(k : Nat), nm, (f : Nat), p⟩ := by unfold rdQ; rw [if_pos (by omega), ekk, ← hnm, ← hf, ← hp']
    obtain ⟨h6, hh6⟩ : ∃ h6, h6 = (setT h5 i d (pn (rd3 s))).set (h1.next + 1) (.row (rqC ⟨(k : Nat), nm, (f : Nat), p⟩)) := ⟨_, rfl⟩
    have x6 : Dc h h6 c d i h.next h1.next (h1.next + 1) (pn (rd3 s)) (rqC ⟨(k : Nat), nm, (f : Nat), p⟩) := by rw [hh6]; exact x5.set _ _
    simp only [rqC] at hh6
    simp [x5.c5, pfxC, ← hh6]
    simp [x6.c4, tlen, e2]
    refine doneT_ct x6.t _ ?_
    have k7 := x6.k5 rfl
    have r2 := x6.r2
    by_cases hb : (pn (rd3 s)).2 = true ∧ (pn (rd3 s)).1 = []
    · have b1 : ((pn (rd3 s)).2 && decide ((pn (rd3 s)).1 = [])) = true := by simp [hb.1, hb.2]
      have ck : ∀ g : H, Pure Tryz.prog 6 [.agg (rqC (⟨(k : Nat), nm, (f : Nat), p⟩ : Rq))] g (.int .i64 (if mayRq (⟨(k : Nat), nm, (f : Nat), p⟩ : Rq) = true then 0 else 2)) := fun g => rcheck_ct (by rw [hnm]; have := xv_len (nx 1 (s, true)); simp only; omega)
      simp only [rqC] at ck k7
      simp [b1, k7]
      refine ck _ _ ?_
      by_cases hm : mayRq (⟨(k : Nat), nm, (f : Nat), p⟩ : Rq) = true
      · have hO : decOf s = some (⟨(k : Nat), nm, (f : Nat), p⟩ : Rq) := by unfold decOf; rw [hE, hR, if_pos ⟨hb.1, hb.2, hm⟩]
        simp [hm, k7, r2, hO, decV, rqC]
        exact x6.ge2 (Nat.le_refl _) _
      · have hO : decOf s = none := by unfold decOf; rw [hE, hR, if_neg (fun e => hm e.2.2)]
        have hm' := hm
        try simp only [zeroP] at hm'
        simp [hm, r2, hO, decV, rqC, zeroR, zeroP]
        exact x6.ge2 (Nat.le_refl _) _
    · have b1 : ((pn (rd3 s)).2 && decide ((pn (rd3 s)).1 = [])) = false := by
        cases h9 : ((pn (rd3 s)).2 && decide ((pn (rd3 s)).1 = [])) with
        | false => rfl
        | true => simp at h9; exact absurd h9 hb
      have hO : decOf s = none := by unfold decOf; rw [hE, if_neg (fun e => hb ⟨e.1, e.2.1⟩)]
      simp [b1, r2, hO, decV, rqC, zeroR, zeroP]
      exact x6.ge2 (Nat.le_refl _) _
  · have b4 : ((k : Int) == 4) = false := beq_eq_false_iff_ne.2 (by omega)
    have hE : rdE s = rd3 s := by unfold rdE; rw [if_neg (by omega)]
    have hR : rdQ s = ⟨(k : Nat), nm, (f : Nat), zeroP⟩ := by unfold rdQ; rw [if_neg (by omega), ekk, ← hnm, ← hf]
    have x6 : Dc h h5 c d i h.next h1.next (h1.next + 1) (rd3 s) (rqC ⟨(k : Nat), nm, (f : Nat), zeroP⟩) := x5
    simp [b4]
    simp [x6.c4, tlen, e2]
    refine doneT_ct x6.t _ ?_
    have k7 := x6.k5 rfl
    have r2 := x6.r2
    by_cases hb : (rd3 s).2 = true ∧ (rd3 s).1 = []
    · have b1 : ((rd3 s).2 && decide ((rd3 s).1 = [])) = true := by simp [hb.1, hb.2]
      have ck : ∀ g : H, Pure Tryz.prog 6 [.agg (rqC (⟨(k : Nat), nm, (f : Nat), zeroP⟩ : Rq))] g (.int .i64 (if mayRq (⟨(k : Nat), nm, (f : Nat), zeroP⟩ : Rq) = true then 0 else 2)) := fun g => rcheck_ct (by rw [hnm]; have := xv_len (nx 1 (s, true)); simp only; omega)
      simp only [rqC] at ck k7
      simp [b1, k7]
      refine ck _ _ ?_
      by_cases hm : mayRq (⟨(k : Nat), nm, (f : Nat), zeroP⟩ : Rq) = true
      · have hO : decOf s = some (⟨(k : Nat), nm, (f : Nat), zeroP⟩ : Rq) := by unfold decOf; rw [hE, hR, if_pos ⟨hb.1, hb.2, hm⟩]
        simp [hm, k7, r2, hO, decV, rqC]
        exact x6.ge2 (Nat.le_refl _) _
      · have hO : decOf s = none := by unfold decOf; rw [hE, hR, if_neg (fun e => hm e.2.2)]
        have hm' := hm
        try simp only [zeroP] at hm'
        simp [hm', r2, hO, decV, rqC, zeroR, zeroP]
        exact x6.ge2 (Nat.le_refl _) _
    · have b1 : ((rd3 s).2 && decide ((rd3 s).1 = [])) = false := by
        cases h9 : ((rd3 s).2 && decide ((rd3 s).1 = [])) with
        | false => rfl
        | true => simp at h9; exact absurd h9 hb
      have hO : decOf s = none := by unfold decOf; rw [hE, if_neg (fun e => hb ⟨e.1, e.2.1⟩)]
      simp [b1, r2, hO, decV, rqC, zeroR, zeroP]
      exact x6.ge2 (Nat.le_refl _) _
end Go.Am

/-
  The reference's: names, whether a question may be, its bytes (written by program, wip/rpc/RP8.py).
-/
namespace Go.Am
open Go.Proofs

set_option maxRecDepth 100000
theorem rname_ct {h : H} {s : List UInt8} (hl : s.length ≤ 9223372036854775807) : Pure Tryz.prog 29 [.str s] h (.bool (nameB s)) := by
  refine pure_to Tryz.func29 S.Href13_Name_code S.Href13_Name_enter rfl (Nat.le_of_ble_eq_true rfl) fun wf => ?_; simp only [S.Href13_Name]
  cases s with
  | nil => simp [nameB]
  | cons c r =>
    have i0 : ¬ (r.length : Int) + 1 < 1 := by omega
    by_cases h1 : r.length ≤ 15
    · have i1 : ¬ (16 : Int) < (r.length : Int) + 1 := by omega
      by_cases h2 : 97 ≤ c.toNat
      · have i2 : ¬ (c.toNat : Int) < 97 := by omega
        by_cases h3 : c.toNat ≤ 122
        · have i3 : ¬ (122 : Int) < (c.toNat : Int) := by omega
          have j2 : ¬ c.toNat < 97 := by omega
          have j3 : ¬ 122 < c.toNat := by omega
          simp [i0, i1, i2, i3]
          obtain ⟨s, hs⟩ : ∃ s, s = c :: r := ⟨_, rfl⟩
          have hsl : s.length ≤ 16 := by rw [hs]; simp; omega
          have hn : nameB s = s.all fun c => decide (c ∈ csN) := by rw [hs]; simp [nameB, h1, h2]
          rw [← hs]
          refine loop_up (fun i t h' => (t 0 = .str s ∧ t 3 = .int .i64 (i : Nat)) ∧ h' = h ∧ (s.take i).all (fun c => decide (c ∈ csN)) = true) s.length ⟨by simp, rfl, by simp⟩ ?_
          rintro i t h' hi ⟨⟨t0, t3⟩, rfl, ha⟩ K hK
          by_cases hlt : i < s.length
          · have hw := wrap_succ hlt (by omega)
            have g1 : s[i]? = some s[i] := List.getElem?_eq_getElem hlt
            obtain ⟨b, hb⟩ : ∃ b : Nat, b = s[i].toNat := ⟨_, rfl⟩
            have hmem := csN_mem s[i]
            rw [← hb] at hmem
            have bad : s[i] ∉ csN → nameB s = false := fun hx => by
              rw [hn]
              exact Bool.eq_false_iff.2 fun e => hx (by simpa using List.all_eq_true.1 e s[i] (List.getElem_mem hlt))
            have nxt : s[i] ∈ csN → (s.take (i + 1)).all (fun c => decide (c ∈ csN)) = true := fun hx => by
              rw [List.take_add_one, g1, List.all_append, ha]
              simp [hx]
            have hr : b < 45 ∨ b = 45 ∨ (46 ≤ b ∧ b ≤ 47) ∨ (48 ≤ b ∧ b ≤ 57) ∨ (58 ≤ b ∧ b ≤ 96) ∨ (97 ≤ b ∧ b ≤ 122) ∨ 123 ≤ b := by omega
            rcases hr with hr | hr | hr | hr | hr | hr | hr
            · have n1 : ¬ (97 : Int) ≤ (b : Int) := by omega
              have n3 : ¬ (48 : Int) ≤ (b : Int) := by omega
              have n5 : ((b : Int) == 45) = false := beq_eq_false_iff_ne.2 (by omega)
              have hx : s[i] ∉ csN := fun e => by have := hmem.1 e; omega
              simp [t0, t3, hlt, ← hb, n1, n3, n5, bad hx]
            · have n1 : ¬ (97 : Int) ≤ (b : Int) := by omega
              have n3 : ¬ (48 : Int) ≤ (b : Int) := by omega
              have n5 : ((b : Int) == 45) = true := beq_iff_eq.2 (by omega)
              have hx : s[i] ∈ csN := hmem.2 (by omega)
              simp [t0, t3, hlt, ← hb, n1, n3, n5, hw]
              exact hK _ _ hlt ⟨by simp [t0], rfl, nxt hx⟩
            · have n1 : ¬ (97 : Int) ≤ (b : Int) := by omega
              have n3 : ¬ (48 : Int) ≤ (b : Int) := by omega
              have n5 : ((b : Int) == 45) = false := beq_eq_false_iff_ne.2 (by omega)
              have hx : s[i] ∉ csN := fun e => by have := hmem.1 e; omega
              simp [t0, t3, hlt, ← hb, n1, n3, n5, bad hx]
            · have n1 : ¬ (97 : Int) ≤ (b : Int) := by omega
              have n3 : (48 : Int) ≤ (b : Int) := by omega
              have n4 : (b : Int) ≤ 57 := by omega
              have hx : s[i] ∈ csN := hmem.2 (by omega)
              simp [t0, t3, hlt, ← hb, n1, n3, n4, hw]
              exact hK _ _ hlt ⟨by simp [t0], rfl, nxt hx⟩
            · have n1 : ¬ (97 : Int) ≤ (b : Int) := by omega
              have n3 : (48 : Int) ≤ (b : Int) := by omega
              have n4 : ¬ (b : Int) ≤ 57 := by omega
              have n5 : ((b : Int) == 45) = false := beq_eq_false_iff_ne.2 (by omega)
              have hx : s[i] ∉ csN := fun e => by have := hmem.1 e; omega
              simp [t0, t3, hlt, ← hb, n1, n3, n4, n5, bad hx]
            · have n1 : (97 : Int) ≤ (b : Int) := by omega
              have n2 : (b : Int) ≤ 122 := by omega
              have hx : s[i] ∈ csN := hmem.2 (by omega)
              simp [t0, t3, hlt, ← hb, n1, n2, hw]
              exact hK _ _ hlt ⟨by simp [t0], rfl, nxt hx⟩
            · have n1 : (97 : Int) ≤ (b : Int) := by omega
              have n2 : ¬ (b : Int) ≤ 122 := by omega
              have n3 : (48 : Int) ≤ (b : Int) := by omega
              have n4 : ¬ (b : Int) ≤ 57 := by omega
              have n5 : ((b : Int) == 45) = false := beq_eq_false_iff_ne.2 (by omega)
              have hx : s[i] ∉ csN := fun e => by have := hmem.1 e; omega
              simp [t0, t3, hlt, ← hb, n1, n2, n3, n4, n5, bad hx]
          · have : i = s.length := by omega
            subst this
            rw [List.take_length] at ha
            simp [t0, t3, hn, ha]
        · have i3 : (122 : Int) < (c.toNat : Int) := by omega
          have j3 : 122 < c.toNat := by omega
          have j2 : ¬ c.toNat < 97 := by omega
          have hn : nameB (c :: r) = false := by
            have : c ∉ csN := fun hx => by have := (csN_mem c).1 hx; omega
            simp [nameB, this]
          simp [i0, i1, i2, i3, hn]
      · have i2 : (c.toNat : Int) < 97 := by omega
        have j2 : c.toNat < 97 := by omega
        simp [i0, i1, h1, h2, i2, nameB]
    · have i1 : (16 : Int) < (r.length : Int) + 1 := by omega
      simp [i0, i1, h1, nameB]
theorem rempty_ct {h : H} {s : List UInt8} (hl : s.length ≤ 9223372036854775807) : Pure Tryz.prog 30 [.str s] h (.bool (emptyB s)) := by
  refine pure_to Tryz.func30 S.Href33_empty_code S.Href33_empty_enter rfl (Nat.le_of_ble_eq_true rfl) fun wf => ?_; simp only [S.Href33_empty]
  by_cases hs : s = []
  · subst hs; simp [emptyB]
  · have e1 : s.isEmpty = false := by cases s <;> simp_all
    simp [e1]
    refine rname_ct hl _ ?_
    simp [emptyB, hs]
theorem rmayq_ct {h : H} {r : Rq} (hl : r.name.length ≤ 9223372036854775807) : Pure Tryz.prog 14 [.agg (rqC r)] h (.bool (mayRq r)) := by
  refine pure_to Tryz.func14 S.Href33_May_code S.Href33_May_enter rfl (Nat.le_of_ble_eq_true rfl) fun wf => ?_; simp only [S.Href33_May]
  obtain ⟨k, n, f, pf, prd, pa, pl⟩ := r
  simp only at hl
  have eq : ∀ (n' : List UInt8) (f' : Int) (p' : Pfx), eqV (TS.st [(0, 1, false, TS.int), (1, 1, false, TS.str), (2, 1, false, TS.int), (3, 4, true, (TS.st [(0, 1, false, TS.int), (1, 1, false, TS.int), (2, 1, false, TS.str), (3, 1, false, TS.int)]))])
      (.agg [.int .i64 k, .str n, .int .i64 f, .int .i64 pf, .int .u64 (prd : Nat), .str pa, .int .i64 pl]) (.agg [.int .i64 k, .str n', .int .i64 f', .int .i64 p'.fam, .int .u64 (p'.rd : Nat), .str p'.addr, .int .i64 p'.len]) = some (decide ((⟨k, n, f, pf, prd, pa, pl⟩ : Rq) = ⟨k, n', f', p'⟩)) := fun n' f' p' => eq_rq ⟨k, n, f, pf, prd, pa, pl⟩ ⟨k, n', f', p'⟩
  have G : ∀ o1 o2 o3, Ge h (((h.push o1).push o2).set (h.next + 1) o3) := fun _ _ _ => (((Ge.refl _).push _).push _).set (by simp) _
  by_cases h1 : k = 1 ∨ k = 6
  · obtain ⟨D, hD⟩ : ∃ D, D = decide ((⟨k, n, f, pf, prd, pa, pl⟩ : Rq) = ⟨k, [], 0, zeroP⟩) := ⟨_, rfl⟩
    have e := eq [] 0 zeroP
    simp only [zeroP, Int.natCast_zero] at e hD
    rw [← hD] at e
    have hm : mayRq ⟨k, n, f, pf, prd, pa, pl⟩ = (D) := by unfold mayRq; rw [if_pos h1, hD] <;> rfl
    rw [hm]
    rcases h1 with rfl | rfl
    · simp [rqC, e, G]
    · simp [rqC, e, G]
  · by_cases h2 : k = 2 ∨ k = 7
    · obtain ⟨D, hD⟩ : ∃ D, D = decide ((⟨k, n, f, pf, prd, pa, pl⟩ : Rq) = ⟨k, n, 0, zeroP⟩) := ⟨_, rfl⟩
      have e := eq n 0 zeroP
      simp only [zeroP, Int.natCast_zero] at e hD
      rw [← hD] at e
      have hm : mayRq ⟨k, n, f, pf, prd, pa, pl⟩ = (nameB n && D) := by unfold mayRq; rw [if_neg h1, if_pos h2, hD] <;> rfl
      rw [hm]
      rcases h2 with rfl | rfl
      · simp [rqC]
        refine rname_ct hl _ ?_
        simp
        cases nameB n <;> simp [e, G]
      · simp [rqC]
        refine rname_ct hl _ ?_
        simp
        cases nameB n <;> simp [e, G]
    · by_cases h3 : k = 3
      · obtain ⟨D, hD⟩ : ∃ D, D = decide ((⟨k, n, f, pf, prd, pa, pl⟩ : Rq) = ⟨k, n, f, zeroP⟩) := ⟨_, rfl⟩
        have e := eq n f zeroP
        simp only [zeroP, Int.natCast_zero] at e hD
        rw [← hD] at e
        have hm : mayRq ⟨k, n, f, pf, prd, pa, pl⟩ = (emptyB n && decide (0 < sizeN f) && D) := by unfold mayRq; rw [if_neg h1, if_neg h2, if_pos h3, hD] <;> rfl
        rw [hm]
        subst h3
        simp [rqC]
        refine rempty_ct hl _ ?_
        simp
        by_cases hE : emptyB n = true
        · simp [hE]
          refine rsize_ct _ ?_
          by_cases hz : 0 < sizeN f
          · have iz : (0 : Int) < (sizeN f : Int) := by omega
            simp [hz, e, G]
          · have iz : ¬ (0 : Int) < (sizeN f : Int) := by omega
            simp [hz, G]
        · simp [hE, G]
      · by_cases h5 : k = 5
        · obtain ⟨D, hD⟩ : ∃ D, D = decide ((⟨k, n, f, pf, prd, pa, pl⟩ : Rq) = ⟨k, n, f, zeroP⟩) := ⟨_, rfl⟩
          have e := eq n f zeroP
          simp only [zeroP, Int.natCast_zero] at e hD
          rw [← hD] at e
          have hm : mayRq ⟨k, n, f, pf, prd, pa, pl⟩ = (nameB n && decide (0 < sizeN f) && D) := by unfold mayRq; rw [if_neg h1, if_neg h2, if_neg h3, if_pos h5, hD] <;> rfl
          rw [hm]
          subst h5
          simp [rqC]
          refine rname_ct hl _ ?_
          simp
          by_cases hE : nameB n = true
          · simp [hE]
            refine rsize_ct _ ?_
            by_cases hz : 0 < sizeN f
            · have iz : (0 : Int) < (sizeN f : Int) := by omega
              simp [hz, e, G]
            · have iz : ¬ (0 : Int) < (sizeN f : Int) := by omega
              simp [hz, G]
          · simp [hE, G]
        · by_cases h4 : k = 4
          · obtain ⟨D, hD⟩ : ∃ D, D = decide ((⟨k, n, f, pf, prd, pa, pl⟩ : Rq) = ⟨k, n, 0, ⟨pf, prd, pa, pl⟩⟩) := ⟨_, rfl⟩
            have e := eq n 0 ⟨pf, prd, pa, pl⟩
            simp only at e hD
            rw [← hD] at e
            have hm : mayRq ⟨k, n, f, pf, prd, pa, pl⟩ = (emptyB n && mayP ⟨pf, prd, pa, pl⟩ && D) := by unfold mayRq; rw [if_neg h1, if_neg h2, if_neg h3, if_neg h5, if_pos h4, hD] <;> rfl
            rw [hm]
            subst h4
            have pcc : ∀ g : H, Pure Tryz.prog 32 [.agg [.int .i64 pf, .int .u64 (prd : Nat), .str pa, .int .i64 pl]] g (.bool (mayP ⟨pf, prd, pa, pl⟩)) := fun g => rmay_ct (p := ⟨pf, prd, pa, pl⟩)
            simp [rqC]
            refine rempty_ct hl _ ?_
            simp
            by_cases hE : emptyB n = true
            · simp [hE]
              refine pcc _ _ ?_
              cases mayP ⟨pf, prd, pa, pl⟩ <;> simp [e, G]
            · simp [hE, G]
          · have hm : mayRq ⟨k, n, f, pf, prd, pa, pl⟩ = false := by unfold mayRq; rw [if_neg h1, if_neg h2, if_neg h3, if_neg h5, if_neg h4]
            have b1 : (k == 1) = false := beq_eq_false_iff_ne.2 (by omega)
            have b2 : (k == 2) = false := beq_eq_false_iff_ne.2 (by omega)
            have b3 : (k == 3) = false := beq_eq_false_iff_ne.2 (by omega)
            have b4 : (k == 4) = false := beq_eq_false_iff_ne.2 (by omega)
            have b5 : (k == 5) = false := beq_eq_false_iff_ne.2 (by omega)
            have b6 : (k == 6) = false := beq_eq_false_iff_ne.2 (by omega)
            have b7 : (k == 7) = false := beq_eq_false_iff_ne.2 (by omega)
            simp [rqC, b1, b2, b3, b4, b5, b6, b7, hm, G]
theorem rcheckq_ct {h : H} {r : Rq} (hl : r.name.length ≤ 9223372036854775807) : Pure Tryz.prog 7 [.agg (rqC r)] h (.int .i64 (if mayRq r = true then 0 else 2)) := by
  refine pure_to Tryz.func7 S.Href33_Check_code S.Href33_Check_enter (by split <;> rfl) (Nat.le_of_ble_eq_true rfl) fun wf => ?_; simp only [S.Href33_Check]
  have ck : ∀ g : H, Pure Tryz.prog 14 [.agg (rqC r)] g (.bool (mayRq r)) := fun g => rmayq_ct hl
  simp only [rqC] at ck
  simp [rqC]
  refine ck _ _ ?_
  cases mayRq r <;> simp
end Go.Am

/-
  The reference's: questions laid; parts, texts, prefixes taken.
-/
namespace Go.Am
open Go.Proofs

set_option maxRecDepth 100000
theorem one_ct {h : H} {n : Nat} : Pure Tryz.prog 15 [.int .i64 (n : Nat)] h (.str (be 1 n)) := by
  refine pure_to Tryz.func15 S.Href33_one_code S.Href33_one_enter rfl (Nat.le_of_ble_eq_true rfl) fun wf => ?_; simp only [S.Href33_one]
  obtain ⟨b1, h1, w1⟩ := lowb (z := (n : Int)) (m := n) rfl
  rw [be1, ← h1]
  simp [w1, elemsV_sl, u8n]
def oneP : List V → Option V
  | [.int .i64 x] => if 0 ≤ x then some (.str (be 1 x.toNat)) else none
  | _ => none
theorem oneP_at (n : Nat) : oneP [.int .i64 (n : Int)] = some (.str (be 1 n)) := by simp [oneP]
theorem rtxt_ct {h : H} {s : List UInt8} (hl : s.length < 9223372036854775000) : Pure Tryz.prog 16 [.str s] h (.str (txtB s)) := by
  refine pure_to Tryz.func16 S.Href33_text_code S.Href33_text_enter rfl (Nat.le_of_ble_eq_true rfl) fun wf => ?_; simp only [S.Href33_text]
  simp
  refine one_ct _ ?_
  have k : (be 1 s.length).length + s.length ≤ 9223372036854775807 := by rw [be_len]; omega
  simp [k, txtB]
def rtxtP : List V → Option V
  | [.str s] => if s.length < 9223372036854775000 then some (.str (txtB s)) else none
  | _ => none
theorem be4_low (n : Nat) : be 4 (n % 4294967296) = be 4 n := by
  have key : ∀ a b : Nat, a % 256 = b % 256 → UInt8.ofNat a = UInt8.ofNat b := fun a b e => UInt8.toNat_inj.1 (by simpa using e)
  rw [be4, be4, key (n % 4294967296 / 16777216) (n / 16777216) (by omega), key (n % 4294967296 / 65536) (n / 65536) (by omega), key (n % 4294967296 / 256) (n / 256) (by omega), key (n % 4294967296) n (by omega)]
theorem eight_ct {h : H} {n : Nat} (hn : n < 18446744073709551616) : Pure Tryz.prog 33 [.int .u64 (n : Nat)] h (.str (be 8 n)) := by
  refine pure_to Tryz.func33 S.Href33_eight_code S.Href33_eight_enter rfl (Nat.le_of_ble_eq_true rfl) fun wf => ?_; simp only [S.Href33_eight]
  obtain ⟨a, ha⟩ : ∃ a, a = n / 4294967296 := ⟨_, rfl⟩
  obtain ⟨b, hb⟩ : ∃ b, b = n % 4294967296 := ⟨_, rfl⟩
  have f1 : ((n : Nat) : Int).fdiv (2 ^ min 32 IntKind.u64.bits) = (a : Int) := by rw [fd32, ha]; omega
  have w1 : IntKind.u32.wrap (a : Int) = (a : Int) := u32w rfl (by omega)
  have w2 : IntKind.u32.wrap (n : Int) = (b : Int) := by rw [hb]; simp [IntKind.wrap, IntKind.bits, IntKind.signed]
  simp [f1, w1]
  refine four_ct _ ?_
  simp [w2]
  refine four_ct _ ?_
  have k : (be 4 a).length + (be 4 b).length ≤ 9223372036854775807 := by simp [be_len]
  simp [k]
  rw [be8, ha, hb, be4_low]
def eightP : List V → Option V
  | [.int .u64 x] => if 0 ≤ x ∧ x < 18446744073709551616 then some (.str (be 8 x.toNat)) else none
  | _ => none
theorem onesP_ok : ∀ p ∈ [(15, oneP), (16, rtxtP), (33, eightP)], ∀ vals v, p.2 vals = some v → ∀ h, Acalls Tryz.prog p.1 vals h fun u h' => u = v ∧ h' = h := by
  intro p hp
  simp only [List.mem_cons, List.not_mem_nil, or_false] at hp
  rcases hp with rfl | rfl | rfl
  · intro vals v e h
    simp only at e ⊢
    unfold oneP at e
    split at e
    · rename_i x
      split at e
      · rename_i hc
        obtain ⟨a, rfl⟩ := Int.eq_ofNat_of_zero_le hc
        cases e
        exact one_ct _ ⟨rfl, rfl⟩
      · cases e
    · cases e
  · intro vals v e h
    simp only at e ⊢
    unfold rtxtP at e
    split at e
    · split at e
      · rename_i hc
        cases e
        exact rtxt_ct hc _ ⟨rfl, rfl⟩
      · cases e
    · cases e
  · intro vals v e h
    simp only at e ⊢
    unfold eightP at e
    split at e
    · rename_i x
      split at e
      · rename_i hc
        obtain ⟨a, rfl⟩ := Int.eq_ofNat_of_zero_le hc.1
        cases e
        exact eight_ct (by omega) _ ⟨rfl, rfl⟩
      · cases e
    · cases e
theorem rprefix_ct {h : H} {p : Pfx} (f : PfxFit p) : Pure Tryz.prog 17 [.agg (pfxC p)] h (.str (pfxB p)) := by
  refine pure_to Tryz.func17 S.Href33_prefix_code S.Href33_prefix_enter rfl (Nat.le_of_ble_eq_true rfl) fun wf => ?_; simp only [S.Href33_prefix]
  obtain ⟨fam, rd, addr, len⟩ := p
  obtain ⟨⟨f1, f2⟩, f3, ⟨f4, f5⟩, f6⟩ := f
  simp only at f1 f2 f3 f4 f5 f6
  obtain ⟨a, rfl⟩ := Int.eq_ofNat_of_zero_le f1
  obtain ⟨b, rfl⟩ := Int.eq_ofNat_of_zero_le f4
  have n1 := oneP_at a
  have n2 : eightP [.int .u64 (rd : Int)] = some (.str (be 8 rd)) := by
    simp only [eightP]; rw [if_pos ⟨by omega, by omega⟩]; simp
  have n3 := oneP_at b
  simp [pfxC]
  refine dreg_plain _ onesP_ok (by rfl) ?_
  simp [List.lookup]
  have k1 : (10 : Nat) + addr.length ≤ 9223372036854775807 := by omega
  simp [n1, n2, n3, be_len]
  rw [if_pos k1]
  simp [pfxB]
theorem rencodeq_ct {h : H} {r : Rq} (hl : r.name.length ≤ 9223372036854775807) (hr : r.p.rd < 18446744073709551616) : Pure Tryz.prog 5 [.agg (rqC r)] h (encV r) := by
  refine pure_to Tryz.func5 S.Href33_Encode_code S.Href33_Encode_enter (by unfold encV; split <;> rfl) (Nat.le_of_ble_eq_true rfl) fun wf => ?_; simp only [S.Href33_Encode]
  have ck : ∀ g : H, Pure Tryz.prog 14 [.agg (rqC r)] g (.bool (mayRq r)) := fun g => rmayq_ct hl
  have cx : ∀ g : H, PfxFit r.p → Pure Tryz.prog 17 [.agg (pfxC r.p)] g (.str (pfxB r.p)) := fun g => rprefix_ct
  by_cases hm : mayRq r = true
  · obtain ⟨⟨k1, k2⟩, hn, ⟨f1, f2⟩, hp4, _⟩ := mayRq_fit hm
    have hv : encV r = .tup [.str (encRq r), .int .i64 0] := by unfold encV; rw [if_pos hm]
    rw [hv]
    rw [hm] at ck
    obtain ⟨k, n, f, p⟩ := r
    simp only at k1 k2 hn f1 f2 hp4 hl hr
    obtain ⟨a, rfl⟩ := Int.eq_ofNat_of_zero_le (show 0 ≤ k by omega)
    obtain ⟨b, rfl⟩ := Int.eq_ofNat_of_zero_le f1
    simp only [rqC] at ck
    have o1 := oneP_at a
    have o2 := oneP_at b
    have o3 : rtxtP [.str n] = some (.str (txtB n)) := by simp only [rtxtP]; rw [if_pos (by omega)]
    have n1 : (be 1 a).length + (txtB n).length ≤ 9223372036854775807 := by rw [be_len, txtB_len]; omega
    have n2 : (be 1 a).length + ((txtB n).length + (be 1 b).length) ≤ 9223372036854775807 := by rw [be_len, be_len, txtB_len]; omega
    have n2' : (be 1 a).length + (txtB n).length + (be 1 b).length ≤ 9223372036854775807 := by rw [be_len, be_len, txtB_len]; omega
    simp [rqC]
    refine ck _ _ ?_
    simp
    refine dreg_plain _ onesP_ok (by rfl) ?_
    simp [List.lookup, o1, o2, o3, n1, n2']
    by_cases h4 : a = 4
    · subst h4
      obtain ⟨pf, pal⟩ := mayP_fit (hp4 rfl) hr
      have cx' := fun g => cx g pf
      simp only [pfxC] at cx'
      simp
      refine cx' _ _ ?_
      have n3 : (be 1 4).length + ((txtB n).length + ((be 1 b).length + (pfxB p).length)) ≤ 9223372036854775807 := by
        have := pf.addr
        simp [pfxB, be_len, txtB_len]; omega
      have n3' : (be 1 4).length + ((txtB n).length + (be 1 b).length) + (pfxB p).length ≤ 9223372036854775807 := by omega
      simp [n3', encRq]
    · have b4 : ((a : Int) == 4) = false := beq_eq_false_iff_ne.2 (by omega)
      have : ¬ ((a : Int) = 4) := by omega
      simp [b4, encRq, this]
  · have hv : encV r = .tup [.str [], .int .i64 2] := by unfold encV; rw [if_neg hm]
    rw [hv]
    have hm' : mayRq r = false := by simpa using hm
    rw [hm'] at ck
    simp only [rqC] at ck
    simp [rqC]
    refine ck _ _ ?_
    simp
/-! ### Taken -/
def partS (s : List UInt8) (n : Nat) : List UInt8 × List UInt8 × Bool := if n ≤ s.length then (s.take n, s.drop n, true) else ([], [], false)
theorem part_ct {h : H} {s : List UInt8} {n : Nat} : Pure Tryz.prog 44 [.str s, .int .i64 (n : Nat)] h (.tup [.str (partS s n).1, .str (partS s n).2.1, .bool (partS s n).2.2]) := by
  refine pure_to Tryz.func44 S.Href33_part_code S.Href33_part_enter rfl (Nat.le_of_ble_eq_true rfl) fun wf => ?_; simp only [S.Href33_part]
  unfold partS
  by_cases hn : n ≤ s.length
  · have i1 : ¬ (s.length : Int) < (n : Int) := by omega
    have i2 : ¬ s.length < n := by omega
    simp [i1, hn]
    refine dreg_of ?_
    simp [hn]
  · have i1 : (s.length : Int) < (n : Int) := by omega
    have i2 : s.length < n := by omega
    simp [i1, hn]
def ttS : List UInt8 → List UInt8 × List UInt8 × Bool
  | [] => ([], [], false)
  | b :: r => partS r b.toNat
theorem takeText_ct {h : H} {s : List UInt8} (hl : s.length < 9223372036854775000) : Pure Tryz.prog 25 [.str s] h (.tup [.str (ttS s).1, .str (ttS s).2.1, .bool (ttS s).2.2]) := by
  refine pure_to Tryz.func25 S.Href33_takeText_code S.Href33_takeText_enter rfl (Nat.le_of_ble_eq_true rfl) fun wf => ?_; simp only [S.Href33_takeText]
  cases s with
  | nil => simp [ttS]
  | cons b r =>
    have i1 : (1 : Int) ≤ (r.length : Int) + 1 := by omega
    have wb : IntKind.i64.wrap (b.toNat : Int) = (b.toNat : Nat) := by have := UInt8.toNat_lt b; exact wrap_i64_id (by omega) (by omega)
    have hz : ((r.length : Int) + 1 == 0) = false := beq_eq_false_iff_ne.2 (by omega)
    simp [hz]
    refine dreg_of ?_
    simp [i1, wb]
    refine scall_of (fun Q q => part_ct _ q) ?_
    simp [ttS]
def num4P : List V → Option V
  | [.str s] => if 4 ≤ s.length then some (.int .u32 (val (s.take 4) : Nat)) else none
  | _ => none
theorem num4P_ok : ∀ p ∈ [(45, num4P)], ∀ vals v, p.2 vals = some v → ∀ h, Acalls Tryz.prog p.1 vals h fun u h' => u = v ∧ h' = h :=
  plain1 fun vals v e h => by
    unfold num4P at e
    split at e
    · split at e
      · rename_i hc
        cases e
        exact num_ct hc
      · cases e
    · cases e
def tpS (s : List UInt8) : Pfx × List UInt8 × Bool :=
  if s.length < 10 then (zeroP, [], false) else (⟨((s.getD 0 0).toNat : Nat), val ((s.drop 1).take 4) * 4294967296 + val ((s.drop 5).take 4), (partS (s.drop 10) (sizeN ((s.getD 0 0).toNat : Nat))).1, ((s.getD 9 0).toNat : Nat)⟩,
    (partS (s.drop 10) (sizeN ((s.getD 0 0).toNat : Nat))).2.1, (partS (s.drop 10) (sizeN ((s.getD 0 0).toNat : Nat))).2.2)
theorem hl32 (a b : Nat) (h1 : a < 4294967296) (h2 : b < 4294967296) : intV .or .u64 ((a * 4294967296 : Nat) : Int) (b : Int) = some (.int .u64 ((a * 4294967296 + b : Nat) : Int)) := by
  have e1 : (BitVec.ofInt 64 ((a * 4294967296 : Nat) : Int)).toNat = 2 ^ 32 * a := by simp [BitVec.toNat_ofInt]; omega
  have e2 : (BitVec.ofInt 64 (b : Int)).toNat = b := by simp; omega
  have e3 : (BitVec.ofInt 64 ((a * 4294967296 : Nat) : Int) ||| BitVec.ofInt 64 (b : Int)).toNat = a * 4294967296 + b := by
    rw [BitVec.toNat_or, e1, e2, ← Nat.two_pow_add_eq_or_of_lt (by omega)]; omega
  show some (V.int .u64 (IntKind.u64.wrap ((BitVec.ofInt 64 ((a * 4294967296 : Nat) : Int) ||| BitVec.ofInt 64 (b : Int)).toNat : Int))) = _
  rw [e3, u64_id (by omega)]
theorem val4_lt (s : List UInt8) (h : 4 ≤ s.length) : val (s.take 4) < 4294967296 := val_lt 4 _ (by rw [List.length_take]; omega)
theorem takePrefix_ct {h : H} {s : List UInt8} (hl : s.length < 9223372036854775000) : Pure Tryz.prog 26 [.str s] h (.tup [.agg (pfxC (tpS s).1), .str (tpS s).2.1, .bool (tpS s).2.2]) := by
  refine pure_to Tryz.func26 S.Href33_takePrefix_code S.Href33_takePrefix_enter rfl (Nat.le_of_ble_eq_true rfl) fun wf => ?_; simp only [S.Href33_takePrefix]
  by_cases hs : s.length < 10
  · have i1 : (s.length : Int) < 10 := by omega
    simp [i1, hs, tpS, pfxC, zeroP]
  · have i1 : ¬ (s.length : Int) < 10 := by omega
    obtain ⟨x, hx⟩ : ∃ x, x = (s.getD 0 0).toNat := ⟨_, rfl⟩
    obtain ⟨y, hy⟩ : ∃ y, y = (s.getD 9 0).toNat := ⟨_, rfl⟩
    obtain ⟨bx, hbx⟩ : ∃ bx, bx = s.getD 0 0 := ⟨_, rfl⟩
    obtain ⟨by', hby⟩ : ∃ by', by' = s.getD 9 0 := ⟨_, rfl⟩
    have hx2 := hx
    have hy2 := hy
    rw [← hbx] at hx2
    rw [← hby] at hy2
    have g0 : s[0]? = some bx := by rw [hbx, List.getD_eq_getElem?_getD, List.getElem?_eq_getElem (by omega)]; rfl
    have g9 : s[9]? = some by' := by rw [hby, List.getD_eq_getElem?_getD, List.getElem?_eq_getElem (by omega)]; rfl
    have x8 : x < 256 := by rw [hx]; exact UInt8.toNat_lt _
    have y8 : y < 256 := by rw [hy]; exact UInt8.toNat_lt _
    obtain ⟨a, ha⟩ : ∃ a, a = val ((s.drop 1).take 4) := ⟨_, rfl⟩
    obtain ⟨b, hb⟩ : ∃ b, b = val ((s.drop 5).take 4) := ⟨_, rfl⟩
    have a4 : a < 4294967296 := by rw [ha]; exact val4_lt _ (by simp; omega)
    have b4 : b < 4294967296 := by rw [hb]; exact val4_lt _ (by simp; omega)
    have p1 : num4P [.str (s.drop 1)] = some (.int .u32 (a : Nat)) := by simp only [num4P]; rw [if_pos (by simp; omega), ha]
    have p1' : num4P [.str s.tail] = some (.int .u32 (a : Nat)) := by rw [← List.drop_one]; exact p1
    have p2 : num4P [.str (s.drop 5)] = some (.int .u32 (b : Nat)) := by simp only [num4P]; rw [if_pos (by simp; omega), hb]
    have wx : IntKind.i64.wrap (x : Int) = (x : Nat) := wrap_i64_id (by omega) (by omega)
    have wy : IntKind.i64.wrap (y : Int) = (y : Nat) := wrap_i64_id (by omega) (by omega)
    have wa : IntKind.u64.wrap (a : Int) = (a : Nat) := u64_id (by omega)
    have wb : IntKind.u64.wrap (b : Int) = (b : Nat) := u64_id (by omega)
    have sh : IntKind.u64.wrap ((a : Int) * 2 ^ min 32 IntKind.u64.bits) = ((a * 4294967296 : Nat) : Int) := by
      rw [show min 32 IntKind.u64.bits = 32 from rfl, show (a : Int) * 2 ^ 32 = ((a * 4294967296 : Nat) : Int) by omega]; exact u64_id (by omega)
    have o := hl32 a b a4 b4
    obtain ⟨z, hz⟩ : ∃ z : Int, z = ((a * 4294967296 : Nat) : Int) := ⟨_, rfl⟩
    rw [← hz] at sh o
    obtain ⟨rd, hrd⟩ : ∃ rd, rd = a * 4294967296 + b := ⟨_, rfl⟩
    rw [← hrd] at o
    have l1 : (1 : Int) ≤ (s.length : Int) := by omega
    have l5 : (5 : Int) ≤ (s.length : Int) := by omega
    have l10 : (10 : Int) ≤ (s.length : Int) := by omega
    have m1 : 1 ≤ s.length := by omega
    have m5 : 5 ≤ s.length := by omega
    have m10 : 10 ≤ s.length := by omega
    have et : tpS s = (⟨(x : Nat), rd, (partS (s.drop 10) (sizeN (x : Nat))).1, (y : Nat)⟩, (partS (s.drop 10) (sizeN (x : Nat))).2.1, (partS (s.drop 10) (sizeN (x : Nat))).2.2) := by
      unfold tpS; rw [if_neg hs, ← hx, ← hy, ← ha, ← hb, ← hrd]
    rw [et]
    simp [i1]
    refine dreg_plain _ num4P_ok (by rfl) ?_
    simp [List.lookup, g0, g9, ← hx2, ← hy2, l1, l5, p1', p2, wx, wy, wa, wb, sh, o]
    refine dreg_of ?_
    simp [l10]
    refine scall_of (fun Q q => rsize_ct _ q) ?_
    simp
    refine scall_of (fun Q q => part_ct _ q) ?_
    simp [pfxC]
    exact ((((Ge.refl _).push _).push _).set (by simp) _).set (Nat.le_refl _) _
end Go.Am

/-
  The reference's Decode; both read the same.
-/
namespace Go.Am
open Go.Proofs

set_option maxRecDepth 100000
/-- What the reference reads, ahead of its test. -/
def refQ : List UInt8 → Option Rq
  | [] => none
  | b :: r => if (ttS r).2.2 = false then none else match (ttS r).2.1 with
    | [] => none
    | b2 :: r2 => some ⟨(b.toNat : Nat), (ttS r).1, (b2.toNat : Nat), if b.toNat = 4 then (tpS r2).1 else zeroP⟩
def refD (s : List UInt8) : Option Rq := match refQ s with
  | some r => if mayRq r = true ∧ encRq r = s then some r else none
  | none => none
theorem partS_len (s : List UInt8) (n : Nat) : (partS s n).1.length ≤ n ∧ (partS s n).2.1.length ≤ s.length := by
  unfold partS
  split
  · simp; omega
  · simp
theorem ttS_len (s : List UInt8) : (ttS s).1.length < 256 ∧ (ttS s).2.1.length ≤ s.length := by
  cases s with
  | nil => simp [ttS]
  | cons b r =>
    have := partS_len r b.toNat
    have := UInt8.toNat_lt b
    simp [ttS]; omega
theorem tpS_rd (s : List UInt8) : (tpS s).1.rd < 18446744073709551616 := by
  unfold tpS
  split
  · simp [zeroP]
  · rename_i h
    have h1 := val4_lt (s.drop 1) (by simp; omega)
    have h2 := val4_lt (s.drop 5) (by simp; omega)
    simp only
    omega
theorem rdecodeq_ct {h : H} {s : List UInt8} (hl : s.length < 9223372036854775000) : Pure Tryz.prog 9 [.str s] h (decV (refD s)) := by
  refine pure_to Tryz.func9 S.Href33_Decode_code S.Href33_Decode_enter (by exact decV_ids _) (Nat.le_of_ble_eq_true rfl) fun wf => ?_; simp only [S.Href33_Decode]
  have zr : decV none = .tup [.agg [.int .i64 0, .str [], .int .i64 0, .int .i64 0, .int .u64 0, .str [], .int .i64 0], .int .i64 4] := rfl
  cases s with
  | nil => simp [refD, refQ, zr]
  | cons b r =>
    have hr : r.length < 9223372036854774999 := by simp at hl; omega
    have hz : ((r.length : Int) + 1 == 0) = false := beq_eq_false_iff_ne.2 (by omega)
    have i1 : (1 : Int) ≤ (r.length : Int) + 1 := by omega
    obtain ⟨x, hx⟩ : ∃ x, x = b.toNat := ⟨_, rfl⟩
    have x8 : x < 256 := by rw [hx]; exact UInt8.toNat_lt _
    have wx : IntKind.i64.wrap (x : Int) = (x : Nat) := wrap_i64_id (by omega) (by omega)
    have G : ∀ o1 o2 o3 o4, Ge h ((((h.push o1).push o2).set (h.next + 1) o3).set h.next o4) := fun _ _ _ _ => ((((Ge.refl _).push _).push _).set (by simp) _).set (Nat.le_refl _) _
    obtain ⟨nm, hnm⟩ : ∃ nm, nm = (ttS r).1 := ⟨_, rfl⟩
    obtain ⟨rest, hrest⟩ : ∃ rest, rest = (ttS r).2.1 := ⟨_, rfl⟩
    obtain ⟨is, his⟩ : ∃ is, is = (ttS r).2.2 := ⟨_, rfl⟩
    obtain ⟨l1, l2⟩ := ttS_len r
    rw [← hnm] at l1
    rw [← hrest] at l2
    have tt := fun g : H => takeText_ct (h := g) (s := r) (by omega)
    rw [← hnm, ← hrest, ← his] at tt
    simp [hz, i1, ← hx, wx]
    refine tt _ _ ?_
    cases is with
    | false =>
      have hO : refD (b :: r) = none := by simp [refD, refQ, ← his]
      rw [hO]
      simp [zr]
      exact G _ _ _ _
    | true =>
      cases rest with
      | nil =>
        have hO : refD (b :: r) = none := by simp [refD, refQ, ← his, ← hrest]
        rw [hO]
        simp [zr]
        exact G _ _ _ _
      | cons b2 r2 =>
        obtain ⟨y, hy⟩ : ∃ y, y = b2.toNat := ⟨_, rfl⟩
        have y8 : y < 256 := by rw [hy]; exact UInt8.toNat_lt _
        have wy : IntKind.i64.wrap (y : Int) = (y : Nat) := wrap_i64_id (by omega) (by omega)
        have hz2 : ((r2.length : Int) + 1 == 0) = false := beq_eq_false_iff_ne.2 (by omega)
        have i2 : (1 : Int) ≤ (r2.length : Int) + 1 := by omega
        have hr2 : r2.length < 9223372036854774999 := by simp at l2; omega
        by_cases h4 : x = 4
        · have b4 : ((x : Int) == 4) = true := beq_iff_eq.2 (by omega)
          obtain ⟨p, hp⟩ : ∃ p, p = (tpS r2).1 := ⟨_, rfl⟩
          have hrd := tpS_rd r2
          rw [← hp] at hrd
          have tp := fun g : H => takePrefix_ct (h := g) (s := r2) (by omega)
          rw [← hp] at tp
          simp only [pfxC] at tp
          have hq : refQ (b :: r) = some ⟨(x : Nat), nm, (y : Nat), p⟩ := by simp only [refQ]; rw [← his, ← hrest, ← hnm, ← hx, if_neg (by decide)]; simp only; rw [← hy, if_pos h4, ← hp]
          have en : ∀ g : H, Pure Tryz.prog 5 [.agg (rqC ⟨(x : Nat), nm, (y : Nat), p⟩)] g (encV ⟨(x : Nat), nm, (y : Nat), p⟩) := fun g => rencodeq_ct (by simp only; omega) hrd
          obtain ⟨E, hE⟩ : ∃ E, E = encV ⟨(x : Nat), nm, (y : Nat), p⟩ := ⟨_, rfl⟩
          rw [← hE] at en
          simp only [rqC] at en
          simp [hz2, ← hy, wy, b4, i2]
          refine tp _ _ ?_
          simp
          refine en _ _ ?_
          by_cases hm : mayRq ⟨(x : Nat), nm, (y : Nat), p⟩ = true
          · have ev : E = .tup [.str (encRq ⟨(x : Nat), nm, (y : Nat), p⟩), .int .i64 0] := by rw [hE]; unfold encV; rw [if_pos hm]
            by_cases he : encRq ⟨(x : Nat), nm, (y : Nat), p⟩ = b :: r
            · have hO : refD (b :: r) = some ⟨(x : Nat), nm, (y : Nat), p⟩ := by unfold refD; rw [hq]; exact if_pos ⟨hm, he⟩
              rw [hO, ev, he]
              simp [decV, rqC]
              first | exact G _ _ _ _ | exact ⟨⟨rfl, rfl, rfl, rfl⟩, G _ _ _ _⟩
            · have hO : refD (b :: r) = none := by unfold refD; rw [hq]; exact if_neg (fun e => he e.2)
              have b1 : (encRq ⟨(x : Nat), nm, (y : Nat), p⟩ == b :: r) = false := beq_eq_false_iff_ne.2 he
              rw [hO, ev]
              simp [zr, b1]
              first | exact G _ _ _ _ | exact ⟨⟨rfl, rfl, rfl, rfl⟩, G _ _ _ _⟩
          · have ev : E = .tup [.str [], .int .i64 2] := by rw [hE]; unfold encV; rw [if_neg hm]
            have hO : refD (b :: r) = none := by unfold refD; rw [hq]; exact if_neg (fun e => hm e.1)
            rw [hO, ev]
            simp [zr]
            first | exact G _ _ _ _ | exact ⟨⟨rfl, rfl, rfl, rfl⟩, G _ _ _ _⟩
        · have b4 : ((x : Int) == 4) = false := beq_eq_false_iff_ne.2 (by omega)
          have hrd : zeroP.rd < 18446744073709551616 := by decide
          have hq : refQ (b :: r) = some ⟨(x : Nat), nm, (y : Nat), zeroP⟩ := by simp only [refQ]; rw [← his, ← hrest, ← hnm, ← hx, if_neg (by decide)]; simp only; rw [← hy, if_neg h4]
          have en : ∀ g : H, Pure Tryz.prog 5 [.agg (rqC ⟨(x : Nat), nm, (y : Nat), zeroP⟩)] g (encV ⟨(x : Nat), nm, (y : Nat), zeroP⟩) := fun g => rencodeq_ct (by simp only; omega) hrd
          obtain ⟨E, hE⟩ : ∃ E, E = encV ⟨(x : Nat), nm, (y : Nat), zeroP⟩ := ⟨_, rfl⟩
          rw [← hE] at en
          simp only [rqC] at en
          simp only [zeroP, Int.natCast_zero] at en
          simp [hz2, ← hy, wy, b4]
          refine en _ _ ?_
          by_cases hm : mayRq ⟨(x : Nat), nm, (y : Nat), zeroP⟩ = true
          · have ev : E = .tup [.str (encRq ⟨(x : Nat), nm, (y : Nat), zeroP⟩), .int .i64 0] := by rw [hE]; unfold encV; rw [if_pos hm]
            by_cases he : encRq ⟨(x : Nat), nm, (y : Nat), zeroP⟩ = b :: r
            · have hO : refD (b :: r) = some ⟨(x : Nat), nm, (y : Nat), zeroP⟩ := by unfold refD; rw [hq]; exact if_pos ⟨hm, he⟩
              rw [hO, ev, he]
              simp [decV, rqC]
              first | exact G _ _ _ _ | exact ⟨⟨rfl, rfl, rfl, rfl⟩, G _ _ _ _⟩
            · have hO : refD (b :: r) = none := by unfold refD; rw [hq]; exact if_neg (fun e => he e.2)
              have b1 : (encRq ⟨(x : Nat), nm, (y : Nat), zeroP⟩ == b :: r) = false := beq_eq_false_iff_ne.2 he
              rw [hO, ev]
              simp [zr, b1]
              first | exact G _ _ _ _ | exact ⟨⟨rfl, rfl, rfl, rfl⟩, G _ _ _ _⟩
          · have ev : E = .tup [.str [], .int .i64 2] := by rw [hE]; unfold encV; rw [if_neg hm]
            have hO : refD (b :: r) = none := by unfold refD; rw [hq]; exact if_neg (fun e => hm e.1)
            rw [hO, ev]
            simp [zr]
            first | exact G _ _ _ _ | exact ⟨⟨rfl, rfl, rfl, rfl⟩, G _ _ _ _⟩
/-! ### Both read the same -/
theorem decOf_enc {r : Rq} (hm : mayRq r = true) (hr : r.p.rd < 18446744073709551616) : decOf (encRq r) = some r := by
  obtain ⟨⟨k1, k2⟩, hn, ⟨f1, f2⟩, hp4, hz⟩ := mayRq_fit hm
  obtain ⟨k, n, f, p⟩ := r
  simp only at k1 k2 hn f1 f2 hp4 hz hr
  obtain ⟨a, rfl⟩ := Int.eq_ofNat_of_zero_le (show 0 ≤ k by omega)
  obtain ⟨b, rfl⟩ := Int.eq_ofNat_of_zero_le f1
  obtain ⟨tl, htl⟩ : ∃ tl, tl = if (a : Int) = 4 then pfxB p else [] := ⟨_, rfl⟩
  have es : encRq ⟨(a : Int), n, (b : Int), p⟩ = be 1 a ++ (txtB n ++ (be 1 b ++ tl)) := by simp [encRq, htl]
  obtain ⟨s, hs⟩ : ∃ s, s = encRq ⟨(a : Int), n, (b : Int), p⟩ := ⟨_, rfl⟩
  rw [← hs]
  have x1 := vl_app (n := 1) (v := a) (l := txtB n ++ (be 1 b ++ tl)) (b := true) (by omega)
  rw [← es, ← hs] at x1
  have x2 := xn_app (t := n) (l := be 1 b ++ tl) (b := true) (by omega)
  have x3 := vl_app (n := 1) (v := b) (l := tl) (b := true) (by omega)
  have ek : rdK s = a := x1.2
  have e3 : rd3 s = (tl, true) := by unfold rd3; rw [x1.1, x2.1, x3.1]
  have hq : rdQ s = ⟨(a : Int), n, (b : Int), p⟩ ∧ rdE s = ([], true) := by
    unfold rdQ rdE
    rw [ek, x1.1, x2.1, x2.2, x3.2, e3]
    by_cases h4 : a = 4
    · have t4 : tl = pfxB p ++ [] := by rw [htl, if_pos (by omega)]; simp
      obtain ⟨pf, pal⟩ := mayP_fit (hp4 (by omega)) hr
      have x4 := pn_app (l := []) (b := true) pf pal
      rw [← t4] at x4
      rw [if_pos h4, if_pos h4, x4.1, x4.2]
      exact ⟨rfl, rfl⟩
    · have t4 : tl = [] := by rw [htl, if_neg (by omega)]
      rw [if_neg h4, if_neg h4, t4, hz (by omega)]
      exact ⟨rfl, rfl⟩
  unfold decOf
  rw [hq.1, hq.2, if_pos ⟨rfl, rfl, hm⟩]
theorem decOf_ok {s : List UInt8} {r : Rq} (h : decOf s = some r) : mayRq r = true ∧ encRq r = s ∧ r.p.rd < 18446744073709551616 := by
  unfold decOf at h
  split at h
  · rename_i hc
    obtain ⟨h1, h2, h3⟩ := hc
    cases h
    refine ⟨h3, ?_, ?_⟩
    · have key : (rd3 s).2 = true ∧ (rd3 s).1 = if rdK s = 4 then pfxB (pv (rd3 s)) else [] := by
        unfold rdE at h1 h2
        split at h1
        · rename_i h4
          rw [if_pos h4] at h2 ⊢
          obtain ⟨a1, a2⟩ := pn_ok h1
          rw [h2, List.append_nil] at a2
          exact ⟨a1, a2⟩
        · rename_i h4
          rw [if_neg h4] at h2 ⊢
          exact ⟨h1, h2⟩
      obtain ⟨b1, b2⟩ := key
      have b3 : (nx 1 (xn (nx 1 (s, true)))).2 = true := b1
      obtain ⟨c1, c2, _⟩ := nx_ok b3
      obtain ⟨d1, d2⟩ := xn_ok c1
      obtain ⟨_, e2, _⟩ := nx_ok d1
      have e2' : s = be 1 (rdK s) ++ (nx 1 (s, true)).1 := e2
      have c2' : (xn (nx 1 (s, true))).1 = be 1 (vl 1 (xn (nx 1 (s, true)))) ++ (rd3 s).1 := c2
      obtain ⟨s0, hs0⟩ : ∃ s0, s0 = s := ⟨_, rfl⟩
      have : s = be 1 (rdK s) ++ (txtB (xv (nx 1 (s, true))) ++ (be 1 (vl 1 (xn (nx 1 (s, true)))) ++ if rdK s = 4 then pfxB (pv (rd3 s)) else [])) := by
        rw [← b2, ← c2', ← d2]
        exact e2'
      refine Eq.trans ?_ this.symm
      unfold encRq rdQ
      by_cases h4 : rdK s = 4
      · have i4 : (rdK s : Int) = 4 := by omega
        simp only [if_pos h4, if_pos i4, Int.toNat_natCast, List.append_assoc]
      · have i4 : ¬ (rdK s : Int) = 4 := by omega
        simp only [if_neg h4, if_neg i4, Int.toNat_natCast, List.append_assoc]
    · unfold rdQ
      simp only
      split
      · have := vl_lt 8 (nx 1 (rd3 s))
        unfold pv
        simp only
        omega
      · decide
  · cases h
theorem refQ_rd {s : List UInt8} {r : Rq} (h : refQ s = some r) : r.p.rd < 18446744073709551616 := by
  cases s with
  | nil => cases h
  | cons b r0 =>
    simp only [refQ] at h
    split at h
    · cases h
    · split at h
      · cases h
      · cases h
        simp only
        split
        · exact tpS_rd _
        · decide
theorem refQ_enc {r : Rq} (hm : mayRq r = true) (hr : r.p.rd < 18446744073709551616) : refQ (encRq r) = some r := by
  obtain ⟨⟨k1, k2⟩, hn, ⟨f1, f2⟩, hp4, hz⟩ := mayRq_fit hm
  obtain ⟨k, n, f, p⟩ := r
  simp only at k1 k2 hn f1 f2 hp4 hz hr
  obtain ⟨a, rfl⟩ := Int.eq_ofNat_of_zero_le (show 0 ≤ k by omega)
  obtain ⟨b, rfl⟩ := Int.eq_ofNat_of_zero_le f1
  obtain ⟨tl, htl⟩ : ∃ tl, tl = if (a : Int) = 4 then pfxB p else [] := ⟨_, rfl⟩
  have ua : (UInt8.ofNat a).toNat = a := by simp; omega
  have ub : (UInt8.ofNat b).toNat = b := by simp; omega
  have un : (UInt8.ofNat n.length).toNat = n.length := by simp; omega
  have es : encRq ⟨(a : Int), n, (b : Int), p⟩ = UInt8.ofNat a :: UInt8.ofNat n.length :: (n ++ UInt8.ofNat b :: tl) := by simp [encRq, htl, txtB, be1]
  have hp : partS (n ++ UInt8.ofNat b :: tl) n.length = (n, UInt8.ofNat b :: tl, true) := by
    unfold partS; rw [if_pos (by simp)]; simp
  have ht : ttS (UInt8.ofNat n.length :: (n ++ UInt8.ofNat b :: tl)) = (n, UInt8.ofNat b :: tl, true) := by
    simp only [ttS, un, hp]
  rw [es]
  simp only [refQ]
  rw [ht]
  simp only [ua, ub]
  rw [if_neg (by decide)]
  congr 2
  by_cases h4 : a = 4
  · rw [if_pos h4]
    have t4 : tl = pfxB p := by rw [htl, if_pos (by omega)]
    obtain ⟨pf, pal⟩ := mayP_fit (hp4 (by omega)) hr
    obtain ⟨pfam, prd, paddr, plen⟩ := p
    obtain ⟨⟨g1, g2⟩, g3, ⟨g4, g5⟩, g6⟩ := pf
    simp only at g1 g2 g3 g4 g5 g6 pal
    obtain ⟨x, rfl⟩ := Int.eq_ofNat_of_zero_le g1
    obtain ⟨y, rfl⟩ := Int.eq_ofNat_of_zero_le g4
    have ux : (UInt8.ofNat x).toNat = x := by simp; omega
    have uy : (UInt8.ofNat y).toNat = y := by simp; omega
    have e : tl = UInt8.ofNat x :: (be 4 (prd / 4294967296) ++ (be 4 prd ++ UInt8.ofNat y :: paddr)) := by
      rw [t4]; simp [pfxB, be1, be8]
    have v1 : val (be 4 (prd / 4294967296)) = prd / 4294967296 := val_be_lt (by omega)
    have v2 : val (be 4 prd) = prd % 4294967296 := val_be 4 prd
    have d1 : (tl.drop 1).take 4 = be 4 (prd / 4294967296) := by
      rw [e, List.drop_one, List.tail_cons, List.take_append_of_le_length (by simp [be_len]), List.take_of_length_le (by simp [be_len])]
    have d5 : (tl.drop 5).take 4 = be 4 prd := by
      have : tl.drop 5 = be 4 prd ++ UInt8.ofNat y :: paddr := by
        rw [e, List.drop_succ_cons, List.drop_append, List.drop_of_length_le (by simp [be_len]), be_len]; simp
      rw [this, List.take_append_of_le_length (by simp [be_len]), List.take_of_length_le (by simp [be_len])]
    have d9 : tl.drop 9 = UInt8.ofNat y :: paddr := by
      rw [e, List.drop_succ_cons, List.drop_append, List.drop_of_length_le (by simp [be_len]), be_len, List.nil_append, List.drop_append, List.drop_of_length_le (by simp [be_len]), be_len]; simp
    have d10 : tl.drop 10 = paddr := by
      have := congrArg (List.drop 1) d9
      rw [List.drop_drop] at this
      simpa using this
    have q0 : tl.getD 0 0 = UInt8.ofNat x := by rw [e]; rfl
    have q9 : tl.getD 9 0 = UInt8.ofNat y := by
      have h9 : (tl.drop 9)[0]? = tl[9]? := by rw [List.getElem?_drop]
      rw [List.getD_eq_getElem?_getD, ← h9, d9]; rfl
    have hlen : ¬ tl.length < 10 := by rw [e]; simp [be_len]; omega
    unfold tpS
    rw [if_neg hlen, q0, q9, d1, d5, d10, ux, uy, v1, v2]
    have hpp : partS paddr (sizeN (x : Nat)) = (paddr, [], true) := by
      unfold partS; rw [if_pos (by rw [pal]; exact Nat.le_refl _), ← pal]; simp
    simp only [hpp]
    congr 1
    omega
  · rw [if_neg h4, hz (by omega)]
theorem dec_same (s : List UInt8) : decOf s = refD s := by
  cases h : decOf s with
  | some r =>
    obtain ⟨h1, h2, h3⟩ := decOf_ok h
    have := refQ_enc h1 h3
    rw [h2] at this
    unfold refD
    rw [this]
    exact (if_pos ⟨h1, h2⟩).symm
  | none =>
    unfold refD
    cases h2 : refQ s with
    | none => rfl
    | some r =>
      simp only
      split
      · rename_i hc
        have := decOf_enc hc.1 (refQ_rd h2)
        rw [hc.2, h] at this
        cases this
      · rfl
end Go.Am
