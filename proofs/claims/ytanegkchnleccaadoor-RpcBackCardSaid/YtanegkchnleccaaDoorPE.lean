/-
  RP7, RB1, RB2, in one text.
-/
import Derived.Test.YtanegkchnleccaaDoorPD
/-
  The taker made; questions read.
-/
namespace Go.Am
open Go.Proofs

set_option maxRecDepth 100000
theorem taking_ct {h : H} {s : List UInt8} {Q : V → H → Prop} (q : ∀ c d i h', Tk h' c d i (s, true) → Ge h h' → h'.WF → h.next ≤ c ∧ h.next ≤ d ∧ h.next ≤ i → Q (.agg (tkr c d)) h') : Acalls Tryd.prog 14 [.str s] h Q := by
  refine acalls_to Tryd.func14 S.rpc_taking_code S.rpc_taking_enter (Nat.le_of_ble_eq_true rfl) fun wf => ?_; simp only [S.rpc_taking]
  have on : ∀ f a b, (V.func f a b).one = true := fun _ _ _ => rfl
  have so : ∀ f a b, (V.func f a b).solid = true := fun _ _ _ => rfl
  have cl : ∀ f a b, (V.func f a b).cells = [.func f a b] := fun _ _ _ => rfl
  have sp : ∀ a b c, (V.ptr a b c).solid = true := fun _ _ _ => rfl
  have cp : ∀ a b c, (V.ptr a b c).cells = [.ptr a b c] := fun _ _ _ => rfl
  have e1 : (h.next = h.next + 1 + 1 + 1) = False := by simp; omega
  have e2 : (h.next = h.next + 1 + 1) = False := by simp; omega
  simp
  refine new_ct ?_
  simp [on, so, cl, sp, cp, e1, e2]
  refine q (h.next + 1 + 1) (h.next + 1 + 1 + 1) (h.next + 1) _ ⟨?_, ?_, ?_⟩ ?_ ?_ ⟨by omega, by omega, by omega⟩
  · simp; omega
  · simp
  · simp; omega
  · exact ((((((((Ge.refl _).push _).push _).push _).set (by omega) _).push _).set (by omega) _)).set (by omega) _
  · exact (((((((wf.push _).push _).push _).set (by simp) _).push _).set (by simp) _)).set (by simp; omega) _
/-- While a question is read. -/
structure Dc (h g : H) (c d i n2 n4 n5 : Nat) (s : Rs) (C : List V) : Prop where
  t : Tk g c d i s
  r2 : g.get n2 = some (.row [.int .i64 0, .str [], .int .i64 0, .int .i64 0, .int .u64 0, .str [], .int .i64 0])
  r4 : g.get n4 = some (.row (tkr c d))
  r5 : g.get n5 = some (.row C)
  ge : Ge h g
  wf : g.WF
  lo : h.next ≤ d ∧ h.next ≤ i ∧ h.next ≤ n5
  ne2 : n2 ≠ d ∧ n2 ≠ i ∧ n2 ≠ n5
  ne4 : n4 ≠ d ∧ n4 ≠ i ∧ n4 ≠ n5
  ne5 : n5 ≠ c ∧ n5 ≠ d ∧ n5 ≠ i
theorem Dc.set {h g : H} {c d i n2 n4 n5 : Nat} {s : Rs} {C : List V} (x : Dc h g c d i n2 n4 n5 s C) (s' : Rs) (C' : List V) : Dc h ((setT g i d s').set n5 (.row C')) c d i n2 n4 n5 s' C' := by
  obtain ⟨a1, a2, a3⟩ := x.ne2
  obtain ⟨b1, b2, b3⟩ := x.ne4
  obtain ⟨d1, d2, d3⟩ := x.ne5
  have t' := x.t.set s'
  refine ⟨⟨?_, ?_, ?_⟩, ?_, ?_, ?_, ?_, ?_, x.lo, x.ne2, x.ne4, x.ne5⟩
  · rw [H.get_set, if_neg (Ne.symm d1)]; exact t'.c
  · rw [H.get_set, if_neg (Ne.symm d3)]; exact t'.i
  · rw [H.get_set, if_neg (Ne.symm d2)]; exact t'.d
  · rw [H.get_set, if_neg a3, setT_get a2 a1]; exact x.r2
  · rw [H.get_set, if_neg b3, setT_get b2 b1]; exact x.r4
  · rw [H.get_set, if_pos rfl]
  · obtain ⟨l1, l2, l3⟩ := x.lo
    exact Ge.set (Ge.set (Ge.set x.ge l2 _) l1 _) l3 _
  · exact (setT_wf x.t x.wf).set (by rw [setT_next]; exact x.wf.lt x.r5) _
theorem Dc.c4 {h g : H} {c d i n2 n4 n5 : Nat} {s : Rs} {C : List V} (x : Dc h g c d i n2 n4 n5 s C) : cellsAt g.get n4 3 = some (tkr c d) := (cellsAt_of (n := 3) x.r4 rfl).trans rfl
theorem Dc.c5 {h g : H} {c d i n2 n4 n5 : Nat} {s s' : Rs} {C : List V} (x : Dc h g c d i n2 n4 n5 s C) : (setT g i d s').get n5 = some (.row C) := by rw [setT_get x.ne5.2.2 x.ne5.2.1]; exact x.r5
theorem Dc.k5 {h g : H} {c d i n2 n4 n5 : Nat} {s : Rs} {C : List V} (x : Dc h g c d i n2 n4 n5 s C) (hC : C.length = 7) : cellsAt g.get n5 7 = some C := (cellsAt_of (n := 7) x.r5 (by simpa using hC)).trans rfl
theorem Dc.ge2 {h g : H} {c d i n2 n4 n5 : Nat} {s : Rs} {C : List V} (x : Dc h g c d i n2 n4 n5 s C) (h2 : h.next ≤ n2) (o : O) : Ge h (g.set n2 o) := x.ge.set h2 _
/-- What is read of bytes as a question. -/
def rdK (s : List UInt8) : Nat := vl 1 (s, true)
def rd3 (s : List UInt8) : Rs := nx 1 (xn (nx 1 (s, true)))
def rdQ (s : List UInt8) : Rq := ⟨(rdK s : Nat), xv (nx 1 (s, true)), (vl 1 (xn (nx 1 (s, true))) : Nat), if rdK s = 4 then pv (rd3 s) else zeroP⟩
def rdE (s : List UInt8) : Rs := if rdK s = 4 then pn (rd3 s) else rd3 s
def decOf (s : List UInt8) : Option Rq := if (rdE s).2 = true ∧ (rdE s).1 = [] ∧ mayRq (rdQ s) = true then some (rdQ s) else none
def decV : Option Rq → V
  | some r => .tup [.agg (rqC r), .int .i64 0]
  | none => .tup [.agg (rqC zeroR), .int .i64 4]
theorem decV_ids (o : Option Rq) : (decV o).ids = [] := by cases o <;> rfl
theorem rdecode_ct {h : H} {s : List UInt8} : Pure Tryd.prog 6 [.str s] h (decV (decOf s)) := by
  refine pure_to Tryd.func6 S.rpc_Decode_code S.rpc_Decode_enter (by exact decV_ids _) (Nat.le_of_ble_eq_true rfl) fun wf => ?_; simp only [S.rpc_Decode]
  simp
  refine taking_ct fun c d i h1 t1 g1 w1 lo => ?_
  obtain ⟨q1, q2, q3⟩ := lo
  simp at q1 q2 q3
  have lc := w1.lt t1.c
  have ld := w1.lt t1.d
  have li := w1.lt t1.i
  have z2 : h1.get h.next = some (.row [.int .i64 0, .str [], .int .i64 0, .int .i64 0, .int .u64 0, .str [], .int .i64 0]) := by rw [g1.2 _ (by simp)]; simp
  have g1' : Ge h h1 := ((Ge.refl h).push _).trans g1
  have n1 := g1'.1
  have n2 : h.next < h1.next := by have := g1.1; simp at this; omega
  have tone : (tkr c d).all V.one = true := rfl
  have tlen : (tkr c d).length = 3 := rfl
  have e0 : ∀ hh, (tkr c d)[0]'hh = .func (.func 24) [] [.ptr c 1 0, .ptr d 1 0] := fun _ => rfl
  have e2 : ∀ hh, (tkr c d)[2]'hh = .func (.func 28) [] [.ptr d 1 0, .ptr c 1 0] := fun _ => rfl
  obtain ⟨h2, hh2⟩ : ∃ h2, h2 = h1.push (.row (tkr c d)) := ⟨_, rfl⟩
  have t2 : Tk h2 c d i (s, true) := by rw [hh2]; exact t1.push w1 _
  have w2 : h2.WF := by rw [hh2]; exact w1.push _
  have N2 : h2.next = h1.next + 1 := by rw [hh2]; simp
  have hk : vl 1 (s, true) < 256 := vl_lt 1 _
  obtain ⟨k, hk'⟩ : ∃ k, k = vl 1 (s, true) := ⟨_, rfl⟩
  have wk : IntKind.i64.wrap (k : Int) = (k : Nat) := wrap_i64_id (by omega) (by omega)
  have c2 : cellsAt h2.get h1.next 3 = some (tkr c d) := by rw [hh2]; simp [tlen]
  have tk3 : (tkr c d).take 3 = tkr c d := rfl
  simp [-List.all_eq_true, tone, tlen, H.push_set, e0, ← hh2, c2]
  refine numT_ct t2 1 rfl (by omega) ?_
  rw [← hk']
  have sn : (setT h2 i d (nx 1 (s, true))).next = h1.next + 1 := N2
  have hp : ∀ o o', ((setT h2 i d (nx 1 (s, true))).push o).set (h1.next + 1) o' = (setT h2 i d (nx 1 (s, true))).push o' := fun o o' => by rw [← sn]; exact H.push_set _ _ _
  obtain ⟨h3, hh3⟩ : ∃ h3, h3 = (setT h2 i d (nx 1 (s, true))).push (.row [.int .i64 (k : Nat), .str [], .int .i64 0, .int .i64 0, .int .u64 0, .str [], .int .i64 0]) := ⟨_, rfl⟩
  have ws : (setT h2 i d (nx 1 (s, true))).WF := setT_wf t2 w2
  have x3 : Dc h h3 c d i h.next h1.next (h1.next + 1) (nx 1 (s, true)) [.int .i64 (k : Nat), .str [], .int .i64 0, .int .i64 0, .int .u64 0, .str [], .int .i64 0] := by
    refine ⟨?_, ?_, ?_, ?_, ?_, ?_, ⟨by omega, by omega, by omega⟩, ⟨by omega, by omega, by omega⟩, ⟨by omega, by omega, by omega⟩, ⟨by omega, by omega, by omega⟩⟩
    · rw [hh3]; exact (t2.set _).push ws _
    · rw [hh3, H.get_push, if_neg (by omega), setT_get (by omega) (by omega), hh2, H.get_push, if_neg (by omega)]; exact z2
    · rw [hh3, H.get_push, if_neg (by omega), setT_get (by omega) (by omega), hh2, H.get_push, if_pos rfl]
    · rw [hh3, H.get_push, if_pos (by omega)]
    · have : Ge h h2 := by rw [hh2]; exact g1'.push _
      rw [hh3]
      exact ((this.set (by omega) _).set (by omega) _).push _
    · rw [hh3]; exact ws.push _
  obtain ⟨nm, hnm⟩ : ∃ nm, nm = xv (nx 1 (s, true)) := ⟨_, rfl⟩
  obtain ⟨f, hf⟩ : ∃ f, f = vl 1 (xn (nx 1 (s, true))) := ⟨_, rfl⟩
  have wf' : IntKind.i64.wrap (f : Int) = (f : Nat) := by have := vl_lt 1 (xn (nx 1 (s, true))); exact wrap_i64_id (by omega) (by omega)
  simp [wk, sn, hp, ← hh3, x3.c4, tlen, tk3]
  refine textT_ct x3.t ?_
  rw [← hnm]
  obtain ⟨h4, hh4⟩ : ∃ h4, h4 = (setT h3 i d (xn (nx 1 (s, true)))).set (h1.next + 1) (.row [.int .i64 (k : Nat), .str nm, .int .i64 0, .int .i64 0, .int .u64 0, .str [], .int .i64 0]) := ⟨_, rfl⟩
  have x4 : Dc h h4 c d i h.next h1.next (h1.next + 1) (xn (nx 1 (s, true))) [.int .i64 (k : Nat), .str nm, .int .i64 0, .int .i64 0, .int .u64 0, .str [], .int .i64 0] := by rw [hh4]; exact x3.set _ _
  simp [x3.c5, ← hh4, x4.c4, tlen, e0]
  refine numT_ct x4.t 1 rfl (by omega) ?_
  rw [← hf]
  obtain ⟨h5, hh5⟩ : ∃ h5, h5 = (setT h4 i d (rd3 s)).set (h1.next + 1) (.row [.int .i64 (k : Nat), .str nm, .int .i64 (f : Nat), .int .i64 0, .int .u64 0, .str [], .int .i64 0]) := ⟨_, rfl⟩
  have x5 : Dc h h5 c d i h.next h1.next (h1.next + 1) (rd3 s) [.int .i64 (k : Nat), .str nm, .int .i64 (f : Nat), .int .i64 0, .int .u64 0, .str [], .int .i64 0] := by rw [hh5]; exact x4.set _ _
  have er : nx 1 (xn (nx 1 (s, true))) = rd3 s := rfl
  rw [er]
  have k5 := x5.k5 rfl
  have ekk : rdK s = k := hk'.symm
  simp [wf', x4.c5, ← hh5, k5]
  by_cases h4 : k = 4
  · have b4 : ((k : Int) == 4) = true := beq_iff_eq.2 (by omega)
    simp [h4, x5.c4, tlen, tk3]
    refine prefixT_ct x5.t ?_
    obtain ⟨p, hp'⟩ : ∃ p, p = pv (rd3 s) := ⟨_, rfl⟩
    rw [← hp']
    have hE : rdE s = pn (rd3 s) := by unfold rdE; rw [if_pos (by omega)]
    have hR : rdQ s = ⟨(k : Nat), nm, (f : Nat), p⟩ := by unfold rdQ; rw [if_pos (by omega), ekk, ← hnm, ← hf, ← hp']
    obtain ⟨h6, hh6⟩ : ∃ h6, h6 = (setT h5 i d (pn (rd3 s))).set (h1.next + 1) (.row (rqC ⟨(k : Nat), nm, (f : Nat), p⟩)) := ⟨_, rfl⟩
    have x6 : Dc h h6 c d i h.next h1.next (h1.next + 1) (pn (rd3 s)) (rqC ⟨(k : Nat), nm, (f : Nat), p⟩) := by rw [hh6]; exact x5.set _ _
    simp only [rqC] at hh6
    simp [x5.c5, pfxC, ← hh6]
    simp [x6.c4, tlen, e2]
    refine doneT_ct x6.t _ ?_
    have k7 := x6.k5 rfl
    have r2 := x6.r2
    by_cases hb : (pn (rd3 s)).2 = true ∧ (pn (rd3 s)).1 = []
    · have b1 : ((pn (rd3 s)).2 && decide ((pn (rd3 s)).1 = [])) = true := by simp [hb.1, hb.2]
      have ck : ∀ g : H, Pure Tryd.prog 7 [.agg (rqC (⟨(k : Nat), nm, (f : Nat), p⟩ : Rq))] g (.int .i64 (if mayRq (⟨(k : Nat), nm, (f : Nat), p⟩ : Rq) = true then 0 else 2)) := fun g => rcheck_ct (by rw [hnm]; have := xv_len (nx 1 (s, true)); simp only; omega)
      simp only [rqC] at ck k7
      simp [b1, k7]
      refine ck _ _ ?_
      by_cases hm : mayRq (⟨(k : Nat), nm, (f : Nat), p⟩ : Rq) = true
      · have hO : decOf s = some (⟨(k : Nat), nm, (f : Nat), p⟩ : Rq) := by unfold decOf; rw [hE, hR, if_pos ⟨hb.1, hb.2, hm⟩]
        simp [hm, k7, r2, hO, decV, rqC]
        exact x6.ge2 (Nat.le_refl _) _
      · have hO : decOf s = none := by unfold decOf; rw [hE, hR, if_neg (fun e => hm e.2.2)]
        have hm' := hm
        try simp only [zeroP] at hm'
        simp [hm, r2, hO, decV, rqC, zeroR, zeroP]
        exact x6.ge2 (Nat.le_refl _) _
    · have b1 : ((pn (rd3 s)).2 && decide ((pn (rd3 s)).1 = [])) = false := by
        cases h9 : ((pn (rd3 s)).2 && decide ((pn (rd3 s)).1 = [])) with
        | false => rfl
        | true => simp at h9; exact absurd h9 hb
      have hO : decOf s = none := by unfold decOf; rw [hE, if_neg (fun e => hb ⟨e.1, e.2.1⟩)]
      simp [b1, r2, hO, decV, rqC, zeroR, zeroP]
      exact x6.ge2 (Nat.le_refl _) _
  · have b4 : ((k : Int) == 4) = false := beq_eq_false_iff_ne.2 (by omega)
    have hE : rdE s = rd3 s := by unfold rdE; rw [if_neg (by omega)]
    have hR : rdQ s = ⟨(k : Nat), nm, (f : Nat), zeroP⟩ := by unfold rdQ; rw [if_neg (by omega), ekk, ← hnm, ← hf]
    have x6 : Dc h h5 c d i h.next h1.next (h1.next + 1) (rd3 s) (rqC ⟨(k : Nat), nm, (f : Nat), zeroP⟩) := x5
    simp [b4]
    simp [x6.c4, tlen, e2]
    refine doneT_ct x6.t _ ?_
    have k7 := x6.k5 rfl
    have r2 := x6.r2
    by_cases hb : (rd3 s).2 = true ∧ (rd3 s).1 = []
    · have b1 : ((rd3 s).2 && decide ((rd3 s).1 = [])) = true := by simp [hb.1, hb.2]
      have ck : ∀ g : H, Pure Tryd.prog 7 [.agg (rqC (⟨(k : Nat), nm, (f : Nat), zeroP⟩ : Rq))] g (.int .i64 (if mayRq (⟨(k : Nat), nm, (f : Nat), zeroP⟩ : Rq) = true then 0 else 2)) := fun g => rcheck_ct (by rw [hnm]; have := xv_len (nx 1 (s, true)); simp only; omega)
      simp only [rqC] at ck k7
      simp [b1, k7]
      refine ck _ _ ?_
      by_cases hm : mayRq (⟨(k : Nat), nm, (f : Nat), zeroP⟩ : Rq) = true
      · have hO : decOf s = some (⟨(k : Nat), nm, (f : Nat), zeroP⟩ : Rq) := by unfold decOf; rw [hE, hR, if_pos ⟨hb.1, hb.2, hm⟩]
        simp [hm, k7, r2, hO, decV, rqC]
        exact x6.ge2 (Nat.le_refl _) _
      · have hO : decOf s = none := by unfold decOf; rw [hE, hR, if_neg (fun e => hm e.2.2)]
        have hm' := hm
        try simp only [zeroP] at hm'
        simp [hm', r2, hO, decV, rqC, zeroR, zeroP]
        exact x6.ge2 (Nat.le_refl _) _
    · have b1 : ((rd3 s).2 && decide ((rd3 s).1 = [])) = false := by
        cases h9 : ((rd3 s).2 && decide ((rd3 s).1 = [])) with
        | false => rfl
        | true => simp at h9; exact absurd h9 hb
      have hO : decOf s = none := by unfold decOf; rw [hE, if_neg (fun e => hb ⟨e.1, e.2.1⟩)]
      simp [b1, r2, hO, decV, rqC, zeroR, zeroP]
      exact x6.ge2 (Nat.le_refl _) _
end Go.Am

/-
  A prefix cut; a question made of small numbers.
-/
namespace Go.Am
open Go.Proofs

set_option maxRecDepth 100000
def cutP (p : Pfx) (n : Int) : Pfx := ⟨p.fam, p.rd, maskL p.addr n, n⟩
theorem pcut_ct {h : H} {p : Pfx} {n : Int} (hm : mayP p = true) (h0 : 0 ≤ n) (hn : n ≤ p.len) : Pure Tryd.prog 10 [.agg (pfxC p), .int .i64 n] h (.tup [.agg (pfxC (cutP p n)), .int .i64 0]) := by
  refine pure_to Tryd.func10 S.prim_Cut_code S.prim_Cut_enter rfl (Nat.le_of_ble_eq_true rfl) fun wf => ?_; simp only [S.prim_Cut]
  have ck : ∀ g : H, Pure Tryd.prog 19 [.agg (pfxC p)] g (.int .i64 (if mayP p = true then 0 else 2)) := fun g => pcheck_ct
  rw [hm] at ck
  have hs : p.addr.length ≤ 16 ∧ p.len ≤ 128 := by
    simp [mayP] at hm
    obtain ⟨⟨⟨⟨⟨h1, h2⟩, h3⟩, h4⟩, _⟩, _⟩ := hm
    have := size_le p.fam
    omega
  have mk : ∀ g : H, Pure Tryd.prog 21 [.str p.addr, .int .i64 n] g (.str (maskL p.addr n)) := fun g => masked_ct (by omega) ⟨by omega, by omega⟩
  have i1 : ¬ n < 0 := by omega
  have i2 : ¬ p.len < n := by omega
  simp only [pfxC] at ck
  simp [pfxC]
  refine ck _ _ ?_
  simp [i1, i2]
  refine mk _ _ ?_
  simp [cutP]
  exact ((((Ge.refl _).push _).push _).set (Nat.le_refl _) _).set (by simp) _
theorem maskL_full : ∀ (l : List UInt8) (n : Int), 8 * (l.length : Int) ≤ n → maskL l n = l := by
  intro l n h
  apply List.ext_getElem (maskL_len l n)
  intro i h1 h2
  rw [maskL_get l n i h2, maskN_big (by omega)]
  simp
/-- Small numbers that a question is made of. -/
structure Rw where
  kind : Nat
  fam : Nat
  name : Nat
  len : Nat
  rd : Nat
  addr : List UInt8
def rawC (x : Rw) : List V := [.int .u8 (x.kind : Nat), .int .u8 (x.fam : Nat), .int .u8 (x.name : Nat), .int .u8 (x.len : Nat), .int .u64 (x.rd : Nat)] ++ x.addr.map byteV
structure RwFit (x : Rw) : Prop where
  kind : x.kind < 256
  fam : x.fam < 256
  name : x.name < 256
  len : x.len < 256
  rd : x.rd < 18446744073709551616
  addr : x.addr.length = 16
def nmR (x : Rw) : List UInt8 := [110, UInt8.ofNat (97 + x.name % 26)]
def fmR (x : Rw) : Nat := 1 + x.fam % 5
def pfR (x : Rw) : Pfx := ⟨(fmR x : Nat), if 4 ≤ fmR x then x.rd else 0, x.addr.take (sizeN (fmR x : Nat)), ((8 * sizeN (fmR x : Nat) : Nat) : Int)⟩
def mR (x : Rw) : Nat := x.len % (8 * sizeN (fmR x : Nat) + 1)
/-- The question. -/
def askR (x : Rw) : Rq :=
  if x.kind % 7 = 1 ∨ x.kind % 7 = 6 then ⟨((1 + x.kind % 7 : Nat) : Int), nmR x, 0, zeroP⟩
  else if x.kind % 7 = 4 then ⟨5, nmR x, (fmR x : Nat), zeroP⟩
  else if x.kind % 7 = 2 then ⟨3, if x.name % 2 = 1 then nmR x else [], (fmR x : Nat), zeroP⟩
  else if x.kind % 7 = 3 then ⟨4, if x.name % 2 = 1 then nmR x else [], 0, cutP (pfR x) (mR x : Nat)⟩
  else ⟨((1 + x.kind % 7 : Nat) : Int), [], 0, zeroP⟩
theorem fmR_size (x : Rw) : sizeN (fmR x : Nat) = 4 ∨ sizeN (fmR x : Nat) = 16 := by
  have h : fmR x = 1 ∨ fmR x = 2 ∨ fmR x = 3 ∨ fmR x = 4 ∨ fmR x = 5 := by unfold fmR; omega
  rcases h with h | h | h | h | h <;> rw [h] <;> decide
theorem pfR_may {x : Rw} (f : RwFit x) : mayP (pfR x) = true := by
  have hs := fmR_size x
  have hl : (x.addr.take (sizeN (fmR x : Nat))).length = sizeN (fmR x : Nat) := by rw [List.length_take, f.addr]; omega
  have hm : maskL (x.addr.take (sizeN (fmR x : Nat))) ((8 * sizeN (fmR x : Nat) : Nat) : Int) = x.addr.take (sizeN (fmR x : Nat)) := maskL_full _ _ (by rw [hl]; omega)
  have ha : (if 4 ≤ fmR x then x.rd else 0) = 0 ∨ apartF (fmR x : Nat) = true := by
    have h : fmR x = 1 ∨ fmR x = 2 ∨ fmR x = 3 ∨ fmR x = 4 ∨ fmR x = 5 := by unfold fmR; omega
    rcases h with h | h | h | h | h <;> rw [h] <;> first | exact .inl rfl | exact .inr (by decide)
  unfold mayP pfR
  simp only [hl, hm, decide_true, Bool.and_true]
  have h0 : sizeN (fmR x : Nat) ≠ 0 := by omega
  simp only [Bool.and_eq_true, Bool.or_eq_true, decide_eq_true_eq]
  exact ⟨⟨⟨h0, by omega⟩, by omega⟩, ha⟩
theorem mR_le (x : Rw) : mR x ≤ 8 * sizeN (fmR x : Nat) := by
  have : mR x < 8 * sizeN (fmR x : Nat) + 1 := Nat.mod_lt _ (by omega)
  omega
theorem cut_may {p : Pfx} {n : Int} (hm : mayP p = true) (h0 : 0 ≤ n) (hn : n ≤ p.len) : mayP (cutP p n) = true := by
  simp [mayP] at hm
  obtain ⟨⟨⟨⟨⟨h1, h2⟩, h3⟩, h4⟩, h5⟩, _⟩ := hm
  have h6 : n ≤ 8 * (sizeN p.fam : Int) := by omega
  simp [mayP, cutP, maskL_len, maskL_idem, h1, h2, h0, h6]
  rcases h5 with h | h <;> simp [h]
theorem nmR_name (x : Rw) : nameB (nmR x) = true := by
  have h := (csN_ok (97 + x.name % 26) (by omega)).2 (.inl (by omega))
  have h2 := (csN_ok 110 (by omega)).2 (.inl (by omega))
  obtain ⟨c, hc⟩ : ∃ c, c = UInt8.ofNat (97 + x.name % 26) := ⟨_, rfl⟩
  rw [← hc] at h
  unfold nmR nameB
  have e : UInt8.ofNat 110 = 110 := rfl
  rw [e] at h2
  rw [← hc]
  simp [h, h2]
theorem ask_may {x : Rw} (f : RwFit x) : mayRq (askR x) = true := by
  have hn := nmR_name x
  have he : emptyB (nmR x) = true := by unfold emptyB; rw [hn]; simp
  have he0 : emptyB [] = true := rfl
  have hs := fmR_size x
  have hs0 : 0 < sizeN (fmR x : Nat) := by omega
  have hp := pfR_may f
  have hc : mayP (cutP (pfR x) (mR x : Nat)) = true := cut_may hp (by omega) (by have := mR_le x; unfold pfR; simp only; omega)
  have hk : x.kind % 7 = 0 ∨ x.kind % 7 = 1 ∨ x.kind % 7 = 2 ∨ x.kind % 7 = 3 ∨ x.kind % 7 = 4 ∨ x.kind % 7 = 5 ∨ x.kind % 7 = 6 := by omega
  unfold askR
  rcases hk with h | h | h | h | h | h | h <;> simp only [h] <;> (try split) <;> (try simp [mayRq, hn, he, hs0, hc]) <;> (repeat' (first | omega | split)) <;> simp_all []
  done
theorem ask_rd {x : Rw} (f : RwFit x) : (askR x).p.rd < 18446744073709551616 := by
  have := f.rd
  unfold askR
  (repeat' split) <;> first
    | exact (show (0 : Nat) < 18446744073709551616 by decide)
    | (show (if 4 ≤ fmR x then x.rd else 0) < 18446744073709551616
       split <;> omega)
end Go.Am

/-
  A question made of small numbers, walked.
-/
namespace Go.Am
open Go.Proofs

set_option maxRecDepth 100000
theorem rem8u (n k r : Nat) (hk : 0 < k) (h : n % k = r) : intV .rem .u8 (n : Int) (k : Int) = some (.int .u8 (r : Int)) := by
  show (if (k : Int) = 0 then none else some (V.int .u8 ((n : Int).tmod k))) = _
  rw [if_neg (by omega), Int.tmod_eq_emod_of_nonneg (by omega), ← Int.natCast_emod, h]
theorem rem64i (n k r : Nat) (hk : 0 < k) (h : n % k = r) : intV .rem .i64 (n : Int) (k : Int) = some (.int .i64 (r : Int)) := by
  show (if (k : Int) = 0 then none else some (V.int .i64 ((n : Int).tmod k))) = _
  rw [if_neg (by omega), Int.tmod_eq_emod_of_nonneg (by omega), ← Int.natCast_emod, h]
theorem ask_ct {h : H} {x : Rw} (f : RwFit x) : Pure Tryd.prog 4 [.agg (rawC x)] h (.agg (rqC (askR x))) := by
  refine pure_to Tryd.func4 S.Hlaw33_ask_code S.Hlaw33_ask_enter rfl (Nat.le_of_ble_eq_true rfl) fun wf => ?_; simp only [S.Hlaw33_ask]
  obtain ⟨C, hC⟩ : ∃ C, C = rawC x := ⟨_, rfl⟩
  rw [← hC]
  have cl : C.length = 21 := by rw [hC]; simp [rawC, f.addr]
  have c1 : C.all V.one = true := by rw [hC]; simp [rawC, byteV]
  have bx : ∀ n, boxV n (.agg C) = some (.ptr n 21 0, .push (.row C)) := fun n => by rw [boxV_agg, if_pos c1, cl]
  have g0 : C[0]? = some (.int .u8 (x.kind : Nat)) := by rw [hC]; rfl
  have g1 : C[1]? = some (.int .u8 (x.fam : Nat)) := by rw [hC]; rfl
  have g2 : C[2]? = some (.int .u8 (x.name : Nat)) := by rw [hC]; rfl
  have g3 : C[3]? = some (.int .u8 (x.len : Nat)) := by rw [hC]; rfl
  have g4 : C[4]? = some (.int .u64 (x.rd : Nat)) := by rw [hC]; rfl
  have gg : ∀ (i : Nat) (v : V), C[i]? = some v → ∀ hh, C[i]'hh = v := fun i v e hh => by rw [List.getElem?_eq_getElem hh] at e; exact Option.some.inj e
  have e0 := gg 0 _ g0
  have e1 := gg 1 _ g1
  have e2 := gg 2 _ g2
  have e3 := gg 3 _ g3
  have e4 := gg 4 _ g4
  have kk := f.kind
  have kf := f.fam
  have kn := f.name
  obtain ⟨k, hk⟩ : ∃ k, k = x.kind % 7 := ⟨_, rfl⟩
  obtain ⟨fm, hfm⟩ : ∃ fm, fm = x.fam % 5 := ⟨_, rfl⟩
  obtain ⟨nm, hnm⟩ : ∃ nm, nm = x.name % 26 := ⟨_, rfl⟩
  obtain ⟨n2, hn2⟩ : ∃ n2, n2 = x.name % 2 := ⟨_, rfl⟩
  have r1 : intV .rem .u8 (x.kind : Int) 7 = some (.int .u8 (k : Int)) := rem8u x.kind 7 k (by omega) hk.symm
  have r2 : intV .rem .u8 (x.fam : Int) 5 = some (.int .u8 (fm : Int)) := rem8u x.fam 5 fm (by omega) hfm.symm
  have r3 : intV .rem .u8 (x.name : Int) 26 = some (.int .u8 (nm : Int)) := rem8u x.name 26 nm (by omega) hnm.symm
  have r4 : intV .rem .u8 (x.name : Int) 2 = some (.int .u8 (n2 : Int)) := rem8u x.name 2 n2 (by omega) hn2.symm
  have w1 : IntKind.i64.wrap (k : Int) = (k : Int) := wrap_i64_id (by omega) (by omega)
  have w2 : IntKind.i64.wrap (fm : Int) = (fm : Int) := wrap_i64_id (by omega) (by omega)
  have w3 : IntKind.i64.wrap (1 + (k : Int)) = ((1 + k : Nat) : Int) := by rw [wrap_i64_id (by omega) (by omega)]; omega
  have w4 : IntKind.i64.wrap (1 + (fm : Int)) = ((1 + fm : Nat) : Int) := by rw [wrap_i64_id (by omega) (by omega)]; omega
  obtain ⟨b, hb⟩ : ∃ b, b = UInt8.ofNat (97 + nm) := ⟨_, rfl⟩
  have w5 : IntKind.u8.wrap (97 + (nm : Int)) = (b.toNat : Int) := by rw [hb]; simp [IntKind.wrap, IntKind.bits, IntKind.signed]
  have ub : u8Of (.int .u8 (b.toNat : Int)) = some b := by simp [u8Of]
  have en : nmR x = [110, b] := by unfold nmR; rw [hb, hnm]
  obtain ⟨F, hF⟩ : ∃ F, F = 1 + fm := ⟨_, rfl⟩
  obtain ⟨K, hK⟩ : ∃ K, K = 1 + k := ⟨_, rfl⟩
  have eF : fmR x = F := by unfold fmR; omega
  rw [← hF] at w4
  rw [← hK] at w3
  have hkk : k = 0 ∨ k = 1 ∨ k = 2 ∨ k = 3 ∨ k = 4 ∨ k = 5 ∨ k = 6 := by omega
  have q1 : (h.next = h.next + 1 + 1) = False := eq_false (by omega)
  have q2 : (h.next = h.next + 1 + 1 + 1) = False := eq_false (by omega)
  have q3 : (h.next = h.next + 1 + 1 + 1 + 1) = False := eq_false (by omega)
  have q4 : (h.next + 1 = h.next + 1 + 1 + 1) = False := eq_false (by omega)
  have q5 : (h.next + 1 + 1 = h.next + 1) = False := by simp
  have G0 : ∀ o1 o2 o3 o4 o5, Ge h (((((h.push o1).push o2).push o3).set (h.next + 1 + 1) o4).push o5) := fun _ _ _ _ _ => ((((Ge.refl _).push _).push _).push _ |>.set (by omega) _).push _
  have G1 : ∀ o1 o2 o3 o4 o5 o6, Ge h ((((((h.push o1).push o2).push o3).set (h.next + 1 + 1) o4).push o5).set (h.next + 1) o6) := fun a b c d e _ => (G0 a b c d e).set (by omega) _
  have G2 : ∀ o1 o2 o3 o4 o5 o6 o7, Ge h (((((((h.push o1).push o2).push o3).set (h.next + 1 + 1) o4).push o5).set (h.next + 1 + 1) o6).set (h.next + 1) o7) := fun a b c d e _ _ => ((G0 a b c d e).set (by omega) _).set (by omega) _
  simp [q1, q2, bx, cl, e0, e1, e2, r1, r2, r3, w1, w2, w3, w4, w5, elemsV_sl, ub]
  rcases hkk with hk0 | hk0 | hk0 | hk0 | hk0 | hk0 | hk0
  · have k1 : K = 1 := by omega
    have ea : askR x = ⟨1, [], 0, zeroP⟩ := by unfold askR; simp [← hk, hk0]
    rw [ea]
    simp [k1, rqC, zeroP, G1]
  · have k1 : K = 2 := by omega
    have ea : askR x = ⟨2, [110, b], 0, zeroP⟩ := by unfold askR; simp [← hk, hk0, en]
    rw [ea]
    simp [k1, rqC, zeroP, G2]
  · have k1 : K = 3 := by omega
    by_cases hz : n2 = 1
    · have ea : askR x = ⟨3, [110, b], (F : Nat), zeroP⟩ := by unfold askR; simp [← hk, hk0, ← hn2, hz, en, eF]
      have bz : ((n2 : Int) == 1) = true := beq_iff_eq.2 (by omega)
      rw [ea]
      simp [k1, rqC, zeroP, hz, q1, q2, cl, e2, r4, G2]
      done
    · have ea : askR x = ⟨3, [], (F : Nat), zeroP⟩ := by unfold askR; simp [← hk, hk0, ← hn2, hz, eF]
      have bz : ((n2 : Int) == 1) = false := beq_eq_false_iff_ne.2 (by omega)
      rw [ea]
      simp [k1, rqC, zeroP, bz, q1, q2, cl, e2, r4, G2]
      done
  · have k1 : K = 4 := by omega
    have hs := fmR_size x
    rw [eF] at hs
    have hmay := pfR_may f
    have q6 : (h.next + 1 + 1 = h.next + 1 + 1 + 1 + 1) = False := eq_false (by omega)
    have q7 : (h.next + 1 = h.next + 1 + 1 + 1 + 1) = False := eq_false (by omega)
    have q8 : (h.next + 1 + 1 + 1 + 1 = h.next + 1 + 1) = False := eq_false (by omega)
    rcases hs with hs | hs
    · have sl : sliceArrV 16 1 none (some (.int .i64 4)) none (.ptr h.next 21 5) = some (.sl h.next 21 5 4 (some 16)) := rfl
      have h5 : List.take 4 (List.drop 5 C) = (x.addr.take 4).map byteV := by rw [hC, List.map_take]; rfl
      have mm : List.mapM u8Of (List.take 4 (List.map byteV x.addr)) = some (x.addr.take 4) := by rw [← List.map_take]; exact mapM_u8 _
      have w8 : IntKind.i64.wrap (x.len : Int) = (x.len : Int) := by have := f.len; exact wrap_i64_id (by omega) (by omega)
      obtain ⟨m, hm⟩ : ∃ m, m = x.len % 33 := ⟨_, rfl⟩
      have r5 : intV .rem .i64 (x.len : Int) 33 = some (.int .i64 (m : Int)) := rem64i x.len 33 m (by omega) hm.symm
      have w9 : IntKind.i64.wrap 32 = 32 := by decide
      have w10 : IntKind.i64.wrap 33 = 33 := by decide
      simp [k1]
      refine psize_ct _ ?_
      rw [hs]
      have em : mR x = m := by unfold mR; rw [eF, hs, hm]
      simp [q1, q2, cl, elemsV_sl, sl, h5, mm, w9]
      by_cases h4 : 4 ≤ F
      · have i4 : (4 : Int) ≤ (F : Int) := by omega
        have ep : pfR x = ⟨(F : Nat), x.rd, x.addr.take 4, 32⟩ := by unfold pfR; rw [eF, hs]; simp [h4]
        have cp := fun g : H => pcut_ct (h := g) (p := pfR x) (n := (m : Nat)) hmay (by omega) (by rw [ep]; simp only; omega)
        rw [ep] at cp
        simp only [pfxC, cutP] at cp
        simp [i4, q1, q2, q3, cl, e4]
        refine dreg_of ?_
        simp [q1, q2, q3, cl, e3, r5, w8, w9, w10]
        refine scall_of (fun Q q => cp _ _ q) ?_
        simp [q1, q2, q3, cl, e2, r4]
        by_cases hz : n2 = 1
        · have bz : ((n2 : Int) == 1) = true := beq_iff_eq.2 (by omega)
          have ea : askR x = ⟨4, [110, b], 0, ⟨(F : Nat), x.rd, maskL (x.addr.take 4) (m : Nat), (m : Nat)⟩⟩ := by
            unfold askR
            simp only [← hk, hk0, ← hn2, hz, ep, em, en, cutP]
            simp
          rw [ea]
          simp [hz, rqC]
          exact ((((G0 _ _ _ _ _).push _).set (by omega) _).set (by omega) _).set (by omega) _
        · have bz : ((n2 : Int) == 1) = false := beq_eq_false_iff_ne.2 (by omega)
          have ea : askR x = ⟨4, [], 0, ⟨(F : Nat), x.rd, maskL (x.addr.take 4) (m : Nat), (m : Nat)⟩⟩ := by
            unfold askR
            simp only [← hk, hk0, ← hn2, hz, ep, em, en, cutP]
            simp
          rw [ea]
          simp [bz, rqC]
          exact ((((G0 _ _ _ _ _).push _).set (by omega) _).set (by omega) _).set (by omega) _
      · have i4 : ¬ (4 : Int) ≤ (F : Int) := by omega
        have ep : pfR x = ⟨(F : Nat), 0, x.addr.take 4, 32⟩ := by unfold pfR; rw [eF, hs]; simp [h4]
        have cp := fun g : H => pcut_ct (h := g) (p := pfR x) (n := (m : Nat)) hmay (by omega) (by rw [ep]; simp only; omega)
        rw [ep] at cp
        simp only [pfxC, cutP, Int.natCast_zero] at cp
        simp [i4]
        refine dreg_of ?_
        simp [q1, q2, q3, cl, e3, r5, w8, w9, w10]
        refine scall_of (fun Q q => cp _ _ q) ?_
        simp [q1, q2, q3, cl, e2, r4]
        by_cases hz : n2 = 1
        · have bz : ((n2 : Int) == 1) = true := beq_iff_eq.2 (by omega)
          have ea : askR x = ⟨4, [110, b], 0, ⟨(F : Nat), 0, maskL (x.addr.take 4) (m : Nat), (m : Nat)⟩⟩ := by
            unfold askR
            simp only [← hk, hk0, ← hn2, hz, ep, em, en, cutP]
            simp
          rw [ea]
          simp [hz, rqC]
          exact ((((G0 _ _ _ _ _).push _).set (by omega) _).set (by omega) _).set (by omega) _
        · have bz : ((n2 : Int) == 1) = false := beq_eq_false_iff_ne.2 (by omega)
          have ea : askR x = ⟨4, [], 0, ⟨(F : Nat), 0, maskL (x.addr.take 4) (m : Nat), (m : Nat)⟩⟩ := by
            unfold askR
            simp only [← hk, hk0, ← hn2, hz, ep, em, en, cutP]
            simp
          rw [ea]
          simp [bz, rqC]
          exact ((((G0 _ _ _ _ _).push _).set (by omega) _).set (by omega) _).set (by omega) _
    · have sl : sliceArrV 16 1 none (some (.int .i64 16)) none (.ptr h.next 21 5) = some (.sl h.next 21 5 16 (some 16)) := rfl
      have h5 : List.take 16 (List.drop 5 C) = (x.addr.take 16).map byteV := by rw [hC, List.map_take]; rfl
      have mm : List.mapM u8Of (List.take 16 (List.map byteV x.addr)) = some (x.addr.take 16) := by rw [← List.map_take]; exact mapM_u8 _
      have w8 : IntKind.i64.wrap (x.len : Int) = (x.len : Int) := by have := f.len; exact wrap_i64_id (by omega) (by omega)
      obtain ⟨m, hm⟩ : ∃ m, m = x.len % 129 := ⟨_, rfl⟩
      have r5 : intV .rem .i64 (x.len : Int) 129 = some (.int .i64 (m : Int)) := rem64i x.len 129 m (by omega) hm.symm
      have w9 : IntKind.i64.wrap 128 = 128 := by decide
      have w10 : IntKind.i64.wrap 129 = 129 := by decide
      simp [k1]
      refine psize_ct _ ?_
      rw [hs]
      have em : mR x = m := by unfold mR; rw [eF, hs, hm]
      simp [q1, q2, cl, elemsV_sl, sl, h5, mm, w9]
      by_cases h4 : 4 ≤ F
      · have i4 : (4 : Int) ≤ (F : Int) := by omega
        have ep : pfR x = ⟨(F : Nat), x.rd, x.addr.take 16, 128⟩ := by unfold pfR; rw [eF, hs]; simp [h4]
        have cp := fun g : H => pcut_ct (h := g) (p := pfR x) (n := (m : Nat)) hmay (by omega) (by rw [ep]; simp only; omega)
        rw [ep] at cp
        simp only [pfxC, cutP] at cp
        simp [i4, q1, q2, q3, cl, e4]
        refine dreg_of ?_
        simp [q1, q2, q3, cl, e3, r5, w8, w9, w10]
        refine scall_of (fun Q q => cp _ _ q) ?_
        simp [q1, q2, q3, cl, e2, r4]
        by_cases hz : n2 = 1
        · have bz : ((n2 : Int) == 1) = true := beq_iff_eq.2 (by omega)
          have ea : askR x = ⟨4, [110, b], 0, ⟨(F : Nat), x.rd, maskL (x.addr.take 16) (m : Nat), (m : Nat)⟩⟩ := by
            unfold askR
            simp only [← hk, hk0, ← hn2, hz, ep, em, en, cutP]
            simp
          rw [ea]
          simp [hz, rqC]
          exact ((((G0 _ _ _ _ _).push _).set (by omega) _).set (by omega) _).set (by omega) _
        · have bz : ((n2 : Int) == 1) = false := beq_eq_false_iff_ne.2 (by omega)
          have ea : askR x = ⟨4, [], 0, ⟨(F : Nat), x.rd, maskL (x.addr.take 16) (m : Nat), (m : Nat)⟩⟩ := by
            unfold askR
            simp only [← hk, hk0, ← hn2, hz, ep, em, en, cutP]
            simp
          rw [ea]
          simp [bz, rqC]
          exact ((((G0 _ _ _ _ _).push _).set (by omega) _).set (by omega) _).set (by omega) _
      · have i4 : ¬ (4 : Int) ≤ (F : Int) := by omega
        have ep : pfR x = ⟨(F : Nat), 0, x.addr.take 16, 128⟩ := by unfold pfR; rw [eF, hs]; simp [h4]
        have cp := fun g : H => pcut_ct (h := g) (p := pfR x) (n := (m : Nat)) hmay (by omega) (by rw [ep]; simp only; omega)
        rw [ep] at cp
        simp only [pfxC, cutP, Int.natCast_zero] at cp
        simp [i4]
        refine dreg_of ?_
        simp [q1, q2, q3, cl, e3, r5, w8, w9, w10]
        refine scall_of (fun Q q => cp _ _ q) ?_
        simp [q1, q2, q3, cl, e2, r4]
        by_cases hz : n2 = 1
        · have bz : ((n2 : Int) == 1) = true := beq_iff_eq.2 (by omega)
          have ea : askR x = ⟨4, [110, b], 0, ⟨(F : Nat), 0, maskL (x.addr.take 16) (m : Nat), (m : Nat)⟩⟩ := by
            unfold askR
            simp only [← hk, hk0, ← hn2, hz, ep, em, en, cutP]
            simp
          rw [ea]
          simp [hz, rqC]
          exact ((((G0 _ _ _ _ _).push _).set (by omega) _).set (by omega) _).set (by omega) _
        · have bz : ((n2 : Int) == 1) = false := beq_eq_false_iff_ne.2 (by omega)
          have ea : askR x = ⟨4, [], 0, ⟨(F : Nat), 0, maskL (x.addr.take 16) (m : Nat), (m : Nat)⟩⟩ := by
            unfold askR
            simp only [← hk, hk0, ← hn2, hz, ep, em, en, cutP]
            simp
          rw [ea]
          simp [bz, rqC]
          exact ((((G0 _ _ _ _ _).push _).set (by omega) _).set (by omega) _).set (by omega) _
  · have k1 : K = 5 := by omega
    have ea : askR x = ⟨5, [110, b], (F : Nat), zeroP⟩ := by unfold askR; simp [← hk, hk0, en, eF]
    rw [ea]
    simp [k1, rqC, zeroP, G2]
  · have k1 : K = 6 := by omega
    have ea : askR x = ⟨6, [], 0, zeroP⟩ := by unfold askR; simp [← hk, hk0]
    rw [ea]
    simp [k1, rqC, zeroP, G1]
  · have k1 : K = 7 := by omega
    have ea : askR x = ⟨7, [110, b], 0, zeroP⟩ := by unfold askR; simp [← hk, hk0, en]
    rw [ea]
    simp [k1, rqC, zeroP, G2]
end Go.Am
