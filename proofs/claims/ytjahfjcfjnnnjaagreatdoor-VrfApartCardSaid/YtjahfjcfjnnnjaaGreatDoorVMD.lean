/-
  VA1, VA2, VA3, VCX, VA4, VA5, VA6, VA7, VA8, VW, VL, VD, VL2, in one text.
-/
import Derived.Test.YtjahfjcfjnnnjaaGreatDoorVMA
import Derived.Test.YtjahfjcfjnnnjaaGreatDoorVMB
import Derived.Test.YtjahfjcfjnnnjaaGreatDoorVAm40
import Derived.Test.YtjahfjcfjnnnjaaGreatDoorVMC
import Derived.Test.YtjahfjcfjnnnjaaGreatDoorVAm21
import Derived.Test.YtjahfjcfjnnnjaaGreatDoorVAm36
import Derived.Test.YtjahfjcfjnnnjaaGreatDoorVQwTab
import Derived.KernelRfl
import Derived.Test.YtjahfjcfjnnnjaaGreatDoorVAm45
import Derived.Test.YtjahfjcfjnnnjaaGreatDoorVAm30
namespace Go.Am
open Go.Proofs

structure Src where
  kind : Int
  peer : List UInt8
  asn : Nat
  sid : Nat
  addr : List UInt8
  vrf : List UInt8
  deriving DecidableEq
structure Pth where
  n : Nl
  att : Att
  src : Src
  stale : Bool
  deriving DecidableEq
def pathC (p : Pth) (vp vc vx vl vk : V) : List V := [.int .i64 p.n.p.fam, .int .u64 (p.n.p.rd : Nat), .str p.n.p.addr, .int .i64 p.n.p.len, .int .u32 (p.n.id : Nat), .int .u32 (p.n.label : Nat),
  .int .i64 p.att.origin, vp, .str p.att.next, .bool p.att.hasMed, .int .u32 (p.att.med : Nat), .bool p.att.hasPref, .int .u32 (p.att.pref : Nat), .bool p.att.atomic, .int .u32 (p.att.aggAS : Nat), .int .u32 (p.att.aggId : Nat), vc, vx, vl, .bool p.att.hasOrig, .int .u32 (p.att.orig : Nat), vk,
  .int .i64 p.src.kind, .str p.src.peer, .int .u32 (p.src.asn : Nat), .int .u32 (p.src.sid : Nat), .str p.src.addr, .str p.src.vrf, .bool p.stale]
def pmayB (p : Pth) : Bool := mayN p.n && attB p.att && (if p.src.kind = 1 then decide (p.src.peer = []) else decide (2 ≤ p.src.kind) && decide (p.src.kind ≤ 5) && nameB p.src.peer)

set_option maxRecDepth 100000
theorem lnamed_ct {h : H} {s : List UInt8} (hl : s.length ≤ 9223372036854775807) : Pure Tryz.prog 115 [.str s] h (.bool (nameB s)) := by
  refine pure_to Tryz.func115 S.loc_named_code S.loc_named_enter rfl (Nat.le_of_ble_eq_true rfl) fun wf => ?_; simp only [S.loc_named]
  simp
  refine trim_ct (cs := csN) (by decide) (by decide) hl _ ?_
  cases s with
  | nil => simp [nameB]
  | cons c r =>
    have e1 : ((c :: r) == []) = false := rfl
    by_cases h1 : r.length ≤ 15
    · have i1 : (r.length : Int) + 1 ≤ 16 := by omega
      have hd : ((c :: r).dropWhile fun c => decide (c ∈ csN)).isEmpty = (c :: r).all fun c => decide (c ∈ csN) := by
        rw [Bool.eq_iff_iff, List.isEmpty_iff, dropW_nil]
      obtain ⟨w, hw⟩ : ∃ w, w = (c :: r).dropWhile fun c => decide (c ∈ csN) := ⟨_, rfl⟩
      rw [← hw] at hd ⊢
      obtain ⟨q, hq⟩ : ∃ q, q = (c :: r).all fun c => decide (c ∈ csN) := ⟨_, rfl⟩
      have hn : nameB (c :: r) = (decide (97 ≤ c.toNat) && q) := by simp only [nameB, ← hq]; simp [h1]
      rw [← hq] at hd
      rw [hn]
      have hwe : (w == []) = q := by rw [← hd]; cases w <;> rfl
      cases q with
      | false => simp [e1, i1, hwe]
      | true =>
        by_cases h2 : 97 ≤ c.toNat
        · have i2 : (97 : Int) ≤ (c.toNat : Int) := by omega
          simp [e1, i1, h2, i2, hwe]
        · have i2 : ¬ (97 : Int) ≤ (c.toNat : Int) := by omega
          simp [e1, i1, h2, i2, hwe]
    · have i1 : ¬ (r.length : Int) + 1 ≤ 16 := by omega
      simp [e1, i1, h1, nameB]
theorem lmay_ct {h : H} {p : Pth} {vp vc vx vl vk : V} (A : AttAt h.get p.att vp vc vx vl vk) (hn : p.src.peer.length ≤ 9223372036854775807) : Pure Tryz.prog 77 [.agg (pathC p vp vc vx vl vk)] h (.bool (pmayB p)) := by
  refine pure_to Tryz.func77 S.loc_may_code S.loc_may_enter rfl (Nat.le_of_ble_eq_true rfl) fun wf => ?_; simp only [S.loc_may]
  obtain ⟨es, P⟩ := A.path
  have o1 := P.sls.one
  have o2 := A.comms.one
  have o3 := A.exts.one
  have o4 := A.larges.one
  have o5 := A.clus.one
  obtain ⟨h2, hh2⟩ : ∃ h2, h2 = h.push (.row (pathC p vp vc vx vl vk)) := ⟨_, rfl⟩
  have g2 : Ge h h2 := by rw [hh2]; exact (Ge.refl _).push _
  have c1 : cellsAt h2.get h.next 29 = some (pathC p vp vc vx vl vk) := by rw [hh2]; simp [pathC]
  have A2 := A.ge wf g2
  have nc : ∀ g : H, Pure Tryz.prog 113 [.agg (nlC p.n)] g (.int .i64 (if mayN p.n = true then 0 else 2)) := fun g => ncheck_ct
  have ac : Pure Tryz.prog 114 [.agg (attC p.att vp vc vx vl vk)] h2 (.int .i64 (if attB p.att = true then 0 else 2)) := acheck_ct A2
  simp only [pathC] at hh2 c1
  simp only [nlC] at nc
  simp only [attC] at ac
  simp [pathC, o1, o2, o3, o4, o5]
  rw [← hh2]
  refine nc h2 _ ?_
  cases k1 : mayN p.n with
  | false => simp [pmayB, k1, g2]
  | true =>
    simp [c1]
    refine ac _ ?_
    cases k2 : attB p.att with
    | false => simp [pmayB, k1, k2, g2]
    | true =>
      simp [c1]
      by_cases k3 : p.src.kind = 1
      · have hp : pmayB p = decide (p.src.peer = []) := by simp [pmayB, k1, k2, k3]
        rw [hp]
        simp [k3, c1, g2]
        cases p.src.peer <;> simp
      · have hp : pmayB p = (decide (2 ≤ p.src.kind) && decide (p.src.kind ≤ 5) && nameB p.src.peer) := by simp [pmayB, k1, k2, k3]
        rw [hp]
        by_cases k5 : 2 ≤ p.src.kind ∧ p.src.kind ≤ 5
        · rw [decide_eq_true k5.1, decide_eq_true k5.2]
          have nm := lnamed_ct (h := h2) hn
          rcases (by omega : p.src.kind = 2 ∨ p.src.kind = 3 ∨ p.src.kind = 4 ∨ p.src.kind = 5) with e | e | e | e
          all_goals
            simp [e, c1]
            refine nm _ ?_
            simp [g2]
        · have hf : (decide (2 ≤ p.src.kind) && decide (p.src.kind ≤ 5)) = false := by
            by_cases e : 2 ≤ p.src.kind
            · have e2 : ¬ p.src.kind ≤ 5 := by omega
              simp [e, e2]
            · simp [e]
          rw [hf]
          have q2 : (p.src.kind == 2) = false := by rw [eqI]; simp; omega
          have q3 : (p.src.kind == 3) = false := by rw [eqI]; simp; omega
          have q4 : (p.src.kind == 4) = false := by rw [eqI]; simp; omega
          have q5 : (p.src.kind == 5) = false := by rw [eqI]; simp; omega
          have q1 : (p.src.kind == 1) = false := by rw [eqI]; simp; omega
          simp [q1, q2, q3, q4, q5, g2]
end Go.Am

namespace Go.Am
open Go.Proofs

set_option maxRecDepth 100000
theorem solid_pt (i n o : Nat) : (V.ptr i n o).solid = true := rfl
theorem cells_pt (i n o : Nat) : (V.ptr i n o).cells = [.ptr i n o] := rfl
theorem solid_slv (i n o l : Nat) (c : Option Nat) : (V.sl i n o l c).solid = true := rfl
theorem lnew_ct {h : H} {Q : V → H → Prop} (q : Q (.ptr (h.next + 1) 2 0) ((h.push (.row [.bool true, .nilsl, .int .i64 0])).push (.row [.ptr h.next 3 0, .int .i64 0]))) : Acalls Tryz.prog 49 [] h Q := by
  refine acalls_to Tryz.func49 S.loc_New_code S.loc_New_enter (Nat.le_of_ble_eq_true rfl) fun wf => ?_; simp only [S.loc_New]
  simp
  refine (show Acalls Tryz.prog 75 [] h _ from ?_)
  clear wf
  refine acalls_to Tryz.func75 S.trie_New_api_Path_code S.trie_New_api_Path_enter (Nat.le_of_ble_eq_true rfl) fun wf => ?_; simp only [S.trie_New_api_Path]
  simp [solid_pt, cells_pt]
  exact q
structure Tb0 (h : H) (tb tr : Nat) : Prop where
  tb : h.get tb = some (.row [.ptr tr 3 0, .int .i64 0])
  tr : h.get tr = some (.row [.bool true, .nilsl, .int .i64 0])
theorem tnone_ct {h : H} {tb tr : Nat} (T : Tb0 h tb tr) : Pure Tryz.prog 76 [.ptr tb 2 0] h (.bool false) := by
  refine pure_to Tryz.func76 S.loc_Table_none_code S.loc_Table_none_enter rfl (Nat.le_of_ble_eq_true rfl) fun wf => ?_; simp only [S.loc_Table_none]
  have c1 : cellsAt h.get tb 2 = some [.ptr tr 3 0, .int .i64 0] := (cellsAt_of (n := 2) T.tb rfl).trans rfl
  simp [c1, eqV]
theorem xnone_ct {h : H} {tr : Nat} {a b : V} (T : h.get tr = some (.row [.bool true, a, b])) : Pure Tryz.prog 123 [.ptr tr 3 0] h (.bool false) := by
  refine pure_to Tryz.func123 S.trie_Trie_api_Path_none_code S.trie_Trie_api_Path_none_enter rfl (Nat.le_of_ble_eq_true rfl) fun wf => ?_; simp only [S.trie_Trie_api_Path_none]
  have c1 : cellsAt h.get tr 3 = some [.bool true, a, b] := (cellsAt_of (n := 3) T rfl).trans rfl
  simp [c1, eqV]
theorem xroot0_ct {h : H} {tr : Nat} {p : Pfx} {b : V} (T : h.get tr = some (.row [.bool true, .nilsl, b])) : Pure Tryz.prog 124 [.ptr tr 3 0, .agg (pfxC p)] h (.tup [.int .i64 0, .bool false]) := by
  refine pure_to Tryz.func124 S.trie_Trie_api_Path_root_code S.trie_Trie_api_Path_root_enter rfl (Nat.le_of_ble_eq_true rfl) fun wf => ?_; simp only [S.trie_Trie_api_Path_root]
  have hlt := wf.lt T
  have ne : ¬ tr = h.next := by omega
  have c1 : cellsAt h.get tr 3 = some [.bool true, .nilsl, b] := (cellsAt_of (n := 3) T rfl).trans rfl
  simp [pfxC, ne, c1]
  refine loop_up (fun i t h' => (t 0 = .ptr tr 3 0 ∧ t 12 = .int .i64 0 ∧ t 13 = .int .i64 0) ∧ h' = h.push (.row (pfxC p))) 0 ⟨by simp, rfl⟩ ?_
  rintro i t h' hi ⟨⟨t0, t12, t13⟩, rfl⟩ K hK
  simp [t0, t12, t13, ne, c1]
theorem xway0_ct {h : H} {tr : Nat} {p : Pfx} {b f : V} (T : h.get tr = some (.row [.bool true, .nilsl, b])) : Pure Tryz.prog 116 [.ptr tr 3 0, .agg (pfxC p), f] h (.tup []) := by
  refine pure_to Tryz.func116 S.trie_Trie_api_Path_way_code S.trie_Trie_api_Path_way_enter rfl (Nat.le_of_ble_eq_true rfl) fun wf => ?_; simp only [S.trie_Trie_api_Path_way]
  have hlt := wf.lt T
  obtain ⟨h2, hh2⟩ : ∃ h2, h2 = h.push (.row (pfxC p)) := ⟨_, rfl⟩
  have g2 : Ge h h2 := by rw [hh2]; exact (Ge.refl _).push _
  have T2 : h2.get tr = some (.row [.bool true, .nilsl, b]) := (g2.2 _ hlt).trans T
  have c2 : cellsAt h2.get h.next 4 = some (pfxC p) := by rw [hh2]; simp [pfxC]
  have pc : Pure Tryz.prog 67 [.agg (pfxC p)] h2 (.int .i64 (if mayP p = true then 0 else 2)) := pcheck_ct
  have rc : Pure Tryz.prog 124 [.ptr tr 3 0, .agg (pfxC p)] h2 (.tup [.int .i64 0, .bool false]) := xroot0_ct T2
  simp only [pfxC] at hh2 c2 pc rc
  simp [pfxC]
  rw [← hh2]
  refine xnone_ct T2 _ ?_
  simp [c2]
  refine pc _ ?_
  cases mayP p with
  | false => simp [g2]
  | true =>
    simp [c2]
    refine rc _ ?_
    simp [g2]
theorem xget0_ct {h : H} {tr : Nat} {p : Pfx} {b : V} (T : h.get tr = some (.row [.bool true, .nilsl, b])) : Pure Tryz.prog 78 [.ptr tr 3 0, .agg (pfxC p)] h (.tup [.nilsl, .bool false]) := by
  refine pure_to Tryz.func78 S.trie_Trie_api_Path_Get_code S.trie_Trie_api_Path_Get_enter rfl (Nat.le_of_ble_eq_true rfl) fun wf => ?_; simp only [S.trie_Trie_api_Path_Get]
  have hlt := wf.lt T
  obtain ⟨h2, hh2⟩ : ∃ h2, h2 = (h.push (.row (pfxC p))).push (.row [.nilptr]) := ⟨_, rfl⟩
  have g2 : Ge h h2 := by rw [hh2]; exact ((Ge.refl _).push _).push _
  have T2 : h2.get tr = some (.row [.bool true, .nilsl, b]) := (g2.2 _ hlt).trans T
  have c2 : cellsAt h2.get h.next 4 = some (pfxC p) := by rw [hh2]; simp [pfxC]
  have c3 : cellsAt h2.get (h.next + 1) 1 = some [.nilptr] := by rw [hh2]; simp
  have wc : ∀ f, Pure Tryz.prog 116 [.ptr tr 3 0, .agg (pfxC p), f] h2 (.tup []) := fun f => xway0_ct T2
  simp only [pfxC] at hh2 c2 wc
  simp [pfxC]
  rw [← hh2]
  refine wc _ _ ?_
  simp [c3, eqV, g2]
theorem lof_ct {h : H} {p : Pth} {vp vc vx vl vk : V} (o1 : vp.one = true) (o2 : vc.one = true) (o3 : vx.one = true) (o4 : vl.one = true) (o5 : vk.one = true) : Pure Tryz.prog 80 [.agg (pathC p vp vc vx vl vk)] h (.agg [.str p.src.peer, .int .u32 (p.n.id : Nat)]) := by
  refine pure_to Tryz.func80 S.loc_of_code S.loc_of_enter rfl (Nat.le_of_ble_eq_true rfl) fun wf => ?_; simp only [S.loc_of]
  simp [pathC, o1, o2, o3, o4, o5]
  exact ((Ge.refl _).push _).push _ |>.set (by simp) _
theorem lplace0_ct {h : H} {s : List UInt8} {i : Nat} : Pure Tryz.prog 79 [.nilsl, .agg [.str s, .int .u32 (i : Nat)]] h (.tup [.int .i64 0, .bool false]) := by
  refine pure_to Tryz.func79 S.loc_place_code S.loc_place_enter rfl (Nat.le_of_ble_eq_true rfl) fun wf => ?_; simp only [S.loc_place]
  simp
  refine (show Pure Tryz.prog 118 [.nilsl, .agg [.str s, .int .u32 (i : Nat)], .func (.func 119) [] []] (h.push (.row [.str s, .int .u32 (i : Nat)])) (.tup [.int .i64 0, .bool false]) from ?_) _ (by simp)
  clear wf
  refine pure_to Tryz.func118 S.slices_BinarySearchFunc_api_Path_api_Path_loc_key_code S.slices_BinarySearchFunc_api_Path_api_Path_loc_key_enter rfl (Nat.le_of_ble_eq_true rfl) fun wf => ?_; simp only [S.slices_BinarySearchFunc_api_Path_api_Path_loc_key]
  simp
  refine loop_up (fun _ t h' => (t 0 = .nilsl ∧ t 2 = .func (.func 119) [] [] ∧ t 8 = .int .i64 0 ∧ t 9 = .int .i64 0 ∧ t 10 = .int .i64 0) ∧ h' = (h.push (.row [.str s, .int .u32 (i : Nat)])).push (.row [.str s, .int .u32 (i : Nat)])) 0 ⟨by simp, rfl⟩ ?_
  rintro k t h' hk ⟨⟨t0, t2, t8, t9, t10⟩, rfl⟩ K hK
  simp [t9, t10]
  refine dreg_quiet (wf.push _) ?_
  simp [t8, t9]
theorem xsetn_ct {h : H} {p : Pfx} {v : V} (ho : v.one = true) {Q : V → H → Prop} (q : Q (.tup [.ptr (h.next + 1) 8 0, .bool true]) ((h.push (.row (pfxC p))).push (.row (pfxC p ++ [.bool true, v, .nilptr, .nilptr])))) : Acalls Tryz.prog 125 [.nilptr, .agg (pfxC p), v] h Q := by
  refine acalls_to Tryz.func125 S.trie_set_api_Path_code S.trie_set_api_Path_enter (Nat.le_of_ble_eq_true rfl) fun wf => ?_; simp only [S.trie_set_api_Path]
  simp only [pfxC, List.cons_append, List.nil_append] at q
  simp [pfxC, eqV, solid_of_one ho, cells_of_one ho, ho]
  exact q
theorem xset0_ct {h : H} {tr : Nat} {p : Pfx} {v : V} (T : h.get tr = some (.row [.bool true, .nilsl, .int .i64 0])) (hp : mayP p = true) (ho : v.one = true) {Q : V → H → Prop}
    (q : ∀ h', h'.WF → h.next ≤ h'.next → (∀ x, x ≠ tr → x < h.next → h'.get x = h.get x) → Q (.int .i64 0) h') : Acalls Tryz.prog 81 [.ptr tr 3 0, .agg (pfxC p), v] h Q := by
  refine acalls_to Tryz.func81 S.trie_Trie_api_Path_Set_code S.trie_Trie_api_Path_Set_enter (Nat.le_of_ble_eq_true rfl) fun wf => ?_; simp only [S.trie_Trie_api_Path_Set]
  have hlt := wf.lt T
  obtain ⟨h2, hh2⟩ : ∃ h2, h2 = h.push (.row (pfxC p)) := ⟨_, rfl⟩
  have g2 : Ge h h2 := by rw [hh2]; exact (Ge.refl _).push _
  have w2 : h2.WF := by rw [hh2]; exact wf.push _
  have n2 : h2.next = h.next + 1 := by rw [hh2]; simp
  have T2 : h2.get tr = some (.row [.bool true, .nilsl, .int .i64 0]) := (g2.2 _ hlt).trans T
  have b2 : h2.get h.next = some (.row (pfxC p)) := by rw [hh2]; simp
  have c2 : cellsAt h2.get h.next 4 = some (pfxC p) := (cellsAt_of (n := 4) b2 rfl).trans rfl
  have pc : Pure Tryz.prog 67 [.agg (pfxC p)] h2 (.int .i64 (if mayP p = true then 0 else 2)) := pcheck_ct
  have rc : Pure Tryz.prog 124 [.ptr tr 3 0, .agg (pfxC p)] h2 (.tup [.int .i64 0, .bool false]) := xroot0_ct T2
  have c3 : cellsAt h2.get tr 3 = some [.bool true, .nilsl, .int .i64 0] := (cellsAt_of (n := 3) T2 rfl).trans rfl
  rw [hp] at pc
  simp only [pfxC] at hh2 c2 pc rc
  simp [pfxC]
  rw [← hh2]
  refine xnone_ct T2 _ ?_
  simp [c2]
  refine pc _ ?_
  simp [c2]
  refine rc _ ?_
  have ap : appendV (h2.push (.row [.int .i64 0, .int .u64 0, .nilptr])).get (h2.next + 1) 3 24 .nilsl (.sl h2.next 3 0 1 (some 1)) = some (.sl (h2.next + 1) (1 * 3) 0 1 none, .push (.grow 3 [.int .i64 0, .int .u64 0, .nilptr])) :=
    appendV_nil (by simp [elemsV_sl]) (by decide) rfl (by decide) (by decide) (by decide)
  have e1 : ¬ tr = h2.next := by omega
  have e2 : ¬ tr = h2.next + 1 := by omega
  have rp : repCells 1 [V.int .i64 0, V.int .u64 0, V.nilptr] = [.int .i64 0, .int .u64 0, .nilptr] := rfl
  have on : V.nilptr.one = true := rfl
  simp [on, c3, T2, ap, e1, e2, solid_slv]
  obtain ⟨h3, hh3⟩ : ∃ h3, h3 = ((h2.push (.row [.int .i64 0, .int .u64 0, .nilptr])).push (.grow 3 [.int .i64 0, .int .u64 0, .nilptr])).set tr (.row [.bool true, .sl (h2.next + 1) 3 0 1 none, .int .i64 0]) := ⟨_, rfl⟩
  have n3 : h3.next = h.next + 3 := by rw [hh3]; simp; omega
  have w3 : h3.WF := by rw [hh3]; exact ((w2.push _).push _).set (by simp; omega) _
  have t3 : h3.get tr = some (.row [.bool true, .sl (h2.next + 1) 3 0 1 none, .int .i64 0]) := by rw [hh3]; simp
  have q3 : h3.get (h2.next + 1) = some (.grow 3 [.int .i64 0, .int .u64 0, .nilptr]) := by rw [hh3, H.get_set, if_neg (by omega)]; simp
  have b3 : h3.get h.next = some (.row (pfxC p)) := by rw [hh3, H.get_set, if_neg (by omega), H.get_push, if_neg (by simp; omega), H.get_push, if_neg (by omega)]; exact b2
  have k3 : ∀ x, x ≠ tr → x < h.next → h3.get x = h.get x := fun x hx hl => by rw [hh3, H.get_set, if_neg hx, H.get_push, if_neg (by simp; omega), H.get_push, if_neg (by omega), g2.2 x hl]
  rw [← hh3]
  have c4 : cellsAt h3.get tr 3 = some [.bool true, .sl (h2.next + 1) 3 0 1 none, .int .i64 0] := (cellsAt_of (n := 3) t3 rfl).trans rfl
  have c5 : cellsAt h3.get h.next 4 = some (pfxC p) := (cellsAt_of (n := 4) b3 rfl).trans rfl
  have cp : copyV h3.get 3 .slz (.sl (h2.next + 1) 3 0 1 none) = some (.int .i64 0, .keep) := by
    unfold copyV
    rw [show elemsV h3.get 3 (.sl (h2.next + 1) 3 0 1 none) = some (1, [.int .i64 0, .int .u64 0, .nilptr]) by rw [elemsV_sl, if_neg (by omega), cellsAt_of (n := 3) q3 rfl]; rfl]
  have wr1 : IntKind.i64.wrap 1 = 1 := by decide
  simp only [pfxC] at c5
  refine dreg_of ?_
  have s1 : sliceSlV 3 (some (.int .i64 1)) none none (.sl (h2.next + 1) 3 0 1 none) = some .slz := rfl
  have s2 : sliceSlV 3 (some (.int .i64 0)) none none (.sl (h2.next + 1) 3 0 1 none) = some (.sl (h2.next + 1) 3 0 1 none) := rfl
  simp [c4, wr1, cp, s1, s2]
  refine dreg_of ?_
  simp [c4, c5, on, q3]
  obtain ⟨h4, hh4⟩ : ∃ h4, h4 = h3.set (h2.next + 1) (.grow 3 [.int .i64 p.fam, .int .u64 (p.rd : Nat), .nilptr]) := ⟨_, rfl⟩
  have n4 : h4.next = h.next + 3 := by rw [hh4]; simp; omega
  have w4 : h4.WF := by rw [hh4]; exact w3.set (by omega) _
  have t4 : h4.get tr = some (.row [.bool true, .sl (h2.next + 1) 3 0 1 none, .int .i64 0]) := by rw [hh4, H.get_set, if_neg e2]; exact t3
  have q4 : h4.get (h2.next + 1) = some (.grow 3 [.int .i64 p.fam, .int .u64 (p.rd : Nat), .nilptr]) := by rw [hh4]; simp
  have b4 : h4.get h.next = some (.row (pfxC p)) := by rw [hh4, H.get_set, if_neg (by omega)]; exact b3
  have k4 : ∀ x, x ≠ tr → x < h.next → h4.get x = h.get x := fun x hx hl => by rw [hh4, H.get_set, if_neg (by omega)]; exact k3 x hx hl
  rw [← hh4]
  have c6 : cellsAt h4.get tr 3 = some [.bool true, .sl (h2.next + 1) 3 0 1 none, .int .i64 0] := (cellsAt_of (n := 3) t4 rfl).trans rfl
  have c7 : cellsAt h4.get h.next 4 = some (pfxC p) := (cellsAt_of (n := 4) b4 rfl).trans rfl
  have c8 : cellsAt h4.get (h2.next + 1) 3 = some [.int .i64 p.fam, .int .u64 (p.rd : Nat), .nilptr] := (cellsAt_of (n := 3) q4 rfl).trans rfl
  obtain ⟨h5, hh5⟩ : ∃ h5, h5 = (h4.push (.row (pfxC p))).push (.row (pfxC p ++ [.bool true, v, .nilptr, .nilptr])) := ⟨_, rfl⟩
  have g5 : Ge h4 h5 := by rw [hh5]; exact ((Ge.refl _).push _).push _
  have w5 : h5.WF := by rw [hh5]; exact (w4.push _).push _
  have q5 : h5.get (h2.next + 1) = some (.grow 3 [.int .i64 p.fam, .int .u64 (p.rd : Nat), .nilptr]) := (g5.2 _ (by omega)).trans q4
  have t5 : h5.get tr = some (.row [.bool true, .sl (h2.next + 1) 3 0 1 none, .int .i64 0]) := (g5.2 _ (by omega)).trans t4
  have sc : ∀ Q : V → H → Prop, Q (.tup [.ptr (h4.next + 1) 8 0, .bool true]) h5 → Acalls Tryz.prog 125 [.nilptr, .agg (pfxC p), v] h4 Q := fun Q q => xsetn_ct ho (by rw [← hh5]; exact q)
  simp only [pfxC] at c7 sc
  refine dreg_awp [tr] [0, 0, 0, 2, 0, 0, 0, 0, 0, 0, 0, 0, 0, 0, 0, 1, 0, 0, 0, 0, 0, 0, 0] rfl (by rfl) ?_
  simp [c6, c7, c8, I.foot, refOf]
  refine acall_of (v := .tup [.ptr (h4.next + 1) 8 0, .bool true]) (h' := h5) (fun Q q => by simpa using sc Q q) (by decide) (fun _ => fun k hk => ?_) ?_
  · rw [List.mem_singleton] at hk
    subst hk
    exact g5.2 _ (by omega)
  have c9 : cellsAt h5.get tr 3 = some [.bool true, .sl (h2.next + 1) 3 0 1 none, .int .i64 0] := (cellsAt_of (n := 3) t5 rfl).trans rfl
  simp [c9, q5, solid_pt, cells_pt, e2, t5, wr1]
  refine q _ ((w5.set (by have := g5.1; omega) _).set (by have := g5.1; simp; omega) _) (by have := g5.1; simp; omega) fun x hx hl => ?_
  rw [H.get_set, if_neg hx, H.get_set, if_neg (by omega), g5.2 x (by omega)]
  exact k4 x hx hl
theorem lput0_ct {h : H} {tb tr : Nat} {p : Pth} {vp vc vx vl vk : V} (T : Tb0 h tb tr) (hne : tb ≠ tr) (A : AttAt h.get p.att vp vc vx vl vk) (hn : p.src.peer.length ≤ 9223372036854775807) {Q : V → H → Prop}
    (q : ∀ h', h'.WF → h.next ≤ h'.next → (∀ x, x ≠ tb → x ≠ tr → x < h.next → h'.get x = h.get x) → Q (.int .i64 (if pmayB p = true then 0 else 2)) h') : Acalls Tryz.prog 50 [.ptr tb 2 0, .agg (pathC p vp vc vx vl vk)] h Q := by
  refine acalls_to Tryz.func50 S.loc_Table_Put_code S.loc_Table_Put_enter (Nat.le_of_ble_eq_true rfl) fun wf => ?_; simp only [S.loc_Table_Put]
  have hlb := wf.lt T.tb
  have hlr := wf.lt T.tr
  obtain ⟨es, P⟩ := A.path
  have o1 := P.sls.one
  have o2 := A.comms.one
  have o3 := A.exts.one
  have o4 := A.larges.one
  have o5 := A.clus.one
  obtain ⟨h2, hh2⟩ : ∃ h2, h2 = h.push (.row (pathC p vp vc vx vl vk)) := ⟨_, rfl⟩
  have g2 : Ge h h2 := by rw [hh2]; exact (Ge.refl _).push _
  have w2 : h2.WF := by rw [hh2]; exact wf.push _
  have n2 : h2.next = h.next + 1 := by rw [hh2]; simp
  have b2 : h2.get h.next = some (.row (pathC p vp vc vx vl vk)) := by rw [hh2]; simp
  have c2 : cellsAt h2.get h.next 29 = some (pathC p vp vc vx vl vk) := (cellsAt_of (n := 29) b2 rfl).trans rfl
  have T2 : Tb0 h2 tb tr := ⟨(g2.2 _ hlb).trans T.tb, (g2.2 _ hlr).trans T.tr⟩
  have A2 := A.ge wf g2
  have mc : Pure Tryz.prog 77 [.agg (pathC p vp vc vx vl vk)] h2 (.bool (pmayB p)) := lmay_ct A2 hn
  simp only [pathC] at hh2 c2 mc
  simp [pathC, o1, o2, o3, o4, o5]
  rw [← hh2]
  refine tnone_ct T2 _ ?_
  simp [c2]
  refine mc _ ?_
  cases hm : pmayB p with
  | false =>
    rw [hm] at q
    simp
    exact q h2 w2 (by omega) fun x _ _ hl => g2.2 x hl
  | true =>
    rw [hm] at q
    have hm' := hm
    simp only [pmayB, Bool.and_eq_true] at hm'
    have hz := attB_sz hm'.1.2
    have hp : mayP p.n.p = true := by
      have := hm'.1.1
      simp only [mayN, Bool.and_eq_true] at this
      exact this.1.1
    have cc : ∀ Q : V → H → Prop, (∀ wp wc wx wl wk h', Ge h2 h' → h'.WF → AttFr h' h2.next p.att wp wc wx wl wk → Q (.agg (attC p.att wp wc wx wl wk)) h') → Acalls Tryz.prog 51 [.agg (attC p.att vp vc vx vl vk)] h2 Q := fun Q q => acopy_ct A2 hz q
    simp only [attC] at cc
    simp [c2]
    refine cc _ fun wp wc wx wl wk h3 g3 w3 f3 => ?_
    obtain ⟨u1, u2, u3, u4, u5⟩ := f3.one
    have b3 : h3.get h.next = some (.row (pathC p vp vc vx vl vk)) := (g3.2 _ (by omega)).trans b2
    simp only [pathC] at b3
    simp [b3, u1, u2, u3, u4, u5]
    obtain ⟨h4, hh4⟩ : ∃ h4, h4 = h3.set h.next (.row (pathC p wp wc wx wl wk)) := ⟨_, rfl⟩
    have k4 : ∀ x, x ≠ h.next → h4.get x = h3.get x := fun x hx => by rw [hh4, H.get_set, if_neg hx]
    have n4 : h4.next = h3.next := by rw [hh4]; simp
    have l3 := g3.1
    have w4 : h4.WF := by rw [hh4]; exact w3.set (by omega) _
    have b4 : h4.get h.next = some (.row (pathC p wp wc wx wl wk)) := by rw [hh4]; simp
    have T4 : Tb0 h4 tb tr := ⟨by rw [k4 _ (by omega), g3.2 _ (by omega)]; exact T2.tb, by rw [k4 _ (by omega), g3.2 _ (by omega)]; exact T2.tr⟩
    have kb : ∀ x, x < h.next → h4.get x = h.get x := fun x hx => by rw [k4 x (by omega), g3.2 x (by omega), g2.2 x hx]
    have c4 : cellsAt h4.get h.next 29 = some (pathC p wp wc wx wl wk) := (cellsAt_of (n := 29) b4 rfl).trans rfl
    have ct4 : cellsAt h4.get tb 2 = some [.ptr tr 3 0, .int .i64 0] := (cellsAt_of (n := 2) T4.tb rfl).trans rfl
    simp only [pathC] at hh4 c4
    rw [← hh4]
    have gc : Pure Tryz.prog 78 [.ptr tr 3 0, .agg (pfxC p.n.p)] h4 (.tup [.nilsl, .bool false]) := xget0_ct T4.tr
    have oc : Pure Tryz.prog 80 [.agg (pathC p wp wc wx wl wk)] h4 (.agg [.str p.src.peer, .int .u32 (p.n.id : Nat)]) := lof_ct u1 u2 u3 u4 u5
    simp only [pfxC] at gc
    simp only [pathC] at oc
    refine dreg_of ?_
    simp [ct4, c4]
    refine scall_of (v := .tup [.nilsl, .bool false]) (h' := h4) (fun Q q => by simpa using gc Q q) ?_
    simp [c4]
    refine oc _ ?_
    simp
    refine lplace0_ct _ ?_
    simp [ct4]
    refine dreg_of ?_
    have s1 : sliceSlV 29 none (some (.int .i64 0)) (some (.int .i64 0)) .nilsl = some .nilsl := rfl
    have s2 : sliceSlV 29 (some (.int .i64 0)) none none .nilsl = some .nilsl := rfl
    have ap1 : appendV (h4.push (.row (pathC p wp wc wx wl wk))).get (h4.next + 1) 29 304 .nilsl (.sl h4.next 29 0 1 (some 1)) = some (.sl (h4.next + 1) (1 * 29) 0 1 none, .push (.grow 29 (pathC p wp wc wx wl wk))) :=
      appendV_nil (by simp [elemsV_sl, pathC]) (by decide) (by simp [pathC, u1, u2, u3, u4, u5]) (by decide) (by decide) (by decide)
    have ap2 : ∀ g n, appendV g n 29 304 (.sl (h4.next + 1) 29 0 1 none) .nilsl = some (.sl (h4.next + 1) 29 0 1 none, .keep) := fun g n => rfl
    simp only [pathC] at ap1
    have e1 : ¬ tb = h4.next + 1 := by omega
    have e2 : ¬ tb = h4.next := by omega
    have wr1 : IntKind.i64.wrap 1 = 1 := by decide
    simp [s1, s2, c4, u1, u2, u3, u4, u5, ap1, ap2, e1, e2, ct4, T4.tb, wr1]
    obtain ⟨h6, hh6⟩ : ∃ h6, h6 = ((h4.push (.row (pathC p wp wc wx wl wk))).push (.grow 29 (pathC p wp wc wx wl wk))).set tb (.row [.ptr tr 3 0, .int .i64 1]) := ⟨_, rfl⟩
    have n6 : h6.next = h4.next + 2 := by rw [hh6]; simp
    have w6 : h6.WF := by rw [hh6]; exact ((w4.push _).push _).set (by simp; omega) _
    have k6 : ∀ x, x ≠ tb → x < h4.next → h6.get x = h4.get x := fun x hx hl => by rw [hh6, H.get_set, if_neg hx, H.get_push, if_neg (by simp; omega), H.get_push, if_neg (by omega)]
    have ct6 : cellsAt h6.get tb 2 = some [.ptr tr 3 0, .int .i64 1] := (cellsAt_of (n := 2) (show h6.get tb = some (.row [.ptr tr 3 0, .int .i64 1]) by rw [hh6]; simp) rfl).trans rfl
    have c6 : cellsAt h6.get h.next 29 = some (pathC p wp wc wx wl wk) := (cellsAt_of (n := 29) ((k6 _ (by omega) (by omega)).trans b4) rfl).trans rfl
    have sc : ∀ Q : V → H → Prop, (∀ h', h'.WF → h6.next ≤ h'.next → (∀ x, x ≠ tr → x < h6.next → h'.get x = h6.get x) → Q (.int .i64 0) h') → Acalls Tryz.prog 81 [.ptr tr 3 0, .agg (pfxC p.n.p), .sl (h4.next + 1) 29 0 1 none] h6 Q := fun Q q =>
      xset0_ct ((k6 _ (fun e => hne e.symm) (by omega)).trans T4.tr) hp rfl q
    simp only [pathC] at hh6 c6
    simp only [pfxC] at sc
    rw [← hh6]
    refine dreg_of ?_
    simp [ct6, c6]
    refine ⟨fun v h' => v = .int .i64 0 ∧ h'.WF ∧ h6.next ≤ h'.next ∧ ∀ x, x ≠ tr → x < h6.next → h'.get x = h6.get x, ⟨.int .i64 0, h6, rfl, w6, Nat.le_refl _, fun _ _ _ => rfl⟩, sc _ fun h' a b c => ⟨rfl, a, b, c⟩, ?_⟩
    rintro _ h' ⟨rfl, a, b, c⟩
    simp
    simp only [if_true] at q
    exact q h' a (by omega) fun x h1 h2 hl => by rw [c x h2 (by omega), k6 x h1 (by omega)]; exact kb x hl
theorem vmay_ct {h : H} {p : Pth} {vp vc vx vl vk : V} (A : AttAt h.get p.att vp vc vx vl vk) (hn : p.src.peer.length ≤ 9223372036854775807) : Pure Tryz.prog 26 [.agg (pathC p vp vc vx vl vk)] h (.bool (pmayB p)) := by
  refine pure_to Tryz.func26 S.vrf_may_code S.vrf_may_enter rfl (Nat.le_of_ble_eq_true rfl) fun wf => ?_; simp only [S.vrf_may]
  obtain ⟨es, P⟩ := A.path
  have o1 := P.sls.one
  have o2 := A.comms.one
  have o3 := A.exts.one
  have o4 := A.larges.one
  have o5 := A.clus.one
  obtain ⟨h2, hh2⟩ : ∃ h2, h2 = h.push (.row (pathC p vp vc vx vl vk)) := ⟨_, rfl⟩
  have g2 : Ge h h2 := by rw [hh2]; exact (Ge.refl _).push _
  have n2 : h2.next = h.next + 1 := by rw [hh2]; simp
  have c2 : cellsAt h2.get h.next 29 = some (pathC p vp vc vx vl vk) := by rw [hh2]; simp [pathC]
  obtain ⟨h3, hh3⟩ : ∃ h3, h3 = (h2.push (.row [.bool true, .nilsl, .int .i64 0])).push (.row [.ptr h2.next 3 0, .int .i64 0]) := ⟨_, rfl⟩
  have g3 : Ge h2 h3 := by rw [hh3]; exact ((Ge.refl _).push _).push _
  have A3 := A.ge wf (g2.trans g3)
  have T3 : Tb0 h3 (h2.next + 1) h2.next := ⟨by rw [hh3]; simp, by rw [hh3]; simp⟩
  have c3 : cellsAt h3.get h.next 29 = some (pathC p vp vc vx vl vk) := by rw [g3.cells (by omega)]; exact c2
  have pc : ∀ Q : V → H → Prop, (∀ h', h'.WF → h3.next ≤ h'.next → (∀ x, x ≠ h2.next + 1 → x ≠ h2.next → x < h3.next → h'.get x = h3.get x) → Q (.int .i64 (if pmayB p = true then 0 else 2)) h') → Acalls Tryz.prog 50 [.ptr (h2.next + 1) 2 0, .agg (pathC p vp vc vx vl vk)] h3 Q := fun Q q =>
    lput0_ct T3 (by omega) A3 hn q
  simp only [pathC] at hh2 c3 pc
  simp [pathC, o1, o2, o3, o4, o5]
  rw [← hh2]
  refine dreg_awp [h.next] [1, 2, 0, 0, 0] rfl (by rfl) ?_
  simp
  refine acall_of (v := .ptr (h2.next + 1) 2 0) (h' := h3) (fun Q q => lnew_ct (by rw [← hh3]; exact q)) (by decide) (fun _ => fun k hk => ?_) ?_
  · rw [List.mem_singleton] at hk
    subst hk
    exact g3.2 _ (by omega)
  simp [c3, I.foot, refOf]
  refine ⟨by decide, fun v h' => v = .int .i64 (if pmayB p = true then 0 else 2) ∧ Ge h h', ⟨.int .i64 (if pmayB p = true then 0 else 2), h3, rfl, g2.trans g3⟩, pc _ fun h' _ b c => ⟨rfl, ⟨by have := g2.1; have := g3.1; omega, fun x hx => by rw [c x (by have := g2.1; omega) (by have := g2.1; omega) (by have := g2.1; have := g3.1; omega), g3.2 x (by have := g2.1; omega), g2.2 x hx]⟩⟩, ?_⟩
  rintro _ h' ⟨rfl, gh⟩
  cases hm : pmayB p <;> simp [gh]
end Go.Am

namespace Go.Am
open Go.Proofs

set_option maxRecDepth 100000
def isTg (x : Nat) : Bool := decide (x / 281474976710656 = 2)
theorem fd48v (n : Nat) : ((n : Nat) : Int).fdiv (2 ^ min 48 IntKind.u64.bits) = (n : Int) / 281474976710656 := Int.fdiv_eq_ediv_of_nonneg _ (by decide)
theorem istg_ct {h : H} {x : Nat} : Pure Tryz.prog 36 [.int .u64 (x : Nat)] h (.bool (isTg x)) := by
  refine pure_to Tryz.func36 S.comm_IsTarget_code S.comm_IsTarget_enter rfl (Nat.le_of_ble_eq_true rfl) fun wf => ?_; simp only [S.comm_IsTarget]
  have e : ((x : Int) / 281474976710656 == 2) = isTg x := by unfold isTg; rw [eqI, decide_eq_decide]; omega
  simp [fd48v, e]
theorem idx8_ct {h : H} {v : V} {l : List Nat} {c : Nat} (hs : Sls h.get 1 v (l.map cX)) {Q : V → H → Prop} (q : ∀ k : Int, decide (0 ≤ k) = decide (c ∈ l) → Q (.int .i64 k) h) : Acalls Tryz.prog 69 [v, .int .u64 (c : Nat)] h Q := by
  refine acalls_to Tryz.func69 S.slices_Index_uint64_uint64_code S.slices_Index_uint64_uint64_enter (Nat.le_of_ble_eq_true rfl) fun wf => ?_; simp only [S.slices_Index_uint64_uint64]
  have hlen := hs.len
  have hb := hs.bound
  simp at hlen hb
  simp [hlen]
  refine loop_up (fun i t h' => (t 0 = v ∧ t 1 = .int .u64 (c : Nat) ∧ t 6 = v ∧ t 7 = .int .i64 (l.length : Nat) ∧ t 8 = .int .i64 (i : Nat)) ∧ h' = h ∧ c ∉ l.take i) l.length ⟨by simp, rfl, by simp⟩ ?_
  rintro i t h' hi ⟨⟨t0, t1, t6, t7, t8⟩, rfl, hn⟩ K hK
  by_cases hlt : i < l.length
  · obtain ⟨p, qq, o, cs, e1, e2, e3⟩ := hs.at1 (f := fun x : Nat => V.int .u64 x) hlt
    have hw := wrap_succ hlt hb
    by_cases hx : c = l[i]
    · have b1 : ((c : Int) == (l[i] : Int)) = true := beq_iff_eq.2 (by omega)
      have hm : c ∈ l := by rw [hx]; exact List.getElem_mem hlt
      simp [t0, t1, t7, t8, hlt, e1, e2, e3, b1]
      exact q _ (by simp [hm])
    · have b1 : ((c : Int) == (l[i] : Int)) = false := beq_eq_false_iff_ne.2 (by omega)
      simp [t0, t1, t7, t8, hlt, e1, e2, e3, b1, hw]
      refine hK _ _ hlt ⟨by simp [t0, t1, t6, t7], rfl, ?_⟩
      rw [List.take_add_one, List.getElem?_eq_getElem hlt, List.mem_append]
      simp [hn, hx]
  · have : i = l.length := by omega
    subst this
    rw [List.take_length] at hn
    simp [t7, t8]
    exact q _ (by simp [hn])
theorem con8_ct {h : H} {v : V} {l : List Nat} {c : Nat} (hs : Sls h.get 1 v (l.map cX)) : Pure Tryz.prog 42 [v, .int .u64 (c : Nat)] h (.bool (decide (c ∈ l))) := by
  refine pure_to Tryz.func42 S.slices_Contains_uint64_uint64_code S.slices_Contains_uint64_uint64_enter rfl (Nat.le_of_ble_eq_true rfl) fun wf => ?_; simp only [S.slices_Contains_uint64_uint64]
  simp
  refine idx8_ct hs fun k hk => ?_
  simp [← hk]
theorem idxf_ct {h : H} {v : V} {l : List Nat} {g : FuncId} {first cap : List V} {f : Nat → Bool} (hs : Sls h.get 1 v (l.map cX)) (hf : ∀ x ∈ l, Pure Tryz.prog g (first ++ [.int .u64 (x : Nat)] ++ cap) h (.bool (f x))) {Q : V → H → Prop} (q : ∀ k : Int, decide (0 ≤ k) = l.any f → Q (.int .i64 k) h) : Acalls Tryz.prog 68 [v, .func (.func g) first cap] h Q := by
  refine acalls_to Tryz.func68 S.slices_IndexFunc_uint64_uint64_code S.slices_IndexFunc_uint64_uint64_enter (Nat.le_of_ble_eq_true rfl) fun wf => ?_; simp only [S.slices_IndexFunc_uint64_uint64]
  have hlen := hs.len
  have hb := hs.bound
  simp at hlen hb
  simp [hlen]
  refine loop_up (fun i t h' => (t 0 = v ∧ t 1 = .func (.func g) first cap ∧ t 6 = v ∧ t 7 = .int .i64 (l.length : Nat) ∧ t 8 = .int .i64 (i : Nat)) ∧ h' = h ∧ (l.take i).any f = false) l.length ⟨by simp, rfl, by simp⟩ ?_
  rintro i t h' hi ⟨⟨t0, t1, t6, t7, t8⟩, rfl, hn⟩ K hK
  by_cases hlt : i < l.length
  · obtain ⟨p, qq, o, cs, e1, e2, e3⟩ := hs.at1 (f := fun x : Nat => V.int .u64 x) hlt
    have hw := wrap_succ hlt hb
    have hc := hf _ (List.getElem_mem hlt)
    simp only [List.append_assoc, List.singleton_append] at hc
    simp [t0, t1, t7, t8, hlt, e1, e2, e3]
    refine hc _ ?_
    cases hx : f l[i] with
    | true =>
      have hm : l.any f = true := List.any_eq_true.2 ⟨_, List.getElem_mem hlt, hx⟩
      simp
      exact q _ (by simp [hm])
    | false =>
      simp [t8, hw]
      refine hK _ _ hlt ⟨by simp [t0, t1, t6, t7], rfl, ?_⟩
      rw [List.take_add_one, List.getElem?_eq_getElem hlt, List.any_append, hn]
      simp [hx]
  · have : i = l.length := by omega
    subst this
    rw [List.take_length] at hn
    simp [t7, t8]
    exact q _ (by simp [hn])
theorem conf_ct {h : H} {v : V} {l : List Nat} {g : FuncId} {first cap : List V} {f : Nat → Bool} (hs : Sls h.get 1 v (l.map cX)) (hf : ∀ x ∈ l, Pure Tryz.prog g (first ++ [.int .u64 (x : Nat)] ++ cap) h (.bool (f x))) : Pure Tryz.prog 40 [v, .func (.func g) first cap] h (.bool (l.any f)) := by
  refine pure_to Tryz.func40 S.slices_ContainsFunc_uint64_uint64_code S.slices_ContainsFunc_uint64_uint64_enter rfl (Nat.le_of_ble_eq_true rfl) fun wf => ?_; simp only [S.slices_ContainsFunc_uint64_uint64]
  simp
  refine idxf_ct hs hf fun k hk => ?_
  simp [← hk]
def rightB (l : List Nat) : Bool := risB oN l && l.all isTg
theorem not_any {α : Type} (f : α → Bool) (l : List α) : (!l.any fun x => !f x) = l.all f := by
  induction l with
  | nil => rfl
  | cons a l ih => simp only [List.any_cons, List.all_cons, Bool.not_or, Bool.not_not, ih]
theorem right_ct {h : H} {v : V} {l : List Nat} (hs : Sls h.get 1 v (l.map cX)) (hf : ∀ x ∈ l, x < 18446744073709551616) (hl : l.length ≤ 1000) : Pure Tryz.prog 48 [v] h (.bool (rightB l)) := by
  refine pure_to Tryz.func48 S.vrf_right_code S.vrf_right_enter rfl (Nat.le_of_ble_eq_true rfl) fun wf => ?_; simp only [S.vrf_right]
  simp
  refine enccX_ct hs hf hl _ ?_
  by_cases hr : l.length ≤ 64 ∧ adjB oN l = true
  · have e1 : risB oN l = true := by simp [risB, hr]
    rw [encR_yes hr.1 hr.2]
    simp
    refine conf_ct (g := 74) (first := []) (cap := []) (f := fun x => !isTg x) hs (fun x _ => ?_) _ ?_
    · show Pure Tryz.prog 74 [.int .u64 (x : Nat)] h _
      clear wf
      refine pure_to Tryz.func74 S.vrf_right_1_code S.vrf_right_1_enter rfl (Nat.le_of_ble_eq_true rfl) fun wf => ?_; simp only [S.vrf_right_1]
      simp
      refine istg_ct _ ?_
      simp
    · simp [rightB, e1]
      rw [← not_any isTg l, Bool.not_not]
  · have e1 : risB oN l = false := by
      unfold risB
      cases e : adjB oN l with
      | false => rfl
      | true => simp [e] at hr; simp; omega
    have e2 : encR oN bX l = .tup [.str [], .int .i64 2] := if_neg hr
    rw [e2]
    simp [rightB, e1]
theorem meetg_ct {h : H} {v w : V} {l m : List Nat} (hs : Sls h.get 1 v (l.map cX)) (hw : Sls h.get 1 w (m.map cX)) : Pure Tryz.prog 22 [v, w] h (.bool (l.any fun x => decide (x ∈ m))) := by
  refine pure_to Tryz.func22 S.comm_Meet_code S.comm_Meet_enter rfl (Nat.le_of_ble_eq_true rfl) fun wf => ?_; simp only [S.comm_Meet]
  have o1 := hw.one
  simp [boxV_one o1]
  obtain ⟨h2, hh2⟩ : ∃ h2, h2 = h.push (.row [w]) := ⟨_, rfl⟩
  have g2 : Ge h h2 := by rw [hh2]; exact (Ge.refl _).push _
  have c2 : cellsAt h2.get h.next 1 = some [w] := by rw [hh2]; simp
  rw [← hh2]
  refine conf_ct (g := 41) (first := []) (cap := [.ptr h.next 1 0]) (f := fun x => decide (x ∈ m)) (hs.ge wf g2) (fun x _ => ?_) _ ?_
  · show Pure Tryz.prog 41 [.int .u64 (x : Nat), .ptr h.next 1 0] h2 _
    have wf' := wf
    clear wf
    refine pure_to Tryz.func41 S.comm_Meet_1_code S.comm_Meet_1_enter rfl (Nat.le_of_ble_eq_true rfl) fun wf => ?_; simp only [S.comm_Meet_1]
    simp [c2]
    refine con8_ct (hw.ge wf' g2) _ ?_
    simp
  · simp [g2]
theorem targets_ct {h : H} {a : Att} {vp vc vx vl vk : V} (A : AttAt h.get a vp vc vx vl vk) (hl : a.exts.length * 8 ≤ 140737488355328) {Q : V → H → Prop} (q : ∀ w h', Ge h h' → h'.WF → Gl h' h.next 1 w ((a.exts.filter isTg).map cX) → Q w h') : Acalls Tryz.prog 14 [.agg (attC a vp vc vx vl vk)] h Q := by
  refine acalls_to Tryz.func14 S.vrf_Targets_code S.vrf_Targets_enter (Nat.le_of_ble_eq_true rfl) fun wf => ?_; simp only [S.vrf_Targets]
  obtain ⟨es, P⟩ := A.path
  have o1 := P.sls.one
  have o2 := A.comms.one
  have o3 := A.exts.one
  have o4 := A.larges.one
  have o5 := A.clus.one
  obtain ⟨h2, hh2⟩ : ∃ h2, h2 = h.push (.row (attC a vp vc vx vl vk)) := ⟨_, rfl⟩
  have g2 : Ge h h2 := by rw [hh2]; exact (Ge.refl _).push _
  have w2 : h2.WF := by rw [hh2]; exact wf.push _
  have n2 : h2.next = h.next + 1 := by rw [hh2]; simp
  have c2 : cellsAt h2.get h.next 16 = some (attC a vp vc vx vl vk) := by rw [hh2]; simp [attC]
  have hlen := (A.exts.ge wf g2).len
  have hb := A.exts.bound
  simp at hlen hb
  simp only [attC] at hh2 c2
  simp [attC, o1, o2, o3, o4, o5]
  rw [← hh2]
  simp [hlen]
  refine loop_up (fun i t h' => ∃ w, (t 3 = w ∧ t 7 = vx ∧ t 8 = .int .i64 (a.exts.length : Nat) ∧ t 9 = .int .i64 (i : Nat)) ∧ (Ge h2 h' ∧ h'.WF) ∧ Gl h' h2.next 1 w (((a.exts.take i).filter isTg).map cX)) a.exts.length ⟨.nilsl, by simp, ⟨Ge.refl _, w2⟩, by simpa using Gl.nil h2 h2.next 1⟩ ?_
  rintro i t h' hi ⟨w, ⟨t3, t7, t8, t9⟩, ⟨gb, wb⟩, gl⟩ K hK
  by_cases hlt : i < a.exts.length
  · obtain ⟨p, qq, o, cs, e1, e2, e3⟩ := (A.exts.ge wf (g2.trans gb)).at1 (f := fun x : Nat => V.int .u64 x) hlt
    have hw := wrap_succ hlt hb
    simp [t7, t8, t9, hlt, e1, e2, e3]
    refine istg_ct _ ?_
    have hfl : (a.exts.take (i + 1)).filter isTg = (a.exts.take i).filter isTg ++ if isTg a.exts[i] = true then [a.exts[i]] else [] := by
      rw [List.take_add_one, List.getElem?_eq_getElem hlt, List.filter_append]
      simp only [Option.toList_some, List.filter_cons, List.filter_nil]
    cases hx : isTg a.exts[i] with
    | false =>
      simp [t9, hw]
      refine hK _ _ hlt ⟨w, by simp [t3, t7, t8], ⟨gb, wb⟩, ?_⟩
      rw [hfl, hx]; simpa using gl
    | true =>
      have hll : ((a.exts.take i).filter isTg).length ≤ i := by have := List.length_filter_le isTg (a.exts.take i); simp at this; omega
      obtain ⟨v', d, ea, gl2, n3, k3, w3, _⟩ := one_more (bytes := 8) (cX a.exts[i]) gl (by have := gb.1; omega) (attx_len _) rfl rfl (by decide) (by simp; omega) (by simp; omega)
      obtain ⟨h3, hh3⟩ : ∃ h3, h3 = (h'.push (.row (cX a.exts[i]))).app d := ⟨_, rfl⟩
      rw [← hh3] at gl2 n3 k3 w3
      simp only [cX] at ea hh3
      simp [t3, t9, ea, ← hh3, hw]
      refine hK _ _ hlt ⟨v', by simp [t7, t8], ⟨⟨by have := gb.1; omega, fun x hx => ?_⟩, w3 wb⟩, ?_⟩
      · rw [k3 x (fun hv => by have := (gl.lo x hv).1; omega) (by have := gb.1; omega)]; exact gb.2 x hx
      · rw [hfl, hx]; simpa using gl2
  · have hi2 : i = a.exts.length := by omega
    subst hi2
    rw [List.take_length] at gl
    simp [t3, t8, t9]
    refine q w h' (g2.trans gb) wb ?_
    rcases gl with h1 | ⟨h1, j, h3, h4⟩
    · exact .inl h1
    · exact .inr ⟨h1, j, by omega, h4⟩
theorem push_set_last (g : H) (a b : O) {k : Nat} (hk : k = g.next) : (g.push a).set k b = g.push b := by
  subst hk
  refine H.ext' rfl fun j => ?_
  simp only [H.get_set, H.get_push]
  split <;> rfl
structure Vr where
  name : List UInt8
  rd : Nat
  imp : List Nat
  exp : List Nat
  deriving DecidableEq
def vrC (v : Vr) (vi ve : V) : List V := [.str v.name, .int .u64 (v.rd : Nat), vi, ve]
structure VrAt (g : Nat → Option O) (v : Vr) (vi ve : V) : Prop where
  imp : Sls g 1 vi (v.imp.map cX)
  exp : Sls g 1 ve (v.exp.map cX)
structure VrOk (v : Vr) : Prop where
  name : v.name.length ≤ 9223372036854775807
  imp : v.imp.length ≤ 1000 ∧ ∀ x ∈ v.imp, x < 18446744073709551616
  exp : v.exp.length ≤ 1000 ∧ ∀ x ∈ v.exp, x < 18446744073709551616
theorem VrAt.ge {a b : H} {v : Vr} {vi ve : V} (s : VrAt a.get v vi ve) (w : a.WF) (g : Ge a b) : VrAt b.get v vi ve := ⟨s.imp.ge w g, s.exp.ge w g⟩
def vrfB (v : Vr) : Bool := nameB v.name && rightB v.imp && rightB v.exp
def probeP (s : List UInt8) : Pth := ⟨⟨⟨1, 0, [0, 0, 0, 0], 0⟩, 0, 0⟩, att0, ⟨2, s, 0, 0, [], []⟩, false⟩
theorem probe_may (s : List UInt8) : pmayB (probeP s) = nameB s := by
  have h1 : mayN (probeP s).n = true := (show mayN ⟨⟨1, 0, [0, 0, 0, 0], 0⟩, 0, 0⟩ = true by decide)
  have h2 : attB (probeP s).att = true := (show attB att0 = true by decide)
  unfold pmayB
  rw [h1, h2]
  simp [probeP]
theorem vrf_ct {h : H} {v : Vr} {vi ve : V} (V1 : VrAt h.get v vi ve) (ok : VrOk v) : Pure Tryz.prog 25 [.agg (vrC v vi ve)] h (.bool (vrfB v)) := by
  refine pure_to Tryz.func25 S.vrf_vrf_code S.vrf_vrf_enter rfl (Nat.le_of_ble_eq_true rfl) fun wf => ?_; simp only [S.vrf_vrf]
  have o1 := V1.imp.one
  have o2 := V1.exp.one
  obtain ⟨h2, hh2⟩ : ∃ h2, h2 = (h.push (.row (vrC v vi ve))).push (.row [.int .i64 1, .int .u64 0, .str [0, 0, 0, 0], .int .i64 0, .int .u32 0, .int .u32 0, .int .i64 0, .nilsl, .str [], .bool false, .int .u32 0, .bool false, .int .u32 0, .bool false, .int .u32 0, .int .u32 0, .nilsl, .nilsl, .nilsl, .bool false, .int .u32 0, .nilsl, .int .i64 2, .str v.name, .int .u32 0, .int .u32 0, .str [], .str [], .bool false]) := ⟨_, rfl⟩
  have g2 : Ge h h2 := by rw [hh2]; exact ((Ge.refl _).push _).push _
  have c2 : cellsAt h2.get h.next 4 = some (vrC v vi ve) := by rw [hh2]; simp [vrC]
  have n0 : ∀ sz, Sls h2.get sz .nilsl [] := fun sz => ⟨.inl ⟨rfl, .inl rfl⟩, by simp, rfl, by simp⟩
  have A0 : AttAt h2.get att0 .nilsl .nilsl .nilsl .nilsl .nilsl := ⟨⟨[], n0 _, rfl, fun i s h => by simp [att0] at h⟩, n0 _, n0 _, n0 _, n0 _⟩
  have mc := vmay_ct (p := probeP v.name) A0 ok.name
  rw [probe_may] at mc
  simp only [vrC] at hh2 c2
  simp [pathC, probeP, att0] at mc
  simp [vrC, o1, o2]
  have z2 : ((h.push (.row [.str v.name, .int .u64 (v.rd : Nat), vi, ve])).push (.row [.int .i64 0, .int .u64 0, .str [], .int .i64 0, .int .u32 0, .int .u32 0, .int .i64 0, .nilsl, .str [], .bool false, .int .u32 0, .bool false, .int .u32 0, .bool false, .int .u32 0, .int .u32 0, .nilsl, .nilsl, .nilsl, .bool false, .int .u32 0, .nilsl, .int .i64 0, .str [], .int .u32 0, .int .u32 0, .str [], .str [], .bool false])).set (h.next + 1) (.row [.int .i64 1, .int .u64 0, .str [0, 0, 0, 0], .int .i64 0, .int .u32 0, .int .u32 0, .int .i64 0, .nilsl, .str [], .bool false, .int .u32 0, .bool false, .int .u32 0, .bool false, .int .u32 0, .int .u32 0, .nilsl, .nilsl, .nilsl, .bool false, .int .u32 0, .nilsl, .int .i64 2, .str v.name, .int .u32 0, .int .u32 0, .str [], .str [], .bool false]) = h2 := by
    rw [hh2]
    exact push_set_last _ _ _ (by simp)
  rw [z2]
  refine mc _ ?_
  cases k1 : nameB v.name with
  | false => simp [vrfB, k1, g2]
  | true =>
    simp [c2]
    refine right_ct (V1.imp.ge wf g2) ok.imp.2 ok.imp.1 _ ?_
    cases k2 : rightB v.imp with
    | false => simp [vrfB, k1, k2, g2]
    | true =>
      simp [c2]
      refine right_ct (V1.exp.ge wf g2) ok.exp.2 ok.exp.1 _ ?_
      simp [vrfB, k1, k2, g2]
end Go.Am

namespace Go.Am
open Go.Proofs

set_option maxRecDepth 100000
theorem compactX2_ct {h : H} {j : Nat} {l : List Nat} (hg : h.get j = some (.grow 1 (l.map cX).flatten)) (hl : l.length ≤ 140737488355328) (hne : l ≠ []) {Q : V → H → Prop}
    (q : ∀ v' h', (∀ i, i ≠ j → h'.get i = h.get i) → h'.next = h.next → h'.WF → Sls h'.get 1 v' ((compactL l).map cX) → CapOk v' → (∃ cs : List V, h'.get j = some (.grow 1 cs) ∧ cs.length = l.length) → v' = .sl j l.length 0 (compactL l).length none → Q v' h') : Acalls Tryz.prog 29 [.sl j (l.length) 0 l.length none] h Q := by
  refine acalls_to Tryz.func29 S.slices_Compact_uint64_uint64_code S.slices_Compact_uint64_uint64_enter (Nat.le_of_ble_eq_true rfl) fun wf => ?_; simp only [S.slices_Compact_uint64_uint64]
  have hlt := wf.lt hg
  have s0 := slsc_all cX_len hg (by omega)
  simp only [Nat.mul_one] at s0
  have hpos : 0 < l.length := List.length_pos_iff.2 hne
  have hf0 : (l.map cX).flatten.length = l.length := by rw [flat_len (map_lenc cX_len l)]; simp
  by_cases h2 : l.length < 2
  · have e1 : compactL l = l := by
      match l, hpos, h2 with
      | [a], _, _ => rfl
    have h2' : (l.length : Int) < 2 := by omega
    simp [h2']
    exact q _ _ (fun _ _ => rfl) rfl wf (by rw [e1]; exact s0) trivial ⟨_, hg, hf0⟩ (by rw [e1])
  have h2' : ¬ (l.length : Int) < 2 := by omega
  simp [h2']
  refine loop_up (fun i t h' => (t 0 = .sl j (l.length) 0 l.length none ∧ t 3 = .int .i64 ((i + 1 : Nat) : Int)) ∧ h' = h ∧ i + 1 ≤ l.length ∧ compactL (l.take (i + 1)) = l.take (i + 1)) (l.length - 1) ⟨by simp, rfl, by omega, by
    match l, hpos with
    | a :: r, _ => rfl⟩ ?_
  rintro i t h' hi ⟨⟨t0, t3⟩, rfl, hil, hci⟩ K hK
  obtain ⟨m, hm⟩ : ∃ m, m = i + 1 := ⟨_, rfl⟩
  rw [← hm] at t3 hci hil
  by_cases hlt2 : m < l.length
  · have hltI : (m : Int) < (l.length : Int) := by omega
    obtain ⟨p, qq, o, cs, e1, e2, e3⟩ := s0.at1 (f := fun x : Nat => V.int .u64 x) (k := m) hlt2
    obtain ⟨p', qq', o', cs', b1, b2, b3⟩ := s0.at1 (f := fun x : Nat => V.int .u64 x) (k := m - 1) (by omega)
    have wm : IntKind.i64.wrap ((m : Int) - 1) = ((m - 1 : Nat) : Int) := by rw [wrap_i64_id (by omega) (by omega)]; omega
    simp [t0, t3, hlt2]
    refine dreg_of ?_
    simp [t0, t3, e1, e2, e3, wm, b1, b2, b3]
    by_cases hx : l[m] = l[m - 1]
    · have esl : sliceSlV 1 (some (.int .i64 (m : Int))) none none (.sl j (l.length) 0 l.length none) = some (.sl j (l.length) (m) (l.length - m) none) := by
        simp only [sliceSlV, boundV_none, boundV_nat hil]
        rw [if_pos hlt2, Nat.zero_add, Nat.mul_one]
      simp [hx, t0, t3, esl]
      refine loop_cut (id := 2) (fun t h2 => ∃ cur, cur = compactL l ++ l.drop (compactL l).length ∧ (t 0 = .sl j (l.length) 0 l.length none ∧ t 3 = .int .i64 ((compactL l).length : Nat)) ∧ (compactL l).length < l.length ∧ h2 = h'.set j (.grow 1 (cur.map cX).flatten)) (fun R hR => ?_) ?_
      · refine loop_up (fun k2 t h2 => ∃ cur tt, tt = (compactL (l.take (m + 1 + k2))).length ∧ cur = compactL (l.take (m + 1 + k2)) ++ l.drop tt ∧ tt < m + 1 + k2 ∧ m + 1 + k2 ≤ l.length ∧ (t 0 = .sl j (l.length) 0 l.length none ∧ t 3 = .int .i64 (tt : Nat) ∧ t 4 = .sl j (l.length) (m) (l.length - m) none ∧ t 5 = .int .i64 ((k2 + 1 : Nat) : Int)) ∧ h2 = h'.set j (.grow 1 (cur.map cX).flatten)) (l.length - m - 1) ?_ ?_
        · have ec : compactL (l.take (m + 1)) = l.take m := by rw [compact_at l (by omega) hlt2, if_pos hx.symm, hci]
          refine ⟨l, m, by rw [Nat.add_zero, ec, List.length_take]; omega, by rw [Nat.add_zero, ec, List.take_append_drop], by omega, by omega, by simp [t0, t3], ?_⟩
          exact (H.ext' rfl fun i => by rw [H.get_set]; split <;> simp_all)
        · rintro k2 t h2 hk2 ⟨cur, tt, htt, hcur, htm, hml, ⟨u0, u3, u4, u5⟩, rfl⟩ K hK
          obtain ⟨m2, hm2⟩ : ∃ m2, m2 = m + 1 + k2 := ⟨_, rfl⟩
          rw [← hm2] at htt hcur htm hml
          have hcl : cur.length = l.length := by rw [hcur, List.length_append, List.length_drop, ← htt]; omega
          obtain ⟨h2, hh2⟩ : ∃ h2, h2 = h'.set j (.grow 1 (cur.map cX).flatten) := ⟨_, rfl⟩
          have hgj : h2.get j = some (.grow 1 (cur.map cX).flatten) := by rw [hh2]; simp
          rw [← hh2]
          by_cases hlt3 : m2 < l.length
          · have cA : ∀ x (hx1 : x < cur.length), tt ≤ x → cur[x]'hx1 = l[x]'(by omega) := fun x hx1 hx2 => by
              subst hcur
              rw [List.getElem_append_right (by omega), List.getElem_drop]
              congr 1; omega
            have sp := slsc_part cX_len hgj (by omega) m (by omega)
            rw [hcl] at sp
            simp only [Nat.mul_one] at sp
            obtain ⟨p, qq, o, cs, e1, e2, e3⟩ := sp.at1 (f := fun x : Nat => V.int .u64 x) (k := k2 + 1) (by simp; omega)
            obtain ⟨p', qq', o', cs', b1, b2, b3⟩ := sp.at1 (f := fun x : Nat => V.int .u64 x) (k := k2) (by simp; omega)
            have e4' : cs[o]? = some (.int .u64 (l[m2] : Nat)) := by
              rw [e3]; simp only [List.getElem_drop]
              rw [cA _ (by omega) (by omega)]; simp only [show m + (k2 + 1) = m2 by omega]
            have b4' : cs'[o']? = some (.int .u64 (l[m2 - 1] : Nat)) := by
              rw [b3]; simp only [List.getElem_drop]
              rw [cA _ (by omega) (by omega)]; simp only [show m + k2 = m2 - 1 by omega]
            have e1' := e1 .i64
            have b1' := b1 .i64
            have hc1 : ((k2 + 1 : Nat) : Int) < ((l.length - m : Nat) : Int) := by omega
            have w1 : IntKind.i64.wrap (((k2 + 1 : Nat) : Int) - 1) = (k2 : Int) := by rw [wrap_i64_id (by omega) (by omega)]; omega
            have w2 : IntKind.i64.wrap (((k2 + 1 : Nat) : Int) + 1) = ((k2 + 1 + 1 : Nat) : Int) := by rw [wrap_i64_id (by omega) (by omega)]; omega
            obtain ⟨k3, hk3⟩ : ∃ k3, k3 = k2 + 1 := ⟨_, rfl⟩
            rw [← hk3] at u5 hc1 w1 w2 e1'
            obtain ⟨ln, hln⟩ : ∃ ln, ln = l.length - m := ⟨_, rfl⟩
            rw [← hln] at u4 hc1 e1' b1'
            have hc2 : k3 < ln := by omega
            simp [u4, u5, hc2]
            refine dreg_of ?_
            clear e3 b3
            simp [u4, u5, e1', e2, e4', w1, b1', b2, b4']
            by_cases hy : l[m2] = l[m2 - 1]
            · simp [hy, u5, w2]
              refine hK _ _ (by omega) ⟨cur, tt, ?_, ?_, by omega, by omega, ?_, by rw [hh2]⟩
              · rw [show m + 1 + (k2 + 1) = m2 + 1 by omega, compact_at l (by omega) hlt3, if_pos hy.symm, htt]
              · rw [show m + 1 + (k2 + 1) = m2 + 1 by omega, compact_at l (by omega) hlt3, if_pos hy.symm, hcur]
              · simp [u0, u3, u4, hk3, hln]
            · have hy2 : ((l[m2] : Int) != (l[m2 - 1] : Int)) = true := bne_iff_ne.2 (by omega)
              have htl : tt < l.length := by omega
              have hcs : (V.int .u64 (l[m2] : Nat)).cells = cX l[m2] := rfl
              have hso : (V.int .u64 (l[m2] : Nat)).solid = true := rfl
              have hnl : (cX l[m2]).length = 1 := rfl
              have hfl : (cur.map cX).flatten.length = l.length := by rw [flat_len (map_lenc cX_len cur)]; simp [hcl]
              have hput : O.put (.grow 1 (cur.map cX).flatten) (tt) (cX l[m2]) = some (.grow 1 ((cur.set tt l[m2]).map cX).flatten) := by
                simp only [O.put, hfl, hnl]
                rw [if_pos (by omega), ← flatc_set cX_len cur tt _ (by omega), Nat.mul_one]
              have w3 : IntKind.i64.wrap ((tt : Int) + 1) = ((tt + 1 : Nat) : Int) := by rw [wrap_i64_id (by omega) (by omega)]; omega
              have hst : storeV h2.get 1 (.ptr j (l.length) (tt)) (.int .u64 (l[m2] : Nat)) = some (.set j (.grow 1 ((cur.set tt l[m2]).map cX).flatten)) := by
                rw [storeV_ptr, hcs, hso, hnl, hgj]
                simp only [Bool.true_and, beq_self_eq_true, if_true, Option.bind_some]
                rw [if_pos (by simp only [O.len, O.cells]; exact hfl), hput]; rfl
              simp [-storeV_ptr, hy2, u0, u3, u4, u5, e1', e2, e4', htl, hst, w3, w2]
              have hset : compactL (l.take (m + 1 + (k2 + 1))) = compactL (l.take m2) ++ [l[m2]] := by
                rw [show m + 1 + (k2 + 1) = m2 + 1 by omega, compact_at l (by omega) hlt3, if_neg (fun e => hy e.symm)]
              refine hK _ _ (by omega) ⟨cur.set tt l[m2], tt + 1, ?_, ?_, by omega, by omega, ?_, by rw [hh2, H.set_set, List.map_set]⟩
              · rw [hset, List.length_append, ← htt]; rfl
              · rw [hset, hcur, List.set_append_right _ _ (by omega), ← htt, Nat.sub_self, List.drop_eq_getElem_cons htl, List.set_cons_zero, List.append_assoc]; rfl
              · simp [u0, u4, hk3, hln]
          · have hml2 : m2 = l.length := by omega
            have hle : l.take m2 = l := List.take_of_length_le (by omega)
            rw [hle] at htt hcur
            have hc1 : ¬ ((k2 + 1 : Nat) : Int) < ((l.length - m : Nat) : Int) := by omega
            obtain ⟨k3, hk3⟩ : ∃ k3, k3 = k2 + 1 := ⟨_, rfl⟩
            obtain ⟨ln, hln⟩ : ∃ ln, ln = l.length - m := ⟨_, rfl⟩
            rw [← hk3] at u5 hc1
            rw [← hln] at u4 hc1
            have hc2 : ¬ k3 < ln := by omega
            simp [u4, u5, hc2]
            refine hR _ _ ⟨cur, by rw [hcur, htt], by simp [u0, u3, htt], by rw [htt] at htm; omega, hh2⟩
      · rintro t h2 ⟨cur, hcur, ⟨u0, u3⟩, htl, rfl⟩
        obtain ⟨tt, htt⟩ : ∃ tt, tt = (compactL l).length := ⟨_, rfl⟩
        rw [← htt] at hcur u3 htl
        have hcl : cur.length = l.length := by rw [hcur, List.length_append, List.length_drop, ← htt]; omega
        have hfl : (cur.map cX).flatten.length = l.length := by rw [flat_len (map_lenc cX_len cur)]; simp [hcl]
        have s1 : sliceSlV 1 (some (.int .i64 (tt : Int))) none none (.sl j (l.length) 0 l.length none) = some (.sl j (l.length) (tt) (l.length - tt) none) := by
          simp only [sliceSlV, boundV_none, boundV_nat (show tt ≤ l.length by omega)]
          rw [if_pos htl, Nat.zero_add, Nat.mul_one]
        have s2 : sliceSlV 1 none (some (.int .i64 (tt : Int))) none (.sl j (l.length) 0 l.length none) = some (.sl j (l.length) 0 tt none) := by
          simp only [sliceSlV, boundV_none, boundV_nat (show tt ≤ l.length by omega)]
          rw [if_pos hpos]; simp
        obtain ⟨h2, hh2⟩ : ∃ h2, h2 = h'.set j (.grow 1 (cur.map cX).flatten) := ⟨_, rfl⟩
        have hgj : h2.get j = some (.grow 1 (cur.map cX).flatten) := by rw [hh2]; simp
        rw [← hh2]
        obtain ⟨zs, hzs⟩ : ∃ zs, zs = repCells (l.length - tt) [V.int .u64 0] := ⟨_, rfl⟩
        have hzl : zs.length = (l.length - tt) := by rw [hzs]; unfold repCells; simp
        obtain ⟨pc, hpc⟩ : ∃ pc, pc = putCells (cur.map cX).flatten (tt) zs := ⟨_, rfl⟩
        have hclr : clearSlV h2.get [V.int .u64 0] (.sl j (l.length) (tt) (l.length - tt) none) = some (.set j (.grow 1 pc)) := by
          rw [hpc]
          unfold clearSlV
          simp only
          rw [if_neg (by omega), hgj]
          simp only [len_grow]
          rw [if_pos hfl, put_grow, ← hzs, if_pos (by rw [hzl, hfl]; omega)]; rfl
        simp [u0, u3, s1, s2, hclr]
        have w2 : h2.WF := by rw [hh2]; exact wf.set hlt _
        have hpl : pc.length = l.length := by rw [hpc, put_len _ _ _ (by rw [hzl, hfl]; omega), hfl]
        have hct : cur.take tt = compactL l := by rw [hcur, List.take_append_of_le_length (by omega), List.take_of_length_le (by omega)]
        have hpt : pc.take (tt) = ((compactL l).map cX).flatten := by
          rw [hpc]
          unfold putCells
          rw [List.append_assoc, List.take_append_of_le_length (by rw [List.length_take, hfl]; omega), List.take_take, Nat.min_self, ← Nat.mul_one tt, ← flat_take (map_lenc cX_len cur), ← List.map_take, hct]
        refine q _ _ (fun i hi => by rw [H.get_set, if_neg hi, hh2, H.get_set, if_neg hi]) (by rw [hh2]; simp) (w2.set (by rw [hh2]; simpa using hlt) _) ⟨.inr ⟨j, l.length, 0, none, by simp [htt]⟩, map_lenc cX_len _, ?_, by simp; omega⟩ trivial ⟨pc, by simp, hpl⟩ (by rw [htt])
        rw [elemsV_sl]
        split
        · rename_i h0
          have : compactL l = [] := List.eq_nil_of_length_eq_zero (by omega)
          rw [this]; rfl
        · rw [cellsAt_of (by rw [H.get_set, if_pos rfl]) (by rw [len_grow]; exact hpl)]
          simp only [cells_grow, Nat.zero_add, List.drop_zero]
          rw [if_pos (by rw [hpl]; omega), Nat.mul_one, hpt]
          simp [htt]
    · have hx2 : ((l[m] : Int) == (l[m - 1] : Int)) = false := beq_eq_false_iff_ne.2 (by omega)
      have w1 : IntKind.i64.wrap ((m : Int) + 1) = ((m + 1 : Nat) : Int) := by rw [wrap_i64_id (by omega) (by omega)]; omega
      simp [hx2, t3, w1]
      refine hK _ _ (by omega) ⟨?_, rfl, by omega, ?_⟩
      · first | (simp [t0, hm]; done) | (simp [t0]; omega)
      rw [← hm, compact_at l (by omega) hlt2, if_neg (fun e => hx e.symm), hci, List.take_add_one, List.getElem?_eq_getElem hlt2]; rfl
  · have hmm : m = l.length := by omega
    have hle : l.take m = l := List.take_of_length_le (by omega)
    rw [hle] at hci
    simp [t0, t3, hlt2]
    exact q _ _ (fun _ _ => rfl) rfl wf (by rw [hci]; exact s0) trivial ⟨_, hg, hf0⟩ (by rw [hci])
end Go.Am

namespace Go.Am
open Go.Proofs

set_option maxRecDepth 100000
theorem Fc.appends {h : H} {lo sz : Nat} (bytes : Nat) {v x : V} {es xs : List (List V)} (f : Fc h lo sz v es) (hlo : lo ≤ h.next) (hs : ∀ a ∈ es, a.length = sz) (hx : Sls h.get sz x xs) (h1 : ∀ e ∈ xs, e.all V.one = true) (hsz : sz ≠ 0)
    (hb : (es.length + xs.length) * bytes ≤ 140737488355328) (hb2 : es.length + xs.length ≤ 9223372036854775807) :
    ∃ v' d, appendV h.get h.next sz bytes v x = some (v', d) ∧ Fc (h.app d) lo sz v' (es ++ xs) ∧ h.next ≤ (h.app d).next ∧ (∀ i, i ∉ v.ids → i < h.next → (h.app d).get i = h.get i) ∧ (h.WF → (h.app d).WF) ∧ (∀ i, i < h.next → (es = [] ∨ h.get i ≠ some (.grow sz es.flatten)) → (h.app d).get i = h.get i) := by
  have fromGl : Gl h lo sz v es → ∃ v' d, appendV h.get h.next sz bytes v x = some (v', d) ∧ Fc (h.app d) lo sz v' (es ++ xs) ∧ h.next ≤ (h.app d).next ∧ (∀ i, i ∉ v.ids → i < h.next → (h.app d).get i = h.get i) ∧ (h.WF → (h.app d).WF) ∧ (∀ i, i < h.next → (es = [] ∨ h.get i ≠ some (.grow sz es.flatten)) → (h.app d).get i = h.get i) := fun g => by
    obtain ⟨v', d, ea, gl, hn, hk, hw, hid⟩ := g.appends (bytes := bytes) hlo hs hx h1 hsz hb hb2
    refine ⟨v', d, ea, gl.fr, hn, hk, hw, fun i hi ho => hk i (fun hv => ?_) hi⟩
    rcases g with ⟨e1, e2⟩ | ⟨hne, j, g1, g2, e2, g3⟩
    · rw [e2] at hv; simp [V.ids] at hv
    · rw [e2] at hv; simp [V.ids] at hv
      subst hv
      rcases ho with ho | ho
      · exact hne ho
      · exact ho g3
  rcases f with ⟨rfl, rfl | ⟨k, hk, rfl⟩⟩ | ⟨_, g⟩
  · exact fromGl (Gl.nil _ _ _)
  · by_cases h0 : xs.length = 0
    · have e0 : xs = [] := List.eq_nil_of_length_eq_zero h0
      subst e0
      have a0 := ap_none (next := h.next) (bytes := bytes) (k := k) hx.read
      exact ⟨_, _, a0, .inl ⟨rfl, .inr ⟨k, hk, rfl⟩⟩, Nat.le_refl _, fun _ _ _ => rfl, id, fun _ _ _ => rfl⟩
    · have hne : xs ≠ [] := fun e => h0 (by rw [e]; rfl)
      have ones : xs.flatten.all V.one = true := by rw [List.all_flatten]; exact List.all_eq_true.2 h1
      have a0 := ap_room (next := h.next) (bytes := bytes) (k := k) hx.read h0 ones hsz (by simpa using hb) (by simp at hb2; omega)
      refine ⟨_, _, a0, ?_, by simp, fun i _ hi => ?_, fun w => w.push _, fun i hi _ => ?_⟩
      · refine .inr ⟨by simpa using hne, .inr ⟨by simpa using hne, h.next, hlo, by simp, ?_, by simp⟩⟩
        rw [List.nil_append, flat_len hx.size]
      · rw [app_push, H.get_push, if_neg (by omega)]
      · rw [app_push, H.get_push, if_neg (by omega)]
  · exact fromGl g
theorem sort0_ct {h : H} {v : V} (hv : v = .nilsl ∨ ∃ k, v = .sl k 0 0 0 (some 0)) : Pure Tryz.prog 28 [v] h (.tup []) := by
  refine pure_to Tryz.func28 S.slices_Sort_uint64_uint64_code S.slices_Sort_uint64_uint64_enter rfl (Nat.le_of_ble_eq_true rfl) fun wf => ?_; simp only [S.slices_Sort_uint64_uint64]
  have hl : ∀ g, lenV 1 g v = some (.int .i64 0) := fun g => by rcases hv with rfl | ⟨_, rfl⟩ <;> rfl
  obtain ⟨k, hk, hbl⟩ := bitlen_ct (h := h) (n := 0) (by omega)
  have wu : IntKind.u64.wrap 0 = 0 := by decide
  have w1 : IntKind.i64.wrap 1 = 1 := by decide
  have w0 : IntKind.i64.wrap 0 = 0 := by decide
  simp [wu, hl]
  refine hbl _ _ ?_
  simp
  refine (show Pure Tryz.prog 53 [v, .int .i64 0, .int .i64 0, .int .i64 (k : Nat)] h (.tup []) from ?_) _ ?_
  · refine pure_to Tryz.func53 S.slices_pdqsortOrdered_uint64_code S.slices_pdqsortOrdered_uint64_enter rfl (Nat.le_of_ble_eq_true rfl) fun wf => ?_; simp only [S.slices_pdqsortOrdered_uint64]
    simp
    refine loop_up (fun i t h' => (t 0 = v ∧ t 1 = .int .i64 0 ∧ t 2 = .int .i64 0) ∧ h' = h) 0 ⟨by simp, rfl⟩ ?_
    rintro i t h' hi ⟨⟨t0, t1, t2⟩, rfl⟩ K hK
    simp [t0, t1, t2, w0]
    refine (show Pure Tryz.prog 86 [v, .int .i64 0, .int .i64 0] h' (.tup []) from ?_) _ ?_
    · refine pure_to Tryz.func86 S.slices_insertionSortOrdered_uint64_code S.slices_insertionSortOrdered_uint64_enter rfl (Nat.le_of_ble_eq_true rfl) fun wf => ?_; simp only [S.slices_insertionSortOrdered_uint64]
      simp [w1]
      refine loop_up (fun i t g => (t 2 = .int .i64 0 ∧ t 6 = .int .i64 1) ∧ g = h') 0 ⟨by simp, rfl⟩ ?_
      rintro i t g hi ⟨⟨t2, t6⟩, rfl⟩ K hK
      simp [t2, t6]
    · simp
  · simp
theorem comp0_ct {h : H} {v : V} (hv : v = .nilsl ∨ ∃ k, v = .sl k 0 0 0 (some 0)) {Q : V → H → Prop} (q : Q v h) : Acalls Tryz.prog 29 [v] h Q := by
  refine acalls_to Tryz.func29 S.slices_Compact_uint64_uint64_code S.slices_Compact_uint64_uint64_enter (Nat.le_of_ble_eq_true rfl) fun wf => ?_; simp only [S.slices_Compact_uint64_uint64]
  have hl : ∀ g, lenV 1 g v = some (.int .i64 0) := fun g => by rcases hv with rfl | ⟨_, rfl⟩ <;> rfl
  simp [hl]
  exact q
def famT (f : Int) : Int := if f = 1 then 4 else if f = 2 then 5 else if f = 4 then 1 else if f = 5 then 2 else 0
def movedP (p : Pth) (rd label : Nat) (name : List UInt8) : Pth := ⟨⟨⟨famT p.n.p.fam, rd, p.n.p.addr, p.n.p.len⟩, p.n.id, label⟩, p.att, ⟨p.src.kind, p.src.peer, p.src.asn, p.src.sid, p.src.addr, name⟩, p.stale⟩
def pathZ : List V := [.int .i64 0, .int .u64 0, .str [], .int .i64 0, .int .u32 0, .int .u32 0, .int .i64 0, .nilsl, .str [], .bool false, .int .u32 0, .bool false, .int .u32 0, .bool false, .int .u32 0, .int .u32 0, .nilsl, .nilsl, .nilsl, .bool false, .int .u32 0, .nilsl, .int .i64 0, .str [], .int .u32 0, .int .u32 0, .str [], .str [], .bool false]
theorem famP_ct {h : H} {Q : V → H → Prop} (q : Q (.agg [.int .i64 0, .int .i64 4, .int .i64 5, .int .i64 0, .int .i64 1, .int .i64 2]) h) : Acalls Tryz.prog 52 [] h Q := by
  refine (show Pure Tryz.prog 52 [] h (.agg [.int .i64 0, .int .i64 4, .int .i64 5, .int .i64 0, .int .i64 1, .int .i64 2]) from ?_) _ q
  refine pure_to Tryz.func52 S.vrf_families_code S.vrf_families_enter rfl (Nat.le_of_ble_eq_true rfl) fun wf => ?_; simp only [S.vrf_families]
  simp
theorem move_ct {h : H} {p : Pth} {vp vc vx vl vk : V} (A : AttAt h.get p.att vp vc vx vl vk) (z : AttSz p.att) (hf : 0 ≤ p.n.p.fam ∧ p.n.p.fam < 6) {rd label : Nat} {name : List UInt8} {Q : V → H → Prop}
    (q : ∀ wp wc wx wl wk h', Ge h h' → h'.WF → AttFr h' h.next p.att wp wc wx wl wk → Q (.agg (pathC (movedP p rd label name) wp wc wx wl wk)) h') : Acalls Tryz.prog 27 [.agg (pathC p vp vc vx vl vk), .int .u64 (rd : Nat), .int .u32 (label : Nat), .str name] h Q := by
  refine acalls_to Tryz.func27 S.vrf_move_code S.vrf_move_enter (Nat.le_of_ble_eq_true rfl) fun wf => ?_; simp only [S.vrf_move]
  obtain ⟨es, P⟩ := A.path
  have o1 := P.sls.one
  have o2 := A.comms.one
  have o3 := A.exts.one
  have o4 := A.larges.one
  have o5 := A.clus.one
  obtain ⟨h2, hh2⟩ : ∃ h2, h2 = ((h.push (.row (pathC p vp vc vx vl vk))).push (.row pathZ)).push (.row (pathC p vp vc vx vl vk)) := ⟨_, rfl⟩
  have g2 : Ge h h2 := by rw [hh2]; exact (((Ge.refl _).push _).push _).push _
  have w2 : h2.WF := by rw [hh2]; exact ((wf.push _).push _).push _
  have n2 : h2.next = h.next + 3 := by rw [hh2]; simp
  have b0 : h2.get h.next = some (.row (pathC p vp vc vx vl vk)) := by rw [hh2]; simp
  have b1 : h2.get (h.next + 1) = some (.row pathZ) := by rw [hh2]; simp
  have b2 : h2.get (h.next + 2) = some (.row (pathC p vp vc vx vl vk)) := by rw [hh2]; simp
  have A2 := A.ge wf g2
  have cc : ∀ Q : V → H → Prop, (∀ wp wc wx wl wk h', Ge h2 h' → h'.WF → AttFr h' h2.next p.att wp wc wx wl wk → Q (.agg (attC p.att wp wc wx wl wk)) h') → Acalls Tryz.prog 51 [.agg (attC p.att vp vc vx vl vk)] h2 Q := fun Q q => acopy_ct A2 z q
  simp only [attC] at cc
  have c0 : cellsAt h2.get h.next 29 = some (pathC p vp vc vx vl vk) := (cellsAt_of (n := 29) b0 rfl).trans rfl
  simp only [pathC, pathZ] at hh2 c0
  have n01 : ¬ h.next = h.next + 1 := by omega
  have n02 : ¬ h.next = h.next + 1 + 1 := by omega
  have n12 : ¬ h.next + 1 = h.next + 1 + 1 := by omega
  simp [pathC, o1, o2, o3, o4, o5, n02]
  have z2 : (((h.push (.row (pathC p vp vc vx vl vk))).push (.row pathZ)).push (.row pathZ)).set (h.next + 1 + 1) (.row (pathC p vp vc vx vl vk)) = h2 := by
    rw [hh2]
    exact push_set_last _ _ _ (by simp)
  simp only [pathC, pathZ] at z2
  rw [z2]
  refine cc _ fun wp wc wx wl wk h3 g3 w3 f3 => ?_
  obtain ⟨u1, u2, u3, u4, u5⟩ := f3.one
  have l3 := g3.1
  have b30 : h3.get h.next = some (.row (pathC p vp vc vx vl vk)) := (g3.2 _ (by omega)).trans b0
  have b31 : h3.get (h.next + 1) = some (.row pathZ) := (g3.2 _ (by omega)).trans b1
  have b32 : h3.get (h.next + 1 + 1) = some (.row (pathC p vp vc vx vl vk)) := (g3.2 _ (by omega)).trans b2
  simp only [pathC, pathZ] at b30 b31 b32
  simp [b32, u1, u2, u3, u4, u5]
  obtain ⟨h4, hh4⟩ : ∃ h4, h4 = h3.set (h.next + 1 + 1) (.row (pathC p wp wc wx wl wk)) := ⟨_, rfl⟩
  have k4 : ∀ x, x ≠ h.next + 1 + 1 → h4.get x = h3.get x := fun x hx => by rw [hh4, H.get_set, if_neg hx]
  have n4 : h4.next = h3.next := by rw [hh4]; simp
  have w4 : h4.WF := by rw [hh4]; exact w3.set (by omega) _
  have b40 : h4.get h.next = some (.row (pathC p vp vc vx vl vk)) := by rw [k4 _ (by omega)]; simpa [pathC] using b30
  have b41 : h4.get (h.next + 1) = some (.row pathZ) := by rw [k4 _ (by omega)]; simpa [pathZ] using b31
  have b42 : h4.get (h.next + 1 + 1) = some (.row (pathC p wp wc wx wl wk)) := by rw [hh4]; simp
  simp only [pathC] at hh4 b40 b42
  simp only [pathZ] at b41
  have c40 : cellsAt h4.get h.next 29 = some (pathC p vp vc vx vl vk) := (cellsAt_of (n := 29) b40 rfl).trans rfl
  simp only [pathC] at c40
  rw [← hh4]
  refine dreg_awp [h.next] [1, 0, 0, 2, 0, 0, 0, 0, 0] rfl (by rfl) ?_
  simp
  refine acall_of (v := .agg [.int .i64 0, .int .i64 4, .int .i64 5, .int .i64 0, .int .i64 1, .int .i64 2]) (h' := h4) (fun Q q => famP_ct q) (by decide) (fun _ => Keep.refl _ _) ?_
  have fx : (if 0 ≤ p.n.p.fam ∧ p.n.p.fam < 6 then [V.int .i64 0, V.int .i64 4, V.int .i64 5, V.int .i64 0, V.int .i64 1, V.int .i64 2][p.n.p.fam.toNat]? else none) = some (.int .i64 (famT p.n.p.fam)) := by
    rw [if_pos hf]
    rcases (by omega : p.n.p.fam = 0 ∨ p.n.p.fam = 1 ∨ p.n.p.fam = 2 ∨ p.n.p.fam = 3 ∨ p.n.p.fam = 4 ∨ p.n.p.fam = 5) with e | e | e | e | e | e <;> rw [e] <;> rfl
  simp [c40, I.foot, refOf, fx, b42, b41, u1, u2, u3, u4, u5]
  obtain ⟨hF, hhF⟩ : ∃ hF, hF = (h4.set (h.next + 1 + 1) (.row (pathC (movedP p rd label name) wp wc wx wl wk))).set (h.next + 1) (.row (pathC (movedP p rd label name) wp wc wx wl wk)) := ⟨_, rfl⟩
  have gF : Ge h hF := by
    rw [hhF]
    refine Ge.set (Ge.set ⟨by omega, fun x hx => ?_⟩ (by omega) _) (by omega) _
    rw [k4 x (by omega), g3.2 x (by omega), g2.2 x hx]
  have wF : hF.WF := by rw [hhF]; exact (w4.set (by omega) _).set (by simp; omega) _
  have kF : ∀ x, h2.next ≤ x → hF.get x = h3.get x := fun x hx => by rw [hhF, H.get_set, if_neg (by omega), H.get_set, if_neg (by omega), k4 x (by omega)]
  have fF : AttFr hF h.next p.att wp wc wx wl wk := (f3.keep3 (Nat.le_refl _) ⟨by rw [hhF]; simp; omega, fun i sz cs hl _ e => by rw [kF i hl]; exact e⟩).le (by omega)
  have hq := q wp wc wx wl wk hF gF wF fF
  rw [hhF] at hq
  simpa [pathC, movedP] using hq
theorem Fc.turn {h h' : H} {lo sz : Nat} {v : V} {es : List (List V)} {o : O} (f : Fc h lo sz v es) (hn : h.next ≤ h'.next) (k : ∀ i, i < h.next → h.get i ≠ some o → h'.get i = h.get i) (ho : o ≠ .grow sz es.flatten) : Fc h' lo sz v es := by
  rcases f with h1 | ⟨hes, h1 | ⟨h1, i, h2, h3, h4, h5⟩⟩
  · exact .inl h1
  · exact .inr ⟨hes, .inl h1⟩
  · refine .inr ⟨hes, .inr ⟨h1, i, h2, by omega, h4, ?_⟩⟩
    rw [k i h3 (fun e => by rw [h5, Option.some.injEq] at e; exact ho e.symm)]; exact h5
theorem cX_ne_cP {m l : List Nat} (hm : m ≠ []) : O.grow 1 (m.map cX).flatten ≠ O.grow 1 (l.map cP).flatten := by
  intro e
  injection e with _ e
  match m, hm with
  | a :: m, _ =>
    cases l with
    | nil => simp [cX] at e
    | cons b l => simp [cX, cP] at e
def AttR (h : H) (lo : Nat) (a : Att) (vp vc vl vk : V) : Prop := PathFr h lo vp a.path ∧ Fc h lo 1 vc (a.comms.map cP) ∧ Fc h lo 3 vl (a.larges.map cL) ∧ Fc h lo 1 vk (a.clus.map cP)
theorem AttFr.rest {h : H} {lo : Nat} {a : Att} {vp vc vx vl vk : V} (f : AttFr h lo a vp vc vx vl vk) : AttR h lo a vp vc vl vk := ⟨f.path, f.comms, f.larges, f.clus⟩
def Apart (o : O) : Prop := (∀ l : List Nat, o ≠ .grow 1 (l.map cP).flatten) ∧ ∀ sz cs, sz ≠ 1 → sz ≤ 3 → o ≠ .grow sz cs
theorem apart_row (r : List V) : Apart (.row r) := ⟨fun _ => by simp, fun _ _ _ _ => by simp⟩
theorem apart_x {m : List Nat} (hm : m ≠ []) : Apart (.grow 1 (m.map cX).flatten) := ⟨fun _ => cX_ne_cP hm, fun _ _ h _ e => by injection e with e _; omega⟩
theorem AttR.turn {h h' : H} {lo : Nat} {a : Att} {vp vc vl vk : V} (f : AttR h lo a vp vc vl vk) {o : O} (ho : Apart o) (hn : h.next ≤ h'.next) (k : ∀ i, i < h.next → h.get i ≠ some o → h'.get i = h.get i) : AttR h' lo a vp vc vl vk := by
  obtain ⟨⟨es, f1, f2, f3⟩, f4, f5, f6⟩ := f
  exact ⟨⟨es, f1.turn hn k (ho.2 _ _ (by decide) (by decide)), f2, fun i s hi => by obtain ⟨w, e, g⟩ := f3 i s hi; exact ⟨w, e, g.turn hn k (ho.1 _)⟩⟩, f4.turn hn k (ho.1 _), f5.turn hn k (ho.2 _ _ (by decide) (by decide)), f6.turn hn k (ho.1 _)⟩
def withX (a : Att) (l : List Nat) : Att := ⟨a.origin, a.path, a.next, a.hasMed, a.med, a.hasPref, a.pref, a.atomic, a.aggAS, a.aggId, a.comms, l, a.larges, a.hasOrig, a.orig, a.clus⟩
def upOk (v : Vr) (p : Pth) (label : Nat) : Bool := vrfB v && pmayB p && (decide (p.n.p.fam = 1) || decide (p.n.p.fam = 2)) && decide (16 ≤ label) && decide (label ≤ 1048575)
def upX (v : Vr) (p : Pth) : List Nat := putsL oN (p.att.exts ++ v.exp)
def upP (v : Vr) (p : Pth) (label : Nat) : Pth := ⟨⟨⟨famT p.n.p.fam, v.rd, p.n.p.addr, p.n.p.len⟩, p.n.id, label⟩, withX p.att (upX v p), ⟨p.src.kind, p.src.peer, p.src.asn, p.src.sid, p.src.addr, v.name⟩, p.stale⟩
theorem sortX_ct {h : H} {lo : Nat} {v : V} {l : List Nat} (f : Fc h lo 1 v (l.map cX)) (hl : l.length ≤ 900000) {Q : V → H → Prop}
    (q : ∀ h', h'.WF → h'.next = h.next → (∀ i, i < h.next → (l = [] ∨ h.get i ≠ some (.grow 1 (l.map cX).flatten)) → h'.get i = h.get i) → (∀ i, i < lo → h'.get i = h.get i) → ((l = [] ∧ h' = h) ∨ ∃ (j : Nat) (l' : List Nat), lo ≤ j ∧ l ≠ [] ∧ v = .sl j l.length 0 l.length none ∧ h'.get j = some (.grow 1 (l'.map cX).flatten) ∧ l'.Perm l ∧ l'.Pairwise (fun x y => ¬ y < x)) → Q (.tup []) h') : h.WF → Acalls Tryz.prog 28 [v] h Q := fun w => by
  rcases f with ⟨e1, e2⟩ | ⟨hne, e | ⟨_, j, j1, j2, j3, j4⟩⟩
  · have hl0 : l = [] := by simpa using e1
    exact sort0_ct (e2.imp id fun ⟨k, _, e⟩ => ⟨k, e⟩) _ (q h w rfl (fun _ _ _ => rfl) (fun _ _ => rfl) (.inl ⟨hl0, rfl⟩))
  · exact absurd e.1 hne
  · have hln : l ≠ [] := by simpa using hne
    have hfl : (l.map cX).flatten.length = l.length := by rw [flat_len (attx_len l)]; simp
    rw [hfl] at j3
    simp only [List.length_map] at j3
    subst j3
    refine sortU_ct j4 hl fun l' hp hs => q _ (w.set j2 _) (by simp) (fun i hi ho => ?_) (fun i hi => by rw [H.get_set, if_neg (by omega)]) (.inr ⟨j, l', j1, hln, rfl, by simp, hp, hs⟩)
    rw [H.get_set, if_neg (fun e => by subst e; rcases ho with ho | ho; exact hln ho; exact ho j4)]
def ExAt (h : H) (lo : Nat) (v : V) (l : List Nat) : Prop := Sls h.get 1 v (l.map cX) ∧ ((l = [] ∧ (v = .nilsl ∨ ∃ k, lo ≤ k ∧ v = .sl k 0 0 0 (some 0))) ∨ ∃ (j n : Nat) (cs : List V), lo ≤ j ∧ j < h.next ∧ v = .sl j n 0 l.length none ∧ h.get j = some (.grow 1 cs) ∧ cs.length = n)
theorem ExAt.keep {h h' : H} {lo : Nat} {v : V} {l : List Nat} (e : ExAt h lo v l) {r : List V} (hn : h.next ≤ h'.next) (k : ∀ i, i < h.next → h.get i ≠ some (.row r) → h'.get i = h.get i) : ExAt h' lo v l := by
  obtain ⟨s, e1 | ⟨j, n, cs, a, b, c, d, f⟩⟩ := e
  · refine ⟨?_, .inl e1⟩
    obtain ⟨rfl, rfl | ⟨k2, _, rfl⟩⟩ := e1
    · exact ⟨.inl ⟨rfl, .inl rfl⟩, by simp, rfl, by simp⟩
    · exact ⟨.inr ⟨_, _, _, _, rfl⟩, by simp, by simp [elemsV_sl], by simp⟩
  · have hk : h'.get j = h.get j := k j b (by rw [d]; simp)
    refine ⟨⟨s.kind, s.size, ?_, s.bound⟩, .inr ⟨j, n, cs, a, by omega, c, hk.trans d, f⟩⟩
    have hr := s.read
    rw [c, elemsV_sl] at hr ⊢
    unfold cellsAt at hr ⊢
    rw [hk]; exact hr
theorem ExAt.ge {h h' : H} {lo : Nat} {v : V} {l : List Nat} (e : ExAt h lo v l) (g : Ge h h') : ExAt h' lo v l := e.keep (r := []) g.1 fun i hi _ => g.2 i hi
theorem AttR.ge {h h' : H} {lo : Nat} {a : Att} {vp vc vl vk : V} (f : AttR h lo a vp vc vl vk) (g : Ge h h') : AttR h' lo a vp vc vl vk := f.turn (apart_row []) g.1 fun i hi _ => g.2 i hi
theorem AttR.le {h : H} {lo lo' : Nat} {a : Att} {vp vc vl vk : V} (f : AttR h lo a vp vc vl vk) (hl : lo' ≤ lo) : AttR h lo' a vp vc vl vk := ⟨f.1.le hl, f.2.1.le hl, f.2.2.1.le hl, f.2.2.2.le hl⟩
theorem ExAt.le {h : H} {lo lo' : Nat} {v : V} {l : List Nat} (e : ExAt h lo v l) (hl : lo' ≤ lo) : ExAt h lo' v l :=
  ⟨e.1, e.2.imp (fun ⟨a, b⟩ => ⟨a, b.imp id fun ⟨k, c, d⟩ => ⟨k, by omega, d⟩⟩) fun ⟨j, n, cs, a, b⟩ => ⟨j, n, cs, by omega, b⟩⟩
theorem AttR.at {h : H} {lo : Nat} {a : Att} {vp vc vx vl vk : V} (f : AttR h lo a vp vc vl vk) (z : AttSz a) {l : List Nat} (e : Sls h.get 1 vx (l.map cX)) : AttAt h.get (withX a l) vp vc vx vl vk :=
  ⟨f.1.at z.path z.segs, f.2.1.sls (atts_len _) (by have := z.comms; simp; omega), e, f.2.2.1.sls (attl_len _) (by have := z.larges; simp; omega), f.2.2.2.sls (atts_len _) (by have := z.clus; simp; omega)⟩
end Go.Am

namespace Go.Am
open Go.Proofs

set_option maxRecDepth 100000
theorem puts_leX : ∀ (l m : List Nat), (l.foldl (putL oN) m).length ≤ m.length + l.length
  | [], m => by simp
  | a :: l, m => by
    rw [List.foldl_cons]
    have h1 := puts_leX l (putL oN m a)
    have h2 := putL_len (c := oN) m a
    simp only [List.length_cons]; omega
theorem neg_lt_iff (x y : Nat) : ¬ y < x ↔ ¬ oN y x < 0 := by rw [cmpN_lt]
theorem up_ct {h : H} {v : Vr} {vi ve : V} {p : Pth} {vp vc vx vl vk : V} (VA : VrAt h.get v vi ve) (ok : VrOk v) (A : AttAt h.get p.att vp vc vx vl vk) (hn : p.src.peer.length ≤ 9223372036854775807) {label : Nat} {Q : V → H → Prop}
    (q1 : upOk v p label = false → ∀ h', Ge h h' → h'.WF → Q (.tup [.agg pathZ, .int .i64 2]) h')
    (q2 : upOk v p label = true → 64 < (upX v p).length → ∀ h', Ge h h' → h'.WF → Q (.tup [.agg pathZ, .int .i64 7]) h')
    (q3 : upOk v p label = true → (upX v p).length ≤ 64 → ∀ wp wc wx wl wk h', Ge h h' → h'.WF → AttR h' h.next p.att wp wc wl wk → ExAt h' h.next wx (upX v p) → Q (.tup [.agg (pathC (upP v p label) wp wc wx wl wk), .int .i64 0]) h') :
    Acalls Tryz.prog 8 [.agg (vrC v vi ve), .agg (pathC p vp vc vx vl vk), .int .u32 (label : Nat)] h Q := by
  refine acalls_to Tryz.func8 S.vrf_Up_code S.vrf_Up_enter (Nat.le_of_ble_eq_true rfl) fun wf => ?_; simp only [S.vrf_Up]
  obtain ⟨es, P⟩ := A.path
  have o1 := P.sls.one
  have o2 := A.comms.one
  have o3 := A.exts.one
  have o4 := A.larges.one
  have o5 := A.clus.one
  have o6 := VA.imp.one
  have o7 := VA.exp.one
  obtain ⟨h2, hh2⟩ : ∃ h2, h2 = ((h.push (.row (vrC v vi ve))).push (.row (pathC p vp vc vx vl vk))).push (.row pathZ) := ⟨_, rfl⟩
  have g2 : Ge h h2 := by rw [hh2]; exact (((Ge.refl _).push _).push _).push _
  have w2 : h2.WF := by rw [hh2]; exact ((wf.push _).push _).push _
  have n2 : h2.next = h.next + 3 := by rw [hh2]; simp
  have b0 : h2.get h.next = some (.row (vrC v vi ve)) := by rw [hh2]; simp [show ¬ h.next = h.next + 1 + 1 by omega]
  have b1 : h2.get (h.next + 1) = some (.row (pathC p vp vc vx vl vk)) := by rw [hh2]; simp
  have b2 : h2.get (h.next + 2) = some (.row pathZ) := by rw [hh2]; simp
  have A2 := A.ge wf g2
  have V2 := VA.ge wf g2
  have vc1 := vrf_ct V2 ok
  have mc1 := vmay_ct A2 hn
  have c0 : cellsAt h2.get h.next 4 = some (vrC v vi ve) := (cellsAt_of (n := 4) b0 rfl).trans rfl
  have c1 : cellsAt h2.get (h.next + 1) 29 = some (pathC p vp vc vx vl vk) := (cellsAt_of (n := 29) b1 rfl).trans rfl
  have n01 : ¬ h.next = h.next + 1 := by omega
  have n02 : ¬ h.next = h.next + 1 + 1 := by omega
  have n12 : ¬ h.next + 1 = h.next + 1 + 1 := by omega
  simp only [vrC] at vc1 c0
  simp only [pathC] at mc1 c1
  simp only [vrC, pathC, pathZ] at hh2
  simp [vrC, pathC, o1, o2, o3, o4, o5, o6, o7, n02]
  rw [← hh2]
  refine vc1 _ ?_
  obtain ⟨bv, hbv⟩ : ∃ b, b = vrfB v := ⟨_, rfl⟩
  obtain ⟨bm, hbm⟩ : ∃ b, b = pmayB p := ⟨_, rfl⟩
  have hu : upOk v p label = (bv && bm && (decide (p.n.p.fam = 1) || decide (p.n.p.fam = 2)) && decide (16 ≤ label) && decide (label ≤ 1048575)) := by rw [hbv, hbm]; rfl
  obtain ⟨u, huu⟩ : ∃ u, u = upOk v p label := ⟨_, rfl⟩
  rw [← hbv]
  rw [← hbm] at mc1
  simp
  refine guard_meet (fun t' h' => (t' 2 = .int .u32 (label : Nat) ∧ t' 3 = .ptr h.next 4 0 ∧ t' 4 = .ptr (h.next + 1) 29 0 ∧ t' 6 = .ptr (h.next + 1 + 1) 29 0 ∧ t' 36 = .bool (!u)) ∧ h' = h2) (fun K' hK' => ?_) ?_
  · rw [huu, hu] at hK'
    cases bv <;> simp only [Bool.false_and, Bool.true_and, Bool.not_false] at hK' <;> simp [c1] <;> (try (exact hK' _ _ ⟨by simp, rfl⟩))
    refine mc1 _ ?_
    cases bm <;> simp only [Bool.false_and, Bool.true_and, Bool.not_false] at hK' <;> simp [c1, neI] <;> (try (exact hK' _ _ ⟨by simp, rfl⟩))
    by_cases k1 : p.n.p.fam = 1 ∨ p.n.p.fam = 2
    · have e1 : (decide (p.n.p.fam = 1) || decide (p.n.p.fam = 2)) = true := by simpa using k1
      rw [e1] at hK'
      have e2 : decide ((label : Int) < 16) = !decide (16 ≤ label) := by by_cases e : 16 ≤ label <;> simp [e] <;> omega
      have e3 : decide ((1048575 : Int) < (label : Int)) = !decide (label ≤ 1048575) := by by_cases e : label ≤ 1048575 <;> simp [e] <;> omega
      obtain ⟨d2, hd2⟩ : ∃ d, d = decide (16 ≤ label) := ⟨_, rfl⟩
      obtain ⟨d3, hd3⟩ : ∃ d, d = decide (label ≤ 1048575) := ⟨_, rfl⟩
      rw [← hd2] at e2 hK'
      rw [← hd3] at e3 hK'
      rcases k1 with k1 | k1
      · simp [k1, e2]
        cases d2 <;> simp only [Bool.and_true, Bool.true_and, Bool.false_and, Bool.and_false, Bool.not_false] at hK' <;> simp [e3]
        · exact hK' _ _ ⟨by simp, rfl⟩
        · exact hK' _ _ ⟨by simp, rfl⟩
      · simp [k1, c1, e2]
        cases d2 <;> simp only [Bool.and_true, Bool.true_and, Bool.false_and, Bool.and_false, Bool.not_false] at hK' <;> simp [e3]
        · exact hK' _ _ ⟨by simp, rfl⟩
        · exact hK' _ _ ⟨by simp, rfl⟩
    · have e1 : (decide (p.n.p.fam = 1) || decide (p.n.p.fam = 2)) = false := by simpa using k1
      rw [e1] at hK'
      simp only [Bool.false_and, Bool.not_false] at hK'
      have k1' : ¬ p.n.p.fam = 1 := fun e => k1 (.inl e)
      have k2' : ¬ p.n.p.fam = 2 := fun e => k1 (.inr e)
      simp [k1', k2', c1, neI]
      exact hK' _ _ ⟨by simp, rfl⟩
  rintro t h2' ⟨⟨t2, t3, t4, t6, t36⟩, rfl⟩
  cases u with
  | false =>
    simp only [pathZ] at b2
    simp [t36, t6, b2]
    have hq := q1 huu.symm (h2'.set (h.next + 1 + 1) (.row pathZ)) (g2.set (by omega) _) (w2.set (by omega) _)
    simpa [pathZ] using hq
  | true =>
    have hu2 := huu.symm
    simp only [upOk, Bool.and_eq_true] at hu2
    have hmy := hu2.1.1.1.2
    have hfam := hu2.1.1.2
    simp at hfam
    have hmy2 := hmy
    simp only [pmayB, Bool.and_eq_true] at hmy2
    have hz := attB_sz hmy2.1.2
    have mv : ∀ Q : V → H → Prop, (∀ wp wc wx wl wk h', Ge h2' h' → h'.WF → AttFr h' h2'.next p.att wp wc wx wl wk → Q (.agg (pathC (movedP p v.rd label v.name) wp wc wx wl wk)) h') → Acalls Tryz.prog 27 [.agg (pathC p vp vc vx vl vk), .int .u64 (v.rd : Nat), .int .u32 (label : Nat), .str v.name] h2' Q := fun Q q => move_ct A2 hz (by omega) q
    simp only [pathC, movedP] at mv
    simp [t36, t2, t3, t4, c0, c1]
    refine mv _ fun wp wc wx wl wk h3 g3 w3 f3 => ?_
    obtain ⟨u1, u2, u3, u4, u5⟩ := f3.one
    have l3 := g3.1
    obtain ⟨h4, hh4⟩ : ∃ h4, h4 = h3.push (.row (pathC (movedP p v.rd label v.name) wp wc wx wl wk)) := ⟨_, rfl⟩
    have g4 : Ge h3 h4 := by rw [hh4]; exact (Ge.refl _).push _
    have w4 : h4.WF := by rw [hh4]; exact w3.push _
    have n4 : h4.next = h3.next + 1 := by rw [hh4]; simp
    have z4 : (h3.push (.row pathZ)).set h3.next (.row (pathC (movedP p v.rd label v.name) wp wc wx wl wk)) = h4 := by rw [hh4]; exact push_set_last _ _ _ rfl
    have b40 : h4.get h.next = some (.row (vrC v vi ve)) := by rw [g4.2 _ (by omega), g3.2 _ (by omega)]; exact b0
    have b42 : h4.get (h.next + 1 + 1) = some (.row pathZ) := by rw [g4.2 _ (by omega), g3.2 _ (by omega)]; exact b2
    have b43 : h4.get h3.next = some (.row (pathC (movedP p v.rd label v.name) wp wc wx wl wk)) := by rw [hh4]; simp
    have c40 : cellsAt h4.get h.next 4 = some (vrC v vi ve) := (cellsAt_of (n := 4) b40 rfl).trans rfl
    have c43 : cellsAt h4.get h3.next 29 = some (pathC (movedP p v.rd label v.name) wp wc wx wl wk) := (cellsAt_of (n := 29) b43 rfl).trans rfl
    have x3 : ¬ h.next = h3.next := by omega
    have gh4 : Ge h h4 := g2.trans (g3.trans g4)
    have V4 := VA.ge wf gh4
    have f4 : AttFr h4 h2'.next p.att wp wc wx wl wk := f3.ge w3 g4
    simp only [pathC, pathZ, movedP] at z4
    simp only [vrC] at c40
    simp only [pathC, movedP] at c43 b43
    simp [u1, u2, u3, u4, u5]
    rw [z4]
    have hx1 := attB_sz hmy2.1.2
    have hxl : p.att.exts.length ≤ 64 := by
      have := hmy2.1.2
      rw [attB_parts] at this
      simp only [Bool.and_eq_true, risB, decide_eq_true_eq] at this
      exact this.1.2.2
    obtain ⟨v5, d5, ea, f5, n5, i5, w5, k5⟩ := f4.exts.appends 8 (by omega) (attx_len _) V4.exp (attx_one _) (by decide) (by have := ok.exp.1; simp; omega) (by have := ok.exp.1; simp; omega)
    -- the list behind the append
    obtain ⟨L, hL⟩ : ∃ L, L = p.att.exts ++ v.exp := ⟨_, rfl⟩
    have hLl : L.length ≤ 2000 := by rw [hL, List.length_append]; have := ok.exp.1; omega
    rw [← List.map_append, ← hL] at f5
    obtain ⟨g5, hg5⟩ : ∃ g5, g5 = h4.app d5 := ⟨_, rfl⟩
    rw [← hg5] at f5 n5 i5 w5 k5
    have wg5 := w5 w4
    have hs6 : h2'.next ≤ h3.next := l3
    have kk5 : ∀ i, i < h4.next → (p.att.exts = [] ∨ h4.get i ≠ some (.grow 1 (p.att.exts.map cX).flatten)) → g5.get i = h4.get i := fun i hi ho => k5 i hi (by simpa using ho)
    have rowne : ∀ {r cs : List V} {g : H} {i : Nat}, g.get i = some (.row r) → g.get i ≠ some (.grow 1 cs) := fun e => by rw [e]; simp
    have b53 : g5.get h3.next = some (.row (pathC (movedP p v.rd label v.name) wp wc wx wl wk)) := by
      have b43' : h4.get h3.next = some (.row (pathC (movedP p v.rd label v.name) wp wc wx wl wk)) := b43
      rw [kk5 _ (by omega) (.inr (rowne b43'))]; exact b43'
    have b52 : g5.get (h.next + 1 + 1) = some (.row pathZ) := by rw [kk5 _ (by omega) (.inr (rowne b42))]; exact b42
    have old5 : ∀ i, i < h.next → g5.get i = h.get i := fun i hi => by
      rw [← gh4.2 i hi]
      exact i5 i (fun hv => by have := f4.exts.lo i hv; omega) (by omega)
    have o8 := f5.one
    simp only [pathC, movedP] at b53
    simp [t3, c40, ea]
    rw [← hg5]
    simp [b53, solid_of_one o8, cells_of_one o8]
    obtain ⟨h6, hh6⟩ : ∃ h6, h6 = g5.set h3.next (.row (pathC (movedP p v.rd label v.name) wp wc v5 wl wk)) := ⟨_, rfl⟩
    have n6 : h6.next = g5.next := by rw [hh6]; simp
    have w6 : h6.WF := by rw [hh6]; exact wg5.set (by omega) _
    have k6 : ∀ x, x ≠ h3.next → h6.get x = g5.get x := fun x hx => by rw [hh6, H.get_set, if_neg hx]
    have b63 : h6.get h3.next = some (.row (pathC (movedP p v.rd label v.name) wp wc v5 wl wk)) := by rw [hh6]; simp
    have b62 : h6.get (h.next + 1 + 1) = some (.row pathZ) := by rw [k6 _ (by omega)]; exact b52
    have f6 : Fc h6 h2'.next 1 v5 (L.map cX) := f5.turn (o := .row (pathC (movedP p v.rd label v.name) wp wc wx wl wk)) (by omega) (fun i hi ho => k6 i (fun e => by subst e; exact ho (by simpa [pathC, movedP] using b53))) (by simp)
    simp only [pathC, movedP] at hh6
    rw [← hh6]
    refine sortX_ct f6 (by omega) (fun h7 w7 n7 k7 l7 hc => ?_) w6
    have b73 : h7.get h3.next = some (.row (pathC (movedP p v.rd label v.name) wp wc v5 wl wk)) := (k7 _ (by omega) (.inr (rowne b63))).trans b63
    have b72 : h7.get (h.next + 1 + 1) = some (.row pathZ) := (k7 _ (by omega) (.inr (rowne b62))).trans b62
    have c73 : cellsAt h7.get h3.next 29 = some (pathC (movedP p v.rd label v.name) wp wc v5 wl wk) := (cellsAt_of (n := 29) b73 rfl).trans rfl
    simp only [pathC, movedP] at c73
    simp [c73]
    have hX : upX v p = putsL oN L := by rw [hL]; rfl
    -- the other lists stay
    have r5 : AttR g5 h2'.next p.att wp wc wl wk := by
      by_cases he : p.att.exts = []
      · exact f4.rest.turn (apart_row []) n5 fun i hi _ => kk5 i hi (.inl he)
      · exact f4.rest.turn (apart_x he) n5 fun i hi ho => kk5 i hi (.inr ho)
    have r6 : AttR h6 h2'.next p.att wp wc wl wk := r5.turn (apart_row (pathC (movedP p v.rd label v.name) wp wc wx wl wk)) (by omega) fun i hi ho => k6 i (fun e => by subst e; exact ho (by simpa [pathC, movedP] using b53))
    have old7 : ∀ i, i < h.next → h7.get i = h.get i := fun i hi => by rw [l7 i (by omega), k6 i (by omega), old5 i hi]
    refine (show Acalls Tryz.prog 29 [v5] h7 (fun v8 h8 => h8.WF ∧ h8.next = h7.next ∧ (∀ i, i < h.next → h8.get i = h.get i) ∧ h8.get h3.next = some (.row (pathC (movedP p v.rd label v.name) wp wc v5 wl wk)) ∧ h8.get (h.next + 1 + 1) = some (.row pathZ) ∧ ExAt h8 h2'.next v8 (upX v p) ∧ AttR h8 h2'.next p.att wp wc wl wk) from ?_).mono ?_
    · rcases hc with ⟨hL0, rfl⟩ | ⟨j, l', j1, j2, j3, j4, j5, j6⟩
      · rw [hL0] at f6 hX
        have hvf : v5 = .nilsl ∨ ∃ k, v5 = .sl k 0 0 0 (some 0) := by
          rcases f6 with ⟨_, e⟩ | ⟨e, _⟩
          · exact e.imp id fun ⟨k, _, e⟩ => ⟨k, e⟩
          · exact absurd rfl e
        refine comp0_ct hvf ⟨w7, rfl, old7, b73, b72, ?_, r6⟩
        rw [hX]
        exact ⟨f6.sls (by simp) (by simp), .inl ⟨rfl, by
          rcases f6 with ⟨_, e⟩ | ⟨e, _⟩
          · exact e
          · exact absurd rfl e⟩⟩
      · have hll := j5.length_eq
        rw [← hll] at j3
        subst j3
        have hne : l' ≠ [] := fun e => j2 (by rw [e] at j5; exact j5.symm.eq_nil)
        have hcp : compactL l' = upX v p := by
          rw [hX]
          exact compact_puts ordr_n oN_eq j5 (j6.imp fun {x y} hxy => (neg_lt_iff x y).1 hxy)
        refine compactX2_ct j4 (by omega) hne fun v8 h8 a b c d _ ⟨cs, d1, d2⟩ d3 => ⟨c, b, fun i hi => ?_, ?_, ?_, by rw [← hcp]; exact ⟨d, .inr ⟨j, l'.length, cs, j1, by rw [b]; exact w7.lt j4, d3, d1, d2⟩⟩, ?_⟩
        · rw [a i (by omega)]; exact old7 i hi
        · rw [a _ (fun e => by rw [← e] at j4; rw [b73] at j4; cases j4)]; exact b73
        · rw [a _ (fun e => by rw [← e] at j4; rw [b72] at j4; cases j4)]; exact b72
        · have r7 : AttR h7 h2'.next p.att wp wc wl wk := r6.turn (apart_x j2) (by omega) fun i hi ho => k7 i hi (.inr ho)
          exact r7.turn (apart_x hne) (by omega) fun i hi ho => a i (fun e => by subst e; exact ho j4)
    rintro v8 h8 ⟨w8, n8, old8, b83, b82, s8, r8⟩
    have o9 := s8.1.one
    have b83' := b83
    obtain ⟨h9, hh9⟩ : ∃ h9, h9 = h8.set h3.next (.row (pathC (upP v p label) wp wc v8 wl wk)) := ⟨_, rfl⟩
    have k9 : ∀ x, x ≠ h3.next → h9.get x = h8.get x := fun x hx => by rw [hh9, H.get_set, if_neg hx]
    have n9 : h9.next = h8.next := by rw [hh9]; simp
    have w9 : h9.WF := by rw [hh9]; exact w8.set (by omega) _
    have kr9 : ∀ i, i < h8.next → h8.get i ≠ some (.row (pathC (movedP p v.rd label v.name) wp wc v5 wl wk)) → h9.get i = h8.get i := fun i _ ho => k9 i (fun e => by subst e; exact ho b83')
    have s9 := s8.keep (by omega) kr9
    have r9 := r8.turn (apart_row _) (by omega) kr9
    have l9 := s9.1.len
    simp at l9
    have b93 : h9.get h3.next = some (.row (pathC (upP v p label) wp wc v8 wl wk)) := by rw [hh9]; simp
    have b92 : h9.get (h.next + 1 + 1) = some (.row pathZ) := by rw [k9 _ (by omega)]; exact b82
    have c93 : cellsAt h9.get h3.next 29 = some (pathC (upP v p label) wp wc v8 wl wk) := (cellsAt_of (n := 29) b93 rfl).trans rfl
    simp only [pathC, upP, withX] at hh9 c93
    simp only [pathZ] at b92
    simp only [pathC, movedP] at b83
    simp [b83, solid_of_one o9, cells_of_one o9]
    rw [← hh9]
    simp [l9]
    have g9 : Ge h h9 := ⟨by omega, fun i hi => by rw [k9 i (by omega)]; exact old8 i hi⟩
    by_cases hb : (upX v p).length ≤ 64
    · have hb' : ¬ (64 : Int) < ((upX v p).length : Int) := by omega
      have q1' : wp.one = true := u1
      simp [hb', t6, c93, b92, u1, u2, o9, u4, u5]
      have hq := q3 huu.symm hb wp wc v8 wl wk (h9.set (h.next + 1 + 1) (.row (pathC (upP v p label) wp wc v8 wl wk))) (g9.set (by omega) _) (w9.set (by omega) _) ?_ ?_
      · simpa [pathC, upP, withX] using hq
      · exact (r9.turn (apart_row pathZ) (by simp) fun i _ ho => by rw [H.get_set, if_neg (fun e => by subst e; exact ho b92)]).le (by omega)
      · exact (s9.keep (r := pathZ) (by simp) fun i _ ho => by rw [H.get_set, if_neg (fun e => by subst e; exact ho b92)]).le (by omega)
    · have hb' : (64 : Int) < ((upX v p).length : Int) := by omega
      simp [hb', t6, b92]
      have hq := q2 huu.symm (by omega) (h9.set (h.next + 1 + 1) (.row pathZ)) (g9.set (by omega) _) (w9.set (by omega) _)
      simpa [pathZ] using hq
end Go.Am

namespace Go.Am
open Go.Proofs

set_option maxRecDepth 100000
theorem gl_some {h : H} (w : h.WF) {sz : Nat} (es : List (List V)) : ∃ v h', Ge h h' ∧ h'.WF ∧ Gl h' h.next sz v es := by
  by_cases he : es = []
  · subst he; exact ⟨.nilsl, h, Ge.refl _, w, Gl.nil _ _ _⟩
  · exact ⟨.sl h.next es.flatten.length 0 es.length none, h.push (.grow sz es.flatten), (Ge.refl _).push _, w.push _, .inr ⟨he, h.next, Nat.le_refl _, by simp, rfl, by simp⟩⟩
def downOk (v : Vr) (p : Pth) : Bool := vrfB v && pmayB p && (decide (p.n.p.fam = 4) || decide (p.n.p.fam = 5))
def downIs (v : Vr) (p : Pth) : Bool := (p.att.exts.filter isTg).any fun x => decide (x ∈ v.imp)
theorem apart_ct {h : H} {f : Int} : Pure Tryz.prog 34 [.int .i64 f] h (.bool (decide (f = 4) || decide (f = 5))) := by
  refine pure_to Tryz.func34 S.vrf_apart_code S.vrf_apart_enter rfl (Nat.le_of_ble_eq_true rfl) fun wf => ?_; simp only [S.vrf_apart]
  by_cases k1 : f = 4
  · simp [k1]
  · simp [eqI, k1]
theorem down_ct {h : H} {v : Vr} {vi ve : V} {p : Pth} {vp vc vx vl vk : V} (VA : VrAt h.get v vi ve) (ok : VrOk v) (A : AttAt h.get p.att vp vc vx vl vk) (hn : p.src.peer.length ≤ 9223372036854775807) {Q : V → H → Prop}
    (q1 : downOk v p = false → ∀ h', Ge h h' → h'.WF → Q (.tup [.agg pathZ, .bool false, .int .i64 2]) h')
    (q2 : downOk v p = true → downIs v p = false → ∀ h', Ge h h' → h'.WF → Q (.tup [.agg pathZ, .bool false, .int .i64 0]) h')
    (q3 : downOk v p = true → downIs v p = true → ∀ wp wc wx wl wk h', Ge h h' → h'.WF → AttFr h' h.next p.att wp wc wx wl wk → Q (.tup [.agg (pathC (movedP p 0 0 v.name) wp wc wx wl wk), .bool true, .int .i64 0]) h') :
    Acalls Tryz.prog 11 [.agg (vrC v vi ve), .agg (pathC p vp vc vx vl vk)] h Q := by
  refine acalls_to Tryz.func11 S.vrf_Down_code S.vrf_Down_enter (Nat.le_of_ble_eq_true rfl) fun wf => ?_; simp only [S.vrf_Down]
  obtain ⟨es, P⟩ := A.path
  have o1 := P.sls.one
  have o2 := A.comms.one
  have o3 := A.exts.one
  have o4 := A.larges.one
  have o5 := A.clus.one
  have o6 := VA.imp.one
  have o7 := VA.exp.one
  obtain ⟨h2, hh2⟩ : ∃ h2, h2 = ((h.push (.row (vrC v vi ve))).push (.row (pathC p vp vc vx vl vk))).push (.row pathZ) := ⟨_, rfl⟩
  have g2 : Ge h h2 := by rw [hh2]; exact (((Ge.refl _).push _).push _).push _
  have w2 : h2.WF := by rw [hh2]; exact ((wf.push _).push _).push _
  have n2 : h2.next = h.next + 3 := by rw [hh2]; simp
  have b0 : h2.get h.next = some (.row (vrC v vi ve)) := by rw [hh2]; simp [show ¬ h.next = h.next + 1 + 1 by omega]
  have b1 : h2.get (h.next + 1) = some (.row (pathC p vp vc vx vl vk)) := by rw [hh2]; simp
  have b2 : h2.get (h.next + 2) = some (.row pathZ) := by rw [hh2]; simp
  have A2 := A.ge wf g2
  have V2 := VA.ge wf g2
  have vc1 := vrf_ct V2 ok
  have mc1 := vmay_ct A2 hn
  have c0 : cellsAt h2.get h.next 4 = some (vrC v vi ve) := (cellsAt_of (n := 4) b0 rfl).trans rfl
  have c1 : cellsAt h2.get (h.next + 1) 29 = some (pathC p vp vc vx vl vk) := (cellsAt_of (n := 29) b1 rfl).trans rfl
  have n01 : ¬ h.next = h.next + 1 := by omega
  have n02 : ¬ h.next = h.next + 1 + 1 := by omega
  have n12 : ¬ h.next + 1 = h.next + 1 + 1 := by omega
  simp only [vrC] at vc1 c0
  simp only [pathC] at mc1 c1
  simp only [vrC, pathC, pathZ] at hh2
  simp [vrC, pathC, o1, o2, o3, o4, o5, o6, o7, n02]
  rw [← hh2]
  refine vc1 _ ?_
  obtain ⟨bv, hbv⟩ : ∃ b, b = vrfB v := ⟨_, rfl⟩
  obtain ⟨bm, hbm⟩ : ∃ b, b = pmayB p := ⟨_, rfl⟩
  have hu : downOk v p = (bv && bm && (decide (p.n.p.fam = 4) || decide (p.n.p.fam = 5))) := by rw [hbv, hbm]; rfl
  obtain ⟨u, huu⟩ : ∃ u, u = downOk v p := ⟨_, rfl⟩
  rw [← hbv]
  rw [← hbm] at mc1
  simp
  refine guard_meet (fun t' h' => (t' 2 = .ptr h.next 4 0 ∧ t' 3 = .ptr (h.next + 1) 29 0 ∧ t' 4 = .ptr (h.next + 1 + 1) 29 0 ∧ t' 7 = .bool (!u)) ∧ h' = h2) (fun K' hK' => ?_) ?_
  · rw [huu, hu] at hK'
    cases bv <;> simp only [Bool.false_and, Bool.true_and, Bool.not_false] at hK' <;> simp [c1] <;> (try (exact hK' _ _ ⟨by simp, rfl⟩))
    refine mc1 _ ?_
    cases bm <;> simp only [Bool.false_and, Bool.true_and, Bool.not_false] at hK' <;> simp [c1] <;> (try (exact hK' _ _ ⟨by simp, rfl⟩))
    refine apart_ct _ ?_
    simp
    exact hK' _ _ ⟨by simp, rfl⟩
  rintro t h2' ⟨⟨t2, t3, t4, t7⟩, rfl⟩
  cases u with
  | false =>
    simp only [pathZ] at b2
    simp [t7, t4, b2]
    have hq := q1 huu.symm (h2'.set (h.next + 1 + 1) (.row pathZ)) (g2.set (by omega) _) (w2.set (by omega) _)
    simpa [pathZ] using hq
  | true =>
    have hu2 := huu.symm
    simp only [downOk, Bool.and_eq_true] at hu2
    have hmy := hu2.1.2
    have hfam := hu2.2
    simp at hfam
    have hmy2 := hmy
    simp only [pmayB, Bool.and_eq_true] at hmy2
    have hz := attB_sz hmy2.1.2
    simp [t7]
    have tc : Acalls Tryz.prog 14 [.agg (attC p.att vp vc vx vl vk)] h2' (fun w h' => Ge h2' h' ∧ h'.WF ∧ Gl h' h2'.next 1 w ((p.att.exts.filter isTg).map cX)) := targets_ct A2 hz.exts fun w h' a b c => ⟨a, b, c⟩
    obtain ⟨sw, sh, ss⟩ := gl_some w2 (sz := 1) ((p.att.exts.filter isTg).map cX)
    simp only [attC] at tc
    refine dreg_awp [h.next] [0, 0, 1, 0, 2, 0, 0, 0] rfl (by rfl) ?_
    simp [t3, c1, I.foot, refOf]
    refine ⟨by decide, _, ⟨sw, sh, ss⟩, tc, ?_⟩
    rintro w3 h3 ⟨g3, w3f, gl3⟩
    refine ⟨fun _ => fun k hk => by rw [List.mem_singleton] at hk; subst hk; exact g3.2 _ (by omega), ?_⟩
    have c03 : cellsAt h3.get h.next 4 = some (vrC v vi ve) := (g3.cells (by omega)).trans c0
    simp only [vrC] at c03
    simp [t2, c03, I.foot, refOf]
    have s3 : Sls h3.get 1 w3 ((p.att.exts.filter isTg).map cX) := gl3.sls (attx_len _) (by have := List.length_filter_le isTg p.att.exts; have := hz.exts; simp; omega)
    refine acall_of (v := .bool (downIs v p)) (h' := h3) (fun Q q => meetg_ct s3 ((VA.ge wf (g2.trans g3)).imp) Q q) (by decide) (fun h => by cases h) ?_
    obtain ⟨m, hm⟩ : ∃ m, m = downIs v p := ⟨_, rfl⟩
    rw [← hm]
    have b32 : h3.get (h.next + 1 + 1) = some (.row pathZ) := (g3.2 _ (by omega)).trans b2
    have c13 : cellsAt h3.get (h.next + 1) 29 = some (pathC p vp vc vx vl vk) := (g3.cells (by omega)).trans c1
    have gh3 := g2.trans g3
    cases m with
    | false =>
      simp only [pathZ] at b32
      simp [t4, b32]
      have hq := q2 huu.symm hm.symm (h3.set (h.next + 1 + 1) (.row pathZ)) (gh3.set (by omega) _) (w3f.set (by have := g3.1; omega) _)
      simpa [pathZ] using hq
    | true =>
      have mv : ∀ Q : V → H → Prop, (∀ wp wc wx wl wk h', Ge h3 h' → h'.WF → AttFr h' h3.next p.att wp wc wx wl wk → Q (.agg (pathC (movedP p 0 0 v.name) wp wc wx wl wk)) h') → Acalls Tryz.prog 27 [.agg (pathC p vp vc vx vl vk), .int .u64 0, .int .u32 0, .str v.name] h3 Q := fun Q q => by
        have := move_ct (A.ge wf gh3) hz (by omega) (rd := 0) (label := 0) (name := v.name) q
        simpa using this
      simp only [pathC] at mv c13
      simp [t2, t3, c13, c03]
      refine mv _ fun wp wc wx wl wk h4 g4 w4 f4 => ?_
      obtain ⟨u1, u2, u3, u4, u5⟩ := f4.one
      have b42 : h4.get (h.next + 1 + 1) = some (.row pathZ) := (g4.2 _ (by have := g3.1; omega)).trans b32
      simp only [pathZ] at b42
      simp [t4, b42, u1, u2, u3, u4, u5]
      have gh4 := gh3.trans g4
      have hq := q3 huu.symm hm.symm wp wc wx wl wk (h4.set (h.next + 1 + 1) (.row (pathC (movedP p 0 0 v.name) wp wc wx wl wk))) (gh4.set (by omega) _) (w4.set (by have := gh4.1; have := g3.1; have := g4.1; omega) _) ((f4.keep3 (Nat.le_refl _) ⟨by simp, fun i sz cs hl _ e => by rw [H.get_set, if_neg (by have := g3.1; omega)]; exact e⟩).le (by have := g3.1; omega))
      simpa [pathC] using hq
end Go.Am

namespace Go.Am
open Go.Proofs

set_option maxRecDepth 100000
def keysG {α : Type} (f : α → V) (ks : List α) : List (V × V) := ks.map fun k => (f k, .agg [])
def insD {α : Type} [DecidableEq α] (ks : List α) (c : α) : List α := if c ∈ ks then ks else ks ++ [c]
def ddL {α : Type} [DecidableEq α] (l : List α) : List α := l.foldl insD []
structure KeyF {α : Type} [DecidableEq α] (kd : KD) (f : α → V) : Prop where
  plain : (∃ k, kd = .int k) ∨ kd = .str
  ok : ∀ a, keyOk kd (f a) = true
  eq : ∀ a b, keyEq (f a) (f b) = decide (a = b)
section
variable {α : Type} [DecidableEq α] {kd : KD} {f : α → V}
theorem findM_cons (K : KeyF kd f) (c k : α) (r : List (V × V)) (i : Nat) : findM kd (f c) ((f k, .agg []) :: r) i = if c = k then some (some (i, .agg [])) else findM kd (f c) r (i + 1) := by
  rcases K.plain with ⟨k', rfl⟩ | rfl
  · simp only [findM, K.ok, if_true, K.eq, decide_eq_true_eq]
  · simp only [findM, K.ok, if_true, K.eq, decide_eq_true_eq]
theorem findG_no (K : KeyF kd f) {c : α} : ∀ (ks : List α) (i : Nat), c ∉ ks → findM kd (f c) (keysG f ks) i = some none
  | [], _, _ => rfl
  | k :: ks, i, h => by
    show findM kd (f c) ((f k, .agg []) :: keysG f ks) i = _
    rw [findM_cons K, if_neg (fun e => h (by simp [e]))]
    exact findG_no K ks (i + 1) fun e => h (by simp [e])
theorem findG_yes (K : KeyF kd f) {c : α} : ∀ (ks : List α) (i : Nat), c ∈ ks → ∃ j, i ≤ j ∧ ks[j - i]? = some c ∧ findM kd (f c) (keysG f ks) i = some (some (j, .agg []))
  | [], _, h => by simp at h
  | k :: ks, i, h => by
    show ∃ j, i ≤ j ∧ (k :: ks)[j - i]? = some c ∧ findM kd (f c) ((f k, .agg []) :: keysG f ks) i = _
    by_cases e : c = k
    · subst e
      exact ⟨i, Nat.le_refl _, by simp, by rw [findM_cons K, if_pos rfl]⟩
    · obtain ⟨j, h1, h2, h3⟩ := findG_yes K ks (i + 1) (by simpa [e] using h)
      refine ⟨j, by omega, ?_, by rw [findM_cons K, if_neg e]; exact h3⟩
      rw [show j - i = (j - (i + 1)) + 1 by omega]; simpa using h2
theorem msetG (K : KeyF kd f) {g : Nat → Option O} {m : Nat} {ks : List α} {bs : List Nat} {tk : Nat} (c : α) (hm : g m = some (.mapo (keysG f ks) bs tk)) : ∃ bs' tk', mapSetV g kd (.map m) (f c) (.agg []) = some (.set m (.mapo (keysG f (insD ks c)) bs' tk')) := by
  unfold mapSetV insD
  rw [if_pos (K.ok c)]
  simp only [hm]
  by_cases hc : c ∈ ks
  · obtain ⟨j, _, h2, h3⟩ := findG_yes K ks 0 hc
    rw [h3, if_pos hc]
    simp only [Nat.sub_zero] at h2
    refine ⟨bs, tk, ?_⟩
    have : (keysG f ks).set j (f c, .agg []) = keysG f ks := by
      unfold keysG
      rw [show (f c, V.agg []) = (fun k => (f k, V.agg [])) c from rfl, ← List.map_set]
      congr 1
      apply List.ext_getElem?
      intro n
      rw [List.getElem?_set]
      split
      · rename_i e; subst e
        have := (List.getElem?_eq_some_iff.1 h2).1
        rw [if_pos this, h2]
      · rfl
    simp only [this]
  · rw [findG_no K ks 0 hc, if_neg hc]
    exact ⟨bs ++ [tk], tk + 1, by simp [keysG]⟩
end
theorem keyF_str : KeyF KD.str (fun s : List UInt8 => V.str s) := ⟨.inr rfl, fun _ => rfl, fun a b => by simp only [keyEq]; exact eqS a b⟩
theorem keyF_u64 : KeyF (KD.int .u64) (fun n : Nat => V.int .u64 (n : Nat)) := ⟨.inl ⟨_, rfl⟩, fun _ => rfl, fun a b => by simp only [keyEq]; exact eqN a b⟩
theorem ddL_len {α : Type} [DecidableEq α] : ∀ (l acc : List α), acc.Nodup → ((l.foldl insD acc).length = acc.length + l.length ↔ (acc ++ l).Nodup) ∧ (l.foldl insD acc).length ≤ acc.length + l.length
  | [], acc, h => by simp [h]
  | a :: l, acc, h => by
    rw [List.foldl_cons]
    by_cases ha : a ∈ acc
    · have e : insD acc a = acc := if_pos ha
      rw [e]
      obtain ⟨h1, h2⟩ := ddL_len l acc h
      refine ⟨⟨fun e => by simp at e; omega, fun e => ?_⟩, by simp; omega⟩
      exact absurd ha (fun hm => by
        have := (List.nodup_append.1 e).2.2 a hm a (by simp)
        exact this rfl)
    · have e : insD acc a = acc ++ [a] := if_neg ha
      rw [e]
      have hn : (acc ++ [a]).Nodup := List.nodup_append.2 ⟨h, by simp, fun x hx y hy e => by
        rw [List.mem_singleton] at hy; rw [e, hy] at hx; exact ha hx⟩
      obtain ⟨h1, h2⟩ := ddL_len l (acc ++ [a]) hn
      simp only [List.length_append, List.length_singleton, List.append_assoc, List.singleton_append] at h1 h2
      exact ⟨⟨fun e => h1.1 (by simp at e; omega), fun e => by rw [h1.2 e]; simp; omega⟩, by simp; omega⟩
theorem ddL_nodup {α : Type} [DecidableEq α] (l : List α) : (ddL l).length < l.length ↔ ¬ l.Nodup := by
  obtain ⟨h1, h2⟩ := ddL_len l [] List.nodup_nil
  simp at h1 h2
  unfold ddL
  rw [← h1]
  omega
theorem ddL_snoc {α : Type} [DecidableEq α] (l : List α) {i : Nat} (h : i < l.length) : ddL (l.take (i + 1)) = insD (ddL (l.take i)) l[i] := by
  unfold ddL
  rw [List.take_add_one, List.getElem?_eq_getElem h, List.foldl_append]
  rfl
structure VrsAt (g : Nat → Option O) (v : V) (l : List Vr) (es : List (List V)) : Prop where
  sls : Sls g 4 v es
  len : es.length = l.length
  at' : ∀ (i : Nat) (x : Vr), l[i]? = some x → ∃ vi ve, es[i]? = some (vrC x vi ve) ∧ VrAt g x vi ve
theorem VrsAt.ge {a b : H} {v : V} {l : List Vr} {es : List (List V)} (s : VrsAt a.get v l es) (w : a.WF) (g : Ge a b) : VrsAt b.get v l es :=
  ⟨s.sls.ge w g, s.len, fun i x hx => by obtain ⟨vi, ve, e, h⟩ := s.at' i x hx; exact ⟨vi, ve, e, h.ge w g⟩⟩
def checkV (l : List Vr) : Int := if 8 < l.length then 3 else if l.all vrfB = true then (if (l.map Vr.name).Nodup ∧ (l.map Vr.rd).Nodup then 0 else 6) else 2
theorem vcheck_ct {h : H} {v : V} {l : List Vr} {es : List (List V)} (hs : VrsAt h.get v l es) (ok : ∀ x ∈ l, VrOk x) : Pure Tryz.prog 17 [v] h (.int .i64 (checkV l)) := by
  refine pure_to Tryz.func17 S.vrf_Check_code S.vrf_Check_enter rfl (Nat.le_of_ble_eq_true rfl) fun wf => ?_; simp only [S.vrf_Check]
  have hl := hs.sls.len
  have hb := hs.sls.bound
  rw [hs.len] at hl hb
  by_cases h8 : 8 < l.length
  · have h8' : (8 : Int) < (l.length : Int) := by omega
    simp [hl, h8', checkV, h8]
  have h8' : ¬ (8 : Int) < (l.length : Int) := by omega
  simp [hl, h8']
  obtain ⟨h2, hh2⟩ : ∃ h2, h2 = (h.push (.mapo [] [] 0)).push (.mapo [] [] 0) := ⟨_, rfl⟩
  have g2 : Ge h h2 := by rw [hh2]; exact ((Ge.refl _).push _).push _
  have w2 : h2.WF := by rw [hh2]; exact (wf.push _).push _
  have n2 : h2.next = h.next + 2 := by rw [hh2]; simp
  have m1 : h2.get h.next = some (.mapo (keysG (fun s : List UInt8 => V.str s) []) [] 0) := by rw [hh2]; simp [keysG]
  have m2 : h2.get (h.next + 1) = some (.mapo (keysG (fun n : Nat => V.int .u64 (n : Nat)) []) [] 0) := by rw [hh2]; simp [keysG]
  rw [← hh2]
  have hl2 := (hs.sls.ge wf g2).len
  rw [hs.len] at hl2
  simp [hl2]
  refine loop_up (fun i t h' => ∃ bs tk bs2 tk2, (t 0 = v ∧ t 3 = .map h.next ∧ t 4 = .map (h.next + 1) ∧ t 12 = v ∧ t 13 = .int .i64 (l.length : Nat) ∧ t 14 = .int .i64 (i : Nat)) ∧ (Ge h h' ∧ h'.WF ∧ h2.next ≤ h'.next) ∧
    h'.get h.next = some (.mapo (keysG (fun s : List UInt8 => V.str s) (ddL ((l.map Vr.name).take i))) bs tk) ∧ h'.get (h.next + 1) = some (.mapo (keysG (fun n : Nat => V.int .u64 (n : Nat)) (ddL ((l.map Vr.rd).take i))) bs2 tk2) ∧ (l.take i).all vrfB = true) l.length ⟨[], 0, [], 0, by simp, ⟨g2, w2, Nat.le_refl _⟩, by simpa [ddL] using m1, by simpa [ddL] using m2, by simp⟩ ?_
  rintro i t h' hi ⟨bs, tk, bs2, tk2, ⟨t0, t3, t4, t12, t13, t14⟩, ⟨gb, wb, nb⟩, k1, k2, ha⟩ K hK
  by_cases hlt : i < l.length
  · obtain ⟨vi, ve, e1, e2⟩ := hs.at' i l[i] (List.getElem?_eq_getElem hlt)
    have hie : i < es.length := by rw [hs.len]; exact hlt
    obtain ⟨p, q, o, cs, f1, f2, f3, f4, f5, _⟩ := hs.sls.atG wf hie
    rw [List.getElem?_eq_getElem hie, Option.some.injEq] at e1
    rw [e1] at f5
    have f3' := f3 h' gb
    have hw := wrap_succ hlt hb
    have o1 := e2.imp.one
    have o2 := e2.exp.one
    obtain ⟨x, hx⟩ : ∃ x, x = l[i] := ⟨_, rfl⟩
    rw [← hx] at e2 f5
    have okx := ok x (by rw [hx]; exact List.getElem_mem hlt)
    obtain ⟨h3, hh3⟩ : ∃ h3, h3 = h'.push (.row (vrC x vi ve)) := ⟨_, rfl⟩
    have g3 : Ge h' h3 := by rw [hh3]; exact (Ge.refl _).push _
    have w3 : h3.WF := by rw [hh3]; exact wb.push _
    have z3 : (h'.push (.row [.str [], .int .u64 0, .nilsl, .nilsl])).set h'.next (.row (vrC x vi ve)) = h3 := by rw [hh3]; exact push_set_last _ _ _ rfl
    have c3 : cellsAt h3.get h'.next 4 = some (vrC x vi ve) := by rw [hh3]; simp [vrC]
    have vc1 := vrf_ct (e2.ge wf (gb.trans g3)) okx
    have k13 := (g3.2 _ (by omega)).trans k1
    have k23 := (g3.2 _ (by omega)).trans k2
    simp only [vrC] at f5 z3 c3 vc1
    simp [t12, t13, t14, hlt, f1, f3', f4, f5, o1, o2]
    rw [z3]
    refine vc1 _ ?_
    cases hv : vrfB x with
    | false =>
      have hall := all_false hlt (f := vrfB) (by rw [← hx]; exact hv)
      have hch : checkV l = 2 := by unfold checkV; rw [if_neg h8, hall]; simp
      simp [hch, gb.trans g3]
    | true =>
      obtain ⟨b3, tk3, s3⟩ := msetG keyF_str x.name k13
      try simp only at s3
      obtain ⟨h4, hh4⟩ : ∃ h4, h4 = h3.set h.next (.mapo (keysG (fun s : List UInt8 => V.str s) (insD (ddL ((l.map Vr.name).take i)) x.name)) b3 tk3) := ⟨_, rfl⟩
      have n3 : h3.next = h'.next + 1 := by rw [hh3]; simp
      have k24 : h4.get (h.next + 1) = some (.mapo (keysG (fun n : Nat => V.int .u64 (n : Nat)) (ddL ((l.map Vr.rd).take i))) bs2 tk2) := by rw [hh4, H.get_set, if_neg (by omega)]; exact k23
      have c4 : cellsAt h4.get h'.next 4 = some (vrC x vi ve) := by
        have : cellsAt h4.get h'.next 4 = cellsAt h3.get h'.next 4 := by unfold cellsAt; rw [hh4, H.get_set, if_neg (by omega)]
        rw [this]; exact c3
      obtain ⟨b4, tk4, s4⟩ := msetG keyF_u64 x.rd k24
      try simp only at s4
      simp only [vrC] at c4
      have ne0 : ¬ h'.next = h.next := by omega
      simp [t3, t4, c3, s3, ne0]
      rw [← hh4]
      simp [s4, t14, hw]
      refine hK _ _ hlt ⟨b3, tk3, b4, tk4, by simp [t0, t3, t4, t12, t13], ⟨⟨by rw [hh4]; simp; have := gb.1; omega, fun y hy => ?_⟩, ?_, by rw [hh4]; simp; omega⟩, ?_, ?_, all_take_snoc hlt ha (by rw [← hx]; exact hv)⟩
      · rw [H.get_set, if_neg (by omega), hh4, H.get_set, if_neg (by omega), g3.2 y (by omega)]; exact gb.2 y hy
      · rw [hh4]; exact (w3.set (by omega) _).set (by simp; omega) _
      · rw [H.get_set, if_neg (by omega), hh4, H.get_set, if_pos rfl, ddL_snoc _ (by simpa using hlt)]; simp [← hx]
      · rw [H.get_set, if_pos rfl, ddL_snoc _ (by simpa using hlt)]; simp [← hx]
  · have hi2 : i = l.length := by omega
    subst hi2
    rw [List.take_of_length_le (by simp)] at k1 k2
    rw [List.take_length] at ha
    have hlv : lenV 1 h'.get v = some (.int .i64 (l.length : Nat)) := by have := (hs.sls.ge wf gb).len; rwa [hs.len] at this
    have e1 : lenV 2 h'.get (.map h.next) = some (.int .i64 ((ddL (l.map Vr.name)).length : Nat)) := by simp [lenV, k1, keysG]
    have e2 : lenV 2 h'.get (.map (h.next + 1)) = some (.int .i64 ((ddL (l.map Vr.rd)).length : Nat)) := by simp [lenV, k2, keysG]
    have d1 := ddL_nodup (l.map Vr.name)
    have d2 := ddL_nodup (l.map Vr.rd)
    rw [List.length_map] at d1 d2
    have hch : checkV l = if (l.map Vr.name).Nodup ∧ (l.map Vr.rd).Nodup then 0 else 6 := by unfold checkV; rw [if_neg h8, if_pos ha]
    simp [t0, t3, t13, t14, e1, hlv]
    by_cases n1 : (l.map Vr.name).Nodup
    · have l1 : ¬ (ddL (l.map Vr.name)).length < l.length := fun e => d1.1 e n1
      by_cases n2 : (l.map Vr.rd).Nodup
      · have l2 : ¬ (ddL (l.map Vr.rd)).length < l.length := fun e => d2.1 e n2
        rw [hch, if_pos ⟨n1, n2⟩]
        simp [l1, t4, t0, e2, hlv, l2, gb]
      · have l2 : (ddL (l.map Vr.rd)).length < l.length := d2.2 n2
        rw [hch, if_neg (fun e => n2 e.2)]
        simp [l1, t4, t0, e2, hlv, l2, gb]
    · have l1 : (ddL (l.map Vr.name)).length < l.length := d1.2 n1
      rw [hch, if_neg (fun e => n1 e.1)]
      simp [l1, gb]
end Go.Am

namespace Go.Am
open Go.Proofs

set_option maxRecDepth 100000
def tg1 (i : Nat) : Nat := 562954248388608 + i
def cB (x : Nat) : List V := [.int .u8 x]
def someL (l : List Nat) : List Nat := ((List.range 12).filter fun i => decide (i ∈ (l.take 10).map (· % 12))).map tg1
theorem or64v (k x b : Nat) (hb : b < 2 ^ k) (hv : x * 2 ^ k + b < 18446744073709551616) {p q r : Int} (hp : p = ((x * 2 ^ k : Nat) : Int)) (hq : q = (b : Int)) (hr : r = ((x * 2 ^ k + b : Nat) : Int)) : intV .or .u64 p q = some (.int .u64 r) := by
  subst hp hq hr
  have hy : ∀ y : Nat, y < 18446744073709551616 → (BitVec.ofInt 64 (y : Int)).toNat = y := fun y h => by simp; omega
  have h1 := hy (x * 2 ^ k) (by omega)
  have h2 := hy b (by omega)
  have h3 : (BitVec.ofInt 64 ((x * 2 ^ k : Nat) : Int) ||| BitVec.ofInt 64 (b : Int)).toNat = x * 2 ^ k + b := by
    rw [BitVec.toNat_or, h1, h2, Nat.mul_comm x, ← Nat.two_pow_add_eq_or_of_lt hb]
  show some (V.int .u64 (IntKind.u64.wrap ((BitVec.ofInt 64 ((x * 2 ^ k : Nat) : Int) ||| BitVec.ofInt 64 (b : Int)).toNat : Int))) = _
  rw [h3, u64_id hv]
theorem tgt1_ct {h : H} {i : Nat} (hi : i < 12) : Pure Tryz.prog 21 [.int .u16 1, .int .u32 (i : Nat)] h (.int .u64 (tg1 i : Nat)) := by
  refine pure_to Tryz.func21 S.comm_Target_code S.comm_Target_enter rfl (Nat.le_of_ble_eq_true rfl) fun wf => ?_; simp only [S.comm_Target]
  have wa : IntKind.u64.wrap 1 = 1 := by decide
  have wb : IntKind.u64.wrap (i : Int) = i := u64_id (by omega)
  have s1 : IntKind.u64.wrap (1 * 2 ^ min 32 IntKind.u64.bits) = 4294967296 := by decide
  have s1' : IntKind.u64.wrap (2 ^ min 32 IntKind.u64.bits) = 4294967296 := by decide
  have o1 : intV .or .u64 562949953421312 4294967296 = some (.int .u64 562954248388608) := rfl
  have o2 : intV .or .u64 562954248388608 (i : Int) = some (.int .u64 ((tg1 i : Nat) : Int)) := or64v 32 131073 i (by omega) (by omega) (by omega) rfl (by unfold tg1; omega)
  simp [wa, wb, s1', o1, o2]
def rowS (S : List Nat) : List V := (List.range 12).map fun c => V.bool (decide (c ∈ S))
theorem rowS_len (S : List Nat) : (rowS S).length = 12 := by simp [rowS]
theorem rowS_at (S : List Nat) {k : Nat} (h : k < 12) : (rowS S)[k]? = some (.bool (decide (k ∈ S))) := by simp [rowS, h]
theorem rowS_set (S : List Nat) {k : Nat} (h : k < 12) : (rowS S).take k ++ V.bool true :: (rowS S).drop (k + 1) = rowS (S ++ [k]) := by
  have e : (rowS S).take k ++ V.bool true :: (rowS S).drop (k + 1) = (rowS S).set k (.bool true) := by rw [List.set_eq_take_append_cons_drop, if_pos (by rw [rowS_len]; exact h)]
  rw [e]
  apply List.ext_getElem?
  intro m
  rw [List.getElem?_set]
  by_cases hm : k = m
  · subst hm
    rw [if_pos rfl, if_pos (by rw [rowS_len]; exact h), rowS_at _ h]; simp
  · rw [if_neg hm]
    by_cases h2 : m < 12
    · rw [rowS_at _ h2, rowS_at _ h2]
      have : decide (m ∈ S) = decide (m ∈ S ++ [k]) := by rw [decide_eq_decide]; simp; exact fun e => absurd e.symm hm
      rw [this]
    · rw [List.getElem?_eq_none (by rw [rowS_len]; omega), List.getElem?_eq_none (by rw [rowS_len]; omega)]
theorem some_ct {h : H} {v : V} {l : List Nat} (hs : Sls h.get 1 v (l.map cB)) (hf : ∀ x ∈ l, x < 256) {Q : V → H → Prop} (q : ∀ w h', Ge h h' → h'.WF → Gl h' h.next 1 w ((someL l).map cX) → Q w h') : Acalls Tryz.prog 19 [v] h Q := by
  refine acalls_to Tryz.func19 S.Hlaw27_some_code S.Hlaw27_some_enter (Nat.le_of_ble_eq_true rfl) fun wf => ?_; simp only [S.Hlaw27_some]
  have hlen := hs.len
  have hb := hs.bound
  simp at hlen hb
  obtain ⟨n, hn⟩ : ∃ n, n = (l.take 10).length := ⟨_, rfl⟩
  have hn' : n = min 10 l.length := by rw [hn, List.length_take]
  have mk : makeSliceV h.next 1 1 [.bool false] (.int .i64 12) (.int .i64 12) = some (.sl h.next 12 0 12 (some 12), .push (.row (rowS []))) := rfl
  simp [mk]
  refine loop_up (fun i t h' => ∃ S, S = (l.take i).map (· % 12) ∧ (t 0 = v ∧ t 3 = .sl h.next 12 0 12 (some 12) ∧ t 4 = .int .i64 (i : Nat)) ∧ (Ge h h' ∧ h'.WF ∧ h'.next = h.next + 1) ∧ h'.get h.next = some (.row (rowS S))) n ⟨[], by simp, by simp, ⟨(Ge.refl _).push _, wf.push _, by simp⟩, by simp⟩ ?_
  rintro i t h' hi ⟨S, hS, ⟨t0, t3, t4⟩, ⟨gb, wb, nb⟩, hr⟩ K hK
  have hl2 := (hs.ge wf gb).len
  simp at hl2
  simp [t0, t4, hl2]
  refine guard_meet (fun t' g => (t' 0 = v ∧ t' 3 = .sl h.next 12 0 12 (some 12) ∧ t' 4 = .int .i64 (i : Nat) ∧ t' 15 = .bool (decide (i < n))) ∧ g = h') (fun K' hK' => ?_) ?_
  · by_cases h1 : i < l.length
    · by_cases h2 : i < 10
      · have e : decide (i < n) = true := by rw [decide_eq_true_eq]; omega
        have h2' : (i : Int) < 10 := by omega
        rw [e] at hK'
        simp [h1, t4, h2']
        exact hK' _ _ ⟨by simp [t0, t3, t4], rfl⟩
      · have e : decide (i < n) = false := by rw [decide_eq_false_iff_not]; omega
        have h2' : ¬ (i : Int) < 10 := by omega
        rw [e] at hK'
        simp [h1, t4, h2']
        exact hK' _ _ ⟨by simp [t0, t3, t4], rfl⟩
    · have e : decide (i < n) = false := by rw [decide_eq_false_iff_not]; omega
      rw [e] at hK'
      simp [h1]
      exact hK' _ _ ⟨by simp [t0, t3, t4], rfl⟩
  clear t0 t3 t4 t
  rintro t g ⟨⟨t0, t3, t4, t15⟩, rfl⟩
  by_cases hlt : i < n
  · have h1' : i < l.length := by omega
    obtain ⟨p, qq, o, cs, e1, e2, e3⟩ := (hs.ge wf gb).at1 (f := fun x : Nat => V.int .u8 x) h1'
    have hw := wrap_succ h1' (by omega)
    obtain ⟨k, hk⟩ : ∃ k, k = l[i] % 12 := ⟨_, rfl⟩
    have hk12 : k < 12 := by omega
    have rm : intV .rem .u8 (l[i] : Int) 12 = some (.int .u8 (k : Int)) := by
      show (if (12 : Int) = 0 then none else some (V.int .u8 ((l[i] : Int).tmod 12))) = _
      rw [if_neg (by omega), Int.tmod_eq_emod_of_nonneg (by omega), hk]; rfl
    have kk : (k : Int) < 12 := by omega
    have kle : k + 1 ≤ 12 := by omega
    have rl := rowS_len S
    have rst := rowS_set S hk12
    simp [t0, t3, t4, t15, hlt, e1, e2, e3, rm, kk, hr, rl, kle, rst, hw]
    refine hK _ _ hlt ⟨S ++ [k], ?_, by simp [t0, t3], ⟨gb.set (Nat.le_refl _) _, wb.set (by omega) _, by simp [nb]⟩, by simp⟩
    rw [hS, hk, List.take_add_one, List.getElem?_eq_getElem h1', List.map_append]
    rfl
  · have hin : i = n := by omega
    have hST : S = (l.take 10).map (· % 12) := by
      rw [hS, hin, hn']
      congr 1
      by_cases h10 : 10 ≤ l.length
      · rw [Nat.min_eq_left h10]
      · rw [Nat.min_eq_right (by omega), List.take_of_length_le (Nat.le_refl _), List.take_of_length_le (by omega)]
    simp [t15, hlt]
    clear hK hS
    have hsome : someL l = ((List.range 12).filter fun i => decide (i ∈ S)).map tg1 := by rw [hST]; rfl
    refine loop_up (fun i t h2 => ∃ w, (t 3 = .sl h.next 12 0 12 (some 12) ∧ t 5 = w ∧ t 6 = .int .i64 (i : Nat)) ∧ (Ge g h2 ∧ h2.WF) ∧ Gl h2 g.next 1 w ((((List.range i).filter fun i => decide (i ∈ S)).map tg1).map cX)) 12 ⟨.nilsl, by simp [t3], ⟨Ge.refl _, wb⟩, by simpa using Gl.nil g g.next 1⟩ ?_
    rintro i t h2 hi ⟨w, ⟨t3, t5, t6⟩, ⟨g2, w2⟩, gl⟩ K hK
    have cr : cellsAt h2.get h.next 12 = some (rowS S) := by rw [g2.cells (by omega)]; exact (cellsAt_of (n := 12) hr (rowS_len S)).trans rfl
    by_cases hlt : i < 12
    · have hI : (i : Int) < 12 := by omega
      have ra := rowS_at S hlt
      have hw : IntKind.i64.wrap ((i : Int) + 1) = (i : Int) + 1 := wrap_i64_id (by omega) (by omega)
      have wu : IntKind.u32.wrap (i : Int) = (i : Int) := by simp [IntKind.wrap, IntKind.bits, IntKind.signed]; omega
      have hfl : (List.range (i + 1)).filter (fun i => decide (i ∈ S)) = (List.range i).filter (fun i => decide (i ∈ S)) ++ if decide (i ∈ S) = true then [i] else [] := by
        rw [List.range_succ, List.filter_append]
        simp only [List.filter_cons, List.filter_nil]
      simp [t3, t6, hI, cr, ra]
      cases hx : decide (i ∈ S) with
      | false =>
        simp [t6, hw]
        refine hK _ _ hlt ⟨w, by simp [t3, t5], ⟨g2, w2⟩, ?_⟩
        rw [hfl, hx]; simpa using gl
      | true =>
        have hll : ((List.range i).filter fun i => decide (i ∈ S)).length ≤ i := by have := List.length_filter_le (fun i => decide (i ∈ S)) (List.range i); simp at this; omega
        simp [t5, t6, wu]
        refine tgt1_ct hlt _ ?_
        obtain ⟨v', d, ea, gl2, n3, k3, w3, _⟩ := one_more (bytes := 8) (cX (tg1 i)) gl (by have := g2.1; omega) (attx_len _) rfl rfl (by decide) (by simp only [List.length_map]; omega) (by simp only [List.length_map]; omega)
        obtain ⟨h3, hh3⟩ : ∃ h3, h3 = (h2.push (.row (cX (tg1 i)))).app d := ⟨_, rfl⟩
        rw [← hh3] at gl2 n3 k3 w3
        simp only [cX] at ea hh3
        simp [ea, ← hh3, hw, t6]
        refine hK _ _ hlt ⟨v', by simp [t3], ⟨⟨by have := g2.1; omega, fun x hx => ?_⟩, w3 w2⟩, ?_⟩
        · rw [k3 x (fun hv => by have := (gl.lo x hv).1; omega) (by have := g2.1; omega)]; exact g2.2 x hx
        · rw [hfl, hx]; simpa using gl2
    · have hi2 : i = 12 := by omega
      subst hi2
      rw [← hsome] at gl
      simp [t5, t6]
      refine q w h2 (gb.trans g2) w2 ?_
      rcases gl with h1 | ⟨h1, j, h3, h4⟩
      · exact .inl h1
      · exact .inr ⟨h1, j, by omega, h4⟩
end Go.Am

namespace Go.Am
open Go.Proofs
set_option maxRecDepth 100000
theorem works_run : saysTrue (Fr.runF8 Fr.q.tab 1000000 100 16 [] ⟨0, .nil⟩) = true := by kernel_rfl
theorem works_ct (h : H) : Pure Tryz.prog 16 [] h (.bool true) := pure_true8 Fr.q.tab_ok works_run h
theorem p_no : Fr.KnownOk Tryz.prog [] := fun _ h => by cases h
def plV (six : Bool) : List V := [.int .i64 (if six then 2 else 1), .int .u64 0, .str (if six then [0, 1, 0, 0, 0, 0, 0, 0, 0, 0, 0, 0, 0, 0, 0, 0] else [10, 0, 0, 0]), .int .i64 (if six then 16 else 8), .int .u32 0, .int .u32 0, .int .i64 0, .nilsl, .str [], .bool false, .int .u32 0, .bool false, .int .u32 0, .bool false, .int .u32 0, .int .u32 0, .nilsl, .nilsl, .nilsl, .bool false, .int .u32 0, .nilsl, .int .i64 2, .str [97], .int .u32 0, .int .u32 0, .str [], .str [], .bool false]
theorem pl4_run : Fr.plainRun (Fr.runO8 [] Fr.q.tab 100000 60) 20 [.str [118, 52, 32, 49, 48, 46, 48, 46, 48, 46, 48, 47, 56]] = some (.agg (plV false)) := by kernel_rfl
theorem pl4_ct (h : H) : Pure Tryz.prog 20 [.str [118, 52, 32, 49, 48, 46, 48, 46, 48, 46, 48, 47, 56]] h (.agg (plV false)) := pure_run8 p_no Fr.q.tab_ok pl4_run h
theorem pl6_run : Fr.plainRun (Fr.runO8 [] Fr.q.tab 100000 60) 20 [.str [118, 54, 32, 49, 58, 48, 58, 48, 58, 48, 58, 48, 58, 48, 58, 48, 58, 48, 47, 49, 54]] = some (.agg (plV true)) := by kernel_rfl
theorem pl6_ct (h : H) : Pure Tryz.prog 20 [.str [118, 54, 32, 49, 58, 48, 58, 48, 58, 48, 58, 48, 58, 48, 58, 48, 58, 48, 47, 49, 54]] h (.agg (plV true)) := pure_run8 p_no Fr.q.tab_ok pl6_run h
end Go.Am

namespace Go.Am
open Go.Proofs

set_option maxRecDepth 100000
structure Spo where
  imp : List Nat
  exp : List Nat
  has : List Nat
def spoC (a b c : V) : List V := [a, b, c]
structure SpoAt (g : Nat → Option O) (s : Spo) (a b c : V) : Prop where
  imp : Sls g 1 a (s.imp.map cB)
  exp : Sls g 1 b (s.exp.map cB)
  has : Sls g 1 c (s.has.map cB)
  fi : ∀ x ∈ s.imp, x < 256
  fe : ∀ x ∈ s.exp, x < 256
  fh : ∀ x ∈ s.has, x < 256
theorem SpoAt.ge {a b : H} {s : Spo} {u v w : V} (x : SpoAt a.get s u v w) (wf : a.WF) (g : Ge a b) : SpoAt b.get s u v w := ⟨x.imp.ge wf g, x.exp.ge wf g, x.has.ge wf g, x.fi, x.fe, x.fh⟩
def vrA (s : Spo) : Vr := ⟨[97], 1, someL s.imp, someL s.exp⟩
def vrB (s : Spo) : Vr := ⟨[98], 2, someL s.imp, someL s.exp⟩
def plP (s : Spo) (six : Bool) : Pth := ⟨⟨⟨if six then 2 else 1, 0, if six then [0, 1, 0, 0, 0, 0, 0, 0, 0, 0, 0, 0, 0, 0, 0, 0] else [10, 0, 0, 0], if six then 16 else 8⟩, 9, 0⟩, ⟨0, [], [], false, 0, false, 0, false, 0, 0, [5], someL s.has, [], false, 0, []⟩, ⟨2, [97], 0, 0, [], []⟩, false⟩
theorem someL_len (l : List Nat) : (someL l).length ≤ 12 := by
  unfold someL
  have := List.length_filter_le (fun i => decide (i ∈ (l.take 10).map (· % 12))) (List.range 12)
  simp at this ⊢; omega
theorem someL_mem {l : List Nat} {x : Nat} (h : x ∈ someL l) : ∃ i, i < 12 ∧ x = tg1 i := by
  unfold someL at h
  obtain ⟨i, hi, rfl⟩ := List.mem_map.1 h
  exact ⟨i, by have := (List.mem_filter.1 hi).1; simpa using this, rfl⟩
theorem tg1_is (i : Nat) (h : i < 12) : isTg (tg1 i) = true := by unfold isTg tg1; rw [decide_eq_true_eq]; omega
theorem someL_rise (l : List Nat) : Rise oN (someL l) := by
  unfold Rise someL
  rw [List.pairwise_map]
  refine (List.Pairwise.filter _ ?_)
  refine (List.pairwise_lt_range (n := 12)).imp fun {a b} h => ?_
  rw [cmpN_lt]; unfold tg1; omega
theorem someL_right (l : List Nat) : rightB (someL l) = true := by
  have h1 : risB oN (someL l) = true := by
    unfold risB
    rw [(adjB_rise ordr_n _).2 (someL_rise l), decide_eq_true (by have := someL_len l; omega)]
    rfl
  have h2 : (someL l).all isTg = true := List.all_eq_true.2 fun x hx => by
    obtain ⟨i, hi, rfl⟩ := someL_mem hx
    exact tg1_is i hi
  unfold rightB
  rw [h1, h2]; rfl
theorem vrA_ok (s : Spo) : VrOk (vrA s) := ⟨Nat.le_of_ble_eq_true rfl, ⟨by have := someL_len s.imp; simp [vrA]; omega, fun x hx => by obtain ⟨i, hi, rfl⟩ := someL_mem hx; unfold tg1; omega⟩, ⟨by have := someL_len s.exp; simp [vrA]; omega, fun x hx => by obtain ⟨i, hi, rfl⟩ := someL_mem hx; unfold tg1; omega⟩⟩
theorem vrB_ok (s : Spo) : VrOk (vrB s) := ⟨Nat.le_of_ble_eq_true rfl, ⟨by have := someL_len s.imp; simp [vrB]; omega, fun x hx => by obtain ⟨i, hi, rfl⟩ := someL_mem hx; unfold tg1; omega⟩, ⟨by have := someL_len s.exp; simp [vrB]; omega, fun x hx => by obtain ⟨i, hi, rfl⟩ := someL_mem hx; unfold tg1; omega⟩⟩
theorem vrA_may (s : Spo) : vrfB (vrA s) = true := by
  unfold vrfB vrA
  simp only [someL_right]
  exact (show (nameB [97] && true && true) = true by decide)
theorem vrB_may (s : Spo) : vrfB (vrB s) = true := by
  unfold vrfB vrB
  simp only [someL_right]
  exact (show (nameB [98] && true && true) = true by decide)
theorem att_may {a : Att} (h1 : a.origin = 0) (h2 : a.path = []) (h3 : a.next = []) (h4 : a.hasMed = false ∧ a.med = 0) (h5 : a.hasPref = false ∧ a.pref = 0) (h6 : a.hasOrig = false ∧ a.orig = 0) (h7 : a.aggId = 0) (h8 : a.clus = []) (h9 : risB oN a.comms = true) (h10 : risB oN a.exts = true) (h11 : a.larges = []) : attB a = true := by
  unfold attB
  rw [h1, h2, h3, h4.1, h4.2, h5.1, h5.2, h6.1, h6.2, h7, h8, h9, h10, h11]
  generalize decide (a.aggAS = 0) = b
  cases b <;> decide
theorem plP_att (s : Spo) (six : Bool) : attB (plP s six).att = true := by
  refine att_may rfl rfl rfl ⟨rfl, rfl⟩ ⟨rfl, rfl⟩ ⟨rfl, rfl⟩ rfl rfl (show risB oN [5] = true by decide) ?_ rfl
  have := someL_right s.has
  unfold rightB at this
  rw [Bool.and_eq_true] at this
  exact this.1
theorem n4_may : mayN ⟨⟨1, 0, [10, 0, 0, 0], 8⟩, 9, 0⟩ = true := by decide
theorem n6_may : mayN ⟨⟨2, 0, [0, 1, 0, 0, 0, 0, 0, 0, 0, 0, 0, 0, 0, 0, 0, 0], 16⟩, 9, 0⟩ = true := by decide
theorem u4_may : mayN ⟨⟨4, 1, [10, 0, 0, 0], 8⟩, 9, 77⟩ = true := by decide
theorem u6_may : mayN ⟨⟨5, 1, [0, 1, 0, 0, 0, 0, 0, 0, 0, 0, 0, 0, 0, 0, 0, 0], 16⟩, 9, 77⟩ = true := by decide
theorem plP_may (s : Spo) (six : Bool) : pmayB (plP s six) = true := by
  have h1 : mayN (plP s six).n = true := by cases six; exact n4_may; exact n6_may
  unfold pmayB
  rw [h1, plP_att]
  exact (show (true && true && (if (2 : Int) = 1 then decide (([97] : List UInt8) = []) else decide ((2 : Int) ≤ 2) && decide ((2 : Int) ≤ 5) && nameB [97])) = true by decide)
def upL (x : Spo) : List Nat := putsL oN (someL x.has ++ someL x.exp)
theorem upX_eq (x : Spo) (six : Bool) : upX (vrA x) (plP x six) = upL x := rfl
theorem upL_mem (x : Spo) (y : Nat) : y ∈ upL x ↔ y ∈ someL x.has ∨ y ∈ someL x.exp := by
  have := (puts_rise_mem ordr_n oN_eq (someL x.has ++ someL x.exp) [] List.Pairwise.nil).2 y
  unfold upL putsL
  rw [this]; simp
theorem upL_rise (x : Spo) : Rise oN (upL x) := (puts_rise_mem ordr_n oN_eq (someL x.has ++ someL x.exp) [] List.Pairwise.nil).1
theorem upL_len (x : Spo) : (upL x).length ≤ 24 := by
  have := puts_leX (someL x.has ++ someL x.exp) []
  have h1 := someL_len x.has
  have h2 := someL_len x.exp
  simp only [List.length_append, List.length_nil] at this
  unfold upL putsL
  omega
theorem upL_all (x : Spo) : (upL x).filter isTg = upL x := List.filter_eq_self.2 fun y hy => by
  rcases (upL_mem x y).1 hy with h | h
  · obtain ⟨i, hi, rfl⟩ := someL_mem h; exact tg1_is i hi
  · obtain ⟨i, hi, rfl⟩ := someL_mem h; exact tg1_is i hi
theorem upOk_yes (x : Spo) (six : Bool) : upOk (vrA x) (plP x six) 77 = true := by
  unfold upOk
  rw [vrA_may, plP_may]
  cases six <;> rfl
theorem upP_may (x : Spo) (six : Bool) : pmayB (upP (vrA x) (plP x six) 77) = true := by
  have h1 : mayN (upP (vrA x) (plP x six) 77).n = true := by cases six; exact u4_may; exact u6_may
  have h2 : attB (upP (vrA x) (plP x six) 77).att = true := by
    refine att_may rfl rfl rfl ⟨rfl, rfl⟩ ⟨rfl, rfl⟩ ⟨rfl, rfl⟩ rfl rfl (show risB oN [5] = true by decide) ?_ rfl
    show risB oN (upL x) = true
    unfold risB
    rw [(adjB_rise ordr_n _).2 (upL_rise x), decide_eq_true (by have := upL_len x; omega)]
    rfl
  unfold pmayB
  rw [h1, h2]
  exact (show (true && true && (if (2 : Int) = 1 then decide (([97] : List UInt8) = []) else decide ((2 : Int) ≤ 2) && decide ((2 : Int) ≤ 5) && nameB [97])) = true by decide)
theorem downOk_yes (x y : Spo) (six : Bool) : downOk (vrB y) (upP (vrA x) (plP x six) 77) = true := by
  unfold downOk
  rw [vrB_may, upP_may]
  cases six <;> rfl
theorem check_two (x y : Spo) : checkV [vrA x, vrB y] = 0 := by
  have h1 : ([vrA x, vrB y] : List Vr).all vrfB = true := by simp [vrA_may, vrB_may]
  unfold checkV
  rw [h1]
  simp [vrA, vrB]
theorem want_eq (x : Spo) (B : List Nat) : ((upL x).any fun z => decide (z ∈ B)) = ((B.any fun z => decide (z ∈ someL x.has)) || (B.any fun z => decide (z ∈ someL x.exp))) := by
  rw [Bool.eq_iff_iff, Bool.or_eq_true, List.any_eq_true, List.any_eq_true, List.any_eq_true]
  simp only [decide_eq_true_eq, upL_mem]
  constructor
  · rintro ⟨z, h1 | h1, h2⟩
    · exact .inl ⟨z, h2, h1⟩
    · exact .inr ⟨z, h2, h1⟩
  · rintro (⟨z, h1, h2⟩ | ⟨z, h1, h2⟩)
    · exact ⟨z, .inl h2, h1⟩
    · exact ⟨z, .inr h2, h1⟩
end Go.Am

namespace Go.Am
open Go.Proofs Go.ChangeShapes Go.WideShapes

section
variable {H' : Type} {enc : TypeId × Value → H'} {P : Program} {w : World} {base : Nat} {spare : Nat → Bool} {held : Bool}
theorem weights_at : ∀ {ts : List TypeId} {ds : List (DataW H')}, (DataW.weightsEach P ts ds).all (· ≤ reachBytes) = true → ∀ (i : Nat) (t : TypeId) (d : DataW H'), ts[i]? = some t → ds[i]? = some d → Light P t d
  | [], _, _, _, _, _, h1, _ => by simp at h1
  | _ :: _, [], _, _, _, _, _, h2 => by simp at h2
  | t0 :: ts, d0 :: ds, h, i, t, d, h1, h2 => by
    rw [DataW.weightsEach, List.all_append, Bool.and_eq_true] at h
    cases i with
    | zero =>
      simp at h1 h2
      subst h1 h2
      exact fun n hn => by simpa using List.all_eq_true.1 h.1 n hn
    | succ i => exact weights_at h.2 i t d (by simpa using h1) (by simpa using h2)
theorem deep_st {W0 : World} {μ : Nat → Pl} {h : H} (r : Rel W0 μ h w) (ro : h.Ro) {n : Nat} {t : TypeId} {fs : Array Field} {l : List Dl} (ht : P.underlying t = some (.struct fs)) (hl : dleaves P n t = some l) {b : Nat} {v : Value} {d : DataW H'} {ps : List MemPlace}
    (hok : Value.okWide P w .any b t v) (hd : DataW.Trod enc P w base spare held t v d ps) (hs : Light P t d) :
    ∃ (μ' : Nat → Pl) (h' : H) (vs : List V), Rel W0 μ' h' w ∧ h'.Ro ∧ Ext μ h μ' h' ∧ (∀ i o, h.get i = some o → h'.get i = some o) ∧ VR μ' h' (.agg vs) v ∧ Dls.ok h'.get l vs := by
  unfold Value.okWide at hok
  rw [ht] at hok
  obtain ⟨cs, rfl, _⟩ := hok
  obtain ⟨μ', h', vs, ⟨i1, i2, i3, i4⟩, k, q⟩ := deep_in r ro hl hd hs
  exact ⟨μ', h', vs, i1, i2, i3, i4, ⟨cs.toList, by simp, by simpa [Value.cells] using k⟩, q⟩
end
def spoL : List Dl := [.sl 1 [.lf (.int .u8)], .sl 1 [.lf (.int .u8)], .sl 1 [.lf (.int .u8)]]
theorem b8_of : ∀ {g : Nat → Option O} (ess : List (List V)), (∀ es ∈ ess, Dls.ok g [.lf (.int .u8)] es) → ∃ l : List Nat, ess = l.map cB ∧ ∀ x ∈ l, x < 256
  | _, [], _ => ⟨[], rfl, fun _ h => by cases h⟩
  | g, es :: ess, h => by
    obtain ⟨l, rfl, hl⟩ := b8_of ess fun e he => h e (List.mem_cons_of_mem _ he)
    obtain ⟨v, r, rfl, ⟨n, rfl, hn⟩, rfl⟩ := h es (by simp)
    simp [Lit.wf, IntKind.min, IntKind.max, IntKind.bits, IntKind.signed] at hn
    refine ⟨n.toNat :: l, ?_, fun x hx => ?_⟩
    · simp only [List.map_cons, cB]
      rw [Int.toNat_of_nonneg hn.1]
    · rcases List.mem_cons.1 hx with rfl | hx
      · omega
      · exact hl x hx
theorem b8s_of {g : Nat → Option O} {v : V} (h : Dl.ok g (.sl 1 [.lf (.int .u8)]) v) : ∃ l : List Nat, Sls g 1 v (l.map cB) ∧ ∀ x ∈ l, x < 256 := by
  obtain ⟨ess, s, _, _, q⟩ := h
  obtain ⟨l, rfl, hl⟩ := b8_of ess q
  exact ⟨l, s, hl⟩
theorem spo_of {g : Nat → Option O} {vs : List V} (h : Dls.ok g spoL vs) : ∃ (a b c : V) (s : Spo), vs = spoC a b c ∧ SpoAt g s a b c := by
  obtain ⟨a, r1, rfl, h1, b, r2, rfl, h2, c, r3, rfl, h3, rfl⟩ := h
  obtain ⟨l1, s1, f1⟩ := b8s_of h1
  obtain ⟨l2, s2, f2⟩ := b8s_of h2
  obtain ⟨l3, s3, f3⟩ := b8s_of h3
  exact ⟨a, b, c, ⟨l1, l2, l3⟩, rfl, s1, s2, s3, f1, f2, f3⟩
theorem SpoAt.mono {g g' : Nat → Option O} {s : Spo} {u v w : V} (x : SpoAt g s u v w) (k : ∀ i o, g i = some o → g' i = some o) : SpoAt g' s u v w := ⟨x.imp.mono k, x.exp.mono k, x.has.mono k, x.fi, x.fe, x.fh⟩
end Go.Am

namespace Go.Am
open Go.Proofs

set_option maxRecDepth 100000
theorem flatX_ids (l : List Nat) : V.idss (l.map cX).flatten = [] := by
  induction l with
  | nil => rfl
  | cons a l ih => simp [cX, V.idss, V.ids] at ih ⊢; exact ih
theorem someF_ct {h : H} {v : V} {l : List Nat} (hs : Sls h.get 1 v (l.map cB)) (hf : ∀ x ∈ l, x < 256) {Q : V → H → Prop} (q1 : ((someL l).map cX).flatten = [] → Q .nilsl h)
    (q2 : ((someL l).map cX).flatten ≠ [] → Q (.sl h.next ((someL l).map cX).flatten.length 0 (someL l).length none) (h.push (.grow 1 ((someL l).map cX).flatten))) : Acalls Tryz.prog 19 [v] h Q := by
  refine Acalls.fresh (sz := 1) (len := (someL l).length) (some_ct hs hf fun w h' g w' gl => ⟨g, ?_⟩) (flatX_ids _) q1 q2
  rcases gl with ⟨e, rfl⟩ | ⟨hne, j, j1, j2, rfl, j4⟩
  · exact .inl ⟨rfl, by rw [e]; rfl⟩
  · refine .inr ⟨fun e => hne ?_, j, by simp, j1, j4⟩
    have := flat_len (attx_len (someL l))
    rw [e] at this
    simp at this
    have h0 : someL l = [] := List.eq_nil_of_length_eq_zero this.symm
    rw [h0]; rfl
structure TwoAt (h H : H) (l m : List Nat) (vi ve : V) : Prop where
  ge : Ge h H
  wf : H.WF
  one : vi.one = true ∧ ve.one = true
  imp : Sls H.get 1 vi (l.map cX)
  exp : Sls H.get 1 ve (m.map cX)
def plE (six : Bool) (vc vx : V) : List V := [.int .i64 (if six then 2 else 1), .int .u64 0, .str (if six then [0, 1, 0, 0, 0, 0, 0, 0, 0, 0, 0, 0, 0, 0, 0, 0] else [10, 0, 0, 0]), .int .i64 (if six then 16 else 8), .int .u32 9, .int .u32 0, .int .i64 0, .nilsl, .str [], .bool false, .int .u32 0, .bool false, .int .u32 0, .bool false, .int .u32 0, .int .u32 0, vc, vx, .nilsl, .bool false, .int .u32 0, .nilsl, .int .i64 2, .str [97], .int .u32 0, .int .u32 0, .str [], .str [], .bool false]
def dnE (six : Bool) (wp wc wx wl wk : V) : List V := [.int .i64 (if six then 2 else 1), .int .u64 0, .str (if six then [0, 1, 0, 0, 0, 0, 0, 0, 0, 0, 0, 0, 0, 0, 0, 0] else [10, 0, 0, 0]), .int .i64 (if six then 16 else 8), .int .u32 9, .int .u32 0, .int .i64 0, wp, .str [], .bool false, .int .u32 0, .bool false, .int .u32 0, .bool false, .int .u32 0, .int .u32 0, wc, wx, wl, .bool false, .int .u32 0, wk, .int .i64 2, .str [97], .int .u32 0, .int .u32 0, .str [], .str [98], .bool false]
theorem law_ct {h : H} {x y : Spo} {six : Bool} {a b c d e f : V} (X : SpoAt h.get x a b c) (Y : SpoAt h.get y d e f) : Pure Tryz.prog 5 [.agg (spoC a b c), .agg (spoC d e f), .bool six] h (.bool true) := by
  refine pure_to Tryz.func5 S.Hlaw27_VrfApart_code S.Hlaw27_VrfApart_enter rfl (Nat.le_of_ble_eq_true rfl) fun wf => ?_; simp only [S.Hlaw27_VrfApart]
  have xa := X.imp.one
  have xb := X.exp.one
  have xc := X.has.one
  have ya := Y.imp.one
  have yb := Y.exp.one
  have yc := Y.has.one
  obtain ⟨h2, hh2⟩ : ∃ h2, h2 = (h.push (.row [a, b, c])).push (.row [d, e, f]) := ⟨_, rfl⟩
  have g2 : Ge h h2 := by rw [hh2]; exact ((Ge.refl _).push _).push _
  have w2 : h2.WF := by rw [hh2]; exact (wf.push _).push _
  have n2 : h2.next = h.next + 2 := by rw [hh2]; simp
  have cA : cellsAt h2.get h.next 3 = some [a, b, c] := by rw [hh2]; simp
  have c2 : cellsAt h2.get (h.next + 1) 3 = some [d, e, f] := by rw [hh2]; simp
  simp [spoC, xa, xb, xc, ya, yb, yc]
  rw [← hh2]
  have hr : room = 16 := rfl
  have ghA := g2
  have wh2 := w2
  refine dreg_dwp ?_
  simp [cA]
  refine dcall_of (callEv_list (h := h2) (cells := ((someL x.imp).map cX).flatten) (len := (someL x.imp).length) (sz := 1) (by simp [room]) (by omega) (fun i hi => rfl) (flatX_ids _) fun h9 g9 Q' q1 q2 => someF_ct ((X.ge wf (ghA.trans g9)).imp) X.fi q1 q2) ?_
  obtain ⟨getA1, hgetA1⟩ : ∃ g, g = upds h2.get (names (h2.next + 2 * room) (glO 1 ((someL x.imp).map cX).flatten)) := ⟨_, rfl⟩
  have hgA1 : ∀ i, i ≠ h2.next + 2 * room → getA1 i = h2.get i := fun i hi => by rw [hgetA1]; exact upds_gl hi
  have dA1 := cellsAt_congr (n := 3) (hgA1 (h.next) (by omega))
  rw [cA] at dA1
  simp
  rw [← hgetA1]
  simp [dA1]
  refine dcall_of (callEv_list (h := h2) (cells := ((someL x.exp).map cX).flatten) (len := (someL x.exp).length) (sz := 1) (by simp [room]) (by omega) (fun i hi => hgA1 i (by omega)) (flatX_ids _) fun h9 g9 Q' q1 q2 => someF_ct ((X.ge wf (ghA.trans g9)).exp) X.fe q1 q2) ?_
  simp
  obtain ⟨getA2, hgetA2⟩ : ∃ g, g = upds getA1 (names (h2.next + 5 * room) (glO 1 ((someL x.exp).map cX).flatten)) := ⟨_, rfl⟩
  have hgA2 : ∀ i, i ≠ h2.next + 5 * room → getA2 i = getA1 i := fun i hi => by rw [hgetA2]; exact upds_gl hi
  rw [← hgetA2]
  obtain ⟨vAi, hvAi⟩ : ∃ v, v = glV (h2.next + 2 * room) ((someL x.imp).map cX).flatten (someL x.imp).length := ⟨_, rfl⟩
  obtain ⟨vAe, hvAe⟩ : ∃ v, v = glV (h2.next + 5 * room) ((someL x.exp).map cX).flatten (someL x.exp).length := ⟨_, rfl⟩
  rw [← hvAi, ← hvAe]
  have onAi : vAi.one = true := by rw [hvAi]; exact glV_one
  have onAe : vAe.one = true := by rw [hvAe]; exact glV_one
  simp [onAi, onAe, solid_of_one onAi, cells_of_one onAi, solid_of_one onAe, cells_of_one onAe, upds_one]
  refine dwp_end ?_ ?_
  · intro q hq
    simp only [List.mem_cons, List.not_mem_nil, or_false] at hq
    rcases hq with rfl | rfl | rfl | rfl | rfl <;> simp [evAt, apart, I.foot, refOf] <;> (try (intros; omega))
    all_goals (intro p o hp; have := names_gl hp; simp at this; omega)
  obtain ⟨hA, hhhA⟩ : ∃ H : H, H = ⟨h2.next + 9 * room, upds (upds getA2 [(h2.next + 7 * room, .row [.str [], .int .u64 0, .nilsl, .nilsl])]) [(h2.next + 7 * room, .row [.str [97], .int .u64 1, vAi, vAe])]⟩ := ⟨_, rfl⟩
  have nhA : hA.next = h2.next + 9 * room := by rw [hhhA]
  have rhA : hA.get (h2.next + 7 * room) = some (.row [.str [97], .int .u64 1, vAi, vAe]) := by rw [hhhA]; simp only; rw [upds_one, if_pos rfl]
  have mhA : ∀ i, i ≠ h2.next + 7 * room → hA.get i = getA2 i := fun i hi => by rw [hhhA]; simp only; rw [upds_one, if_neg hi, upds_one, if_neg hi]
  have oldhA : ∀ i, i < h2.next → hA.get i = h2.get i := fun i hi => by rw [mhA i (by omega), hgA2 i (by omega), hgA1 i (by omega)]
  have gghA : Ge h2 hA := ⟨by omega, oldhA⟩
  have whA : hA.WF := fun i hi => by rw [mhA i (by omega), hgA2 i (by omega), hgA1 i (by omega), wh2 i (by omega)]
  have sihA : Sls hA.get 1 vAi ((someL x.imp).map cX) := by
    have := gl_of (get := hA.get) (nx := hA.next) (lo := h2.next) (k := h2.next + 2 * room) (sz := 1) (es := (someL x.imp).map cX) (by omega) (by omega) (by simp) (attx_len _) (fun hne => by
      rw [mhA _ (by omega), hgA2 _ (by omega), hgetA1]
      exact upds_gl_at (fun e => hne (by have := flat_len (attx_len (someL x.imp)); rw [e] at this; simp at this; have h0 := List.eq_nil_of_length_eq_zero this.symm; rw [h0]; rfl)))
    rw [List.length_map, ← hvAi] at this
    exact this.sls (attx_len _) (by have := someL_len x.imp; simp; omega)
  have sehA : Sls hA.get 1 vAe ((someL x.exp).map cX) := by
    have := gl_of (get := hA.get) (nx := hA.next) (lo := h2.next) (k := h2.next + 5 * room) (sz := 1) (es := (someL x.exp).map cX) (by omega) (by omega) (by simp) (attx_len _) (fun hne => by
      rw [mhA _ (by omega), hgetA2]
      exact upds_gl_at (fun e => hne (by have := flat_len (attx_len (someL x.exp)); rw [e] at this; simp at this; have h0 := List.eq_nil_of_length_eq_zero this.symm; rw [h0]; rfl)))
    rw [List.length_map, ← hvAe] at this
    exact this.sls (attx_len _) (by have := someL_len x.exp; simp; omega)
  rw [← hhhA]
  have ghhA := ghA.trans gghA
  simp
  have cB : cellsAt hA.get (h.next + 1) 3 = some [d, e, f] := (gghA.cells (by omega)).trans c2
  have ghB := ghhA
  have whA' := whA
  refine dreg_dwp ?_
  simp [cB]
  refine dcall_of (callEv_list (h := hA) (cells := ((someL y.imp).map cX).flatten) (len := (someL y.imp).length) (sz := 1) (by simp [room]) (by omega) (fun i hi => rfl) (flatX_ids _) fun h9 g9 Q' q1 q2 => someF_ct ((Y.ge wf (ghB.trans g9)).imp) Y.fi q1 q2) ?_
  obtain ⟨getB1, hgetB1⟩ : ∃ g, g = upds hA.get (names (hA.next + 2 * room) (glO 1 ((someL y.imp).map cX).flatten)) := ⟨_, rfl⟩
  have hgB1 : ∀ i, i ≠ hA.next + 2 * room → getB1 i = hA.get i := fun i hi => by rw [hgetB1]; exact upds_gl hi
  have dB1 := cellsAt_congr (n := 3) (hgB1 (h.next + 1) (by omega))
  rw [cB] at dB1
  simp
  rw [← hgetB1]
  simp [dB1]
  refine dcall_of (callEv_list (h := hA) (cells := ((someL y.exp).map cX).flatten) (len := (someL y.exp).length) (sz := 1) (by simp [room]) (by omega) (fun i hi => hgB1 i (by omega)) (flatX_ids _) fun h9 g9 Q' q1 q2 => someF_ct ((Y.ge wf (ghB.trans g9)).exp) Y.fe q1 q2) ?_
  simp
  obtain ⟨getB2, hgetB2⟩ : ∃ g, g = upds getB1 (names (hA.next + 5 * room) (glO 1 ((someL y.exp).map cX).flatten)) := ⟨_, rfl⟩
  have hgB2 : ∀ i, i ≠ hA.next + 5 * room → getB2 i = getB1 i := fun i hi => by rw [hgetB2]; exact upds_gl hi
  rw [← hgetB2]
  obtain ⟨vBi, hvBi⟩ : ∃ v, v = glV (hA.next + 2 * room) ((someL y.imp).map cX).flatten (someL y.imp).length := ⟨_, rfl⟩
  obtain ⟨vBe, hvBe⟩ : ∃ v, v = glV (hA.next + 5 * room) ((someL y.exp).map cX).flatten (someL y.exp).length := ⟨_, rfl⟩
  rw [← hvBi, ← hvBe]
  have onBi : vBi.one = true := by rw [hvBi]; exact glV_one
  have onBe : vBe.one = true := by rw [hvBe]; exact glV_one
  simp [onBi, onBe, solid_of_one onBi, cells_of_one onBi, solid_of_one onBe, cells_of_one onBe, upds_one]
  refine dwp_end ?_ ?_
  · intro q hq
    simp only [List.mem_cons, List.not_mem_nil, or_false] at hq
    rcases hq with rfl | rfl | rfl | rfl | rfl <;> simp [evAt, apart, I.foot, refOf] <;> (try (intros; omega))
    all_goals (intro p o hp; have := names_gl hp; simp at this; omega)
  obtain ⟨hB, hhhB⟩ : ∃ H : H, H = ⟨hA.next + 9 * room, upds (upds getB2 [(hA.next + 7 * room, .row [.str [], .int .u64 0, .nilsl, .nilsl])]) [(hA.next + 7 * room, .row [.str [98], .int .u64 2, vBi, vBe])]⟩ := ⟨_, rfl⟩
  have nhB : hB.next = hA.next + 9 * room := by rw [hhhB]
  have rhB : hB.get (hA.next + 7 * room) = some (.row [.str [98], .int .u64 2, vBi, vBe]) := by rw [hhhB]; simp only; rw [upds_one, if_pos rfl]
  have mhB : ∀ i, i ≠ hA.next + 7 * room → hB.get i = getB2 i := fun i hi => by rw [hhhB]; simp only; rw [upds_one, if_neg hi, upds_one, if_neg hi]
  have oldhB : ∀ i, i < hA.next → hB.get i = hA.get i := fun i hi => by rw [mhB i (by omega), hgB2 i (by omega), hgB1 i (by omega)]
  have gghB : Ge hA hB := ⟨by omega, oldhB⟩
  have whB : hB.WF := fun i hi => by rw [mhB i (by omega), hgB2 i (by omega), hgB1 i (by omega), whA i (by omega)]
  have sihB : Sls hB.get 1 vBi ((someL y.imp).map cX) := by
    have := gl_of (get := hB.get) (nx := hB.next) (lo := hA.next) (k := hA.next + 2 * room) (sz := 1) (es := (someL y.imp).map cX) (by omega) (by omega) (by simp) (attx_len _) (fun hne => by
      rw [mhB _ (by omega), hgB2 _ (by omega), hgetB1]
      exact upds_gl_at (fun e => hne (by have := flat_len (attx_len (someL y.imp)); rw [e] at this; simp at this; have h0 := List.eq_nil_of_length_eq_zero this.symm; rw [h0]; rfl)))
    rw [List.length_map, ← hvBi] at this
    exact this.sls (attx_len _) (by have := someL_len y.imp; simp; omega)
  have sehB : Sls hB.get 1 vBe ((someL y.exp).map cX) := by
    have := gl_of (get := hB.get) (nx := hB.next) (lo := hA.next) (k := hA.next + 5 * room) (sz := 1) (es := (someL y.exp).map cX) (by omega) (by omega) (by simp) (attx_len _) (fun hne => by
      rw [mhB _ (by omega), hgetB2]
      exact upds_gl_at (fun e => hne (by have := flat_len (attx_len (someL y.exp)); rw [e] at this; simp at this; have h0 := List.eq_nil_of_length_eq_zero this.symm; rw [h0]; rfl)))
    rw [List.length_map, ← hvBe] at this
    exact this.sls (attx_len _) (by have := someL_len y.exp; simp; omega)
  rw [← hhhB]
  have ghhB := ghB.trans gghB
  simp
  refine pl4_ct hB _ ?_
  simp [plV]
  obtain ⟨P9, hP9⟩ : ∃ P9, P9 = hB.next := ⟨_, rfl⟩
  obtain ⟨hC0, hhC0⟩ : ∃ hC0, hC0 = hB.push (.row (plV false)) := ⟨_, rfl⟩
  have zC0 : (hB.push (.row pathZ)).set hB.next (.row (plV false)) = hC0 := by rw [hhC0]; exact push_set_last _ _ _ rfl
  simp only [plV, pathZ, Bool.false_eq_true, if_false] at zC0
  rw [zC0]
  have gC0 : Ge hB hC0 := by rw [hhC0]; exact (Ge.refl _).push _
  have wC0 : hC0.WF := by rw [hhC0]; exact whB.push _
  have nC0 : hC0.next = hB.next + 1 := by rw [hhC0]; simp
  have rC0 : hC0.get P9 = some (.row (plV false)) := by rw [hhC0, hP9]; simp
  rw [← hP9]
  refine cond_cut (fun t' h' => (t' 3 = .ptr h.next 3 0 ∧ t' 7 = .ptr (h2.next + 7 * room) 4 0 ∧ t' 8 = .ptr (hA.next + 7 * room) 4 0 ∧ t' 9 = .ptr P9 29 0) ∧ h'.WF ∧ Ge hB h' ∧ h'.next = hC0.next ∧ h'.get P9 = some (.row (plV six))) (fun hs R hR => ?_) (fun hs R hR => ?_) ?_
  · simp
    refine pl6_ct hC0 _ ?_
    simp only [plV, Bool.false_eq_true, if_false] at rC0
    simp [plV, rC0]
    refine hR _ _ ⟨by simp, wC0.set (by omega) _, gC0.set (by omega) _, by simp, by simp [plV, hs]⟩
  · simp
    exact hR _ _ ⟨by simp, wC0, gC0, rfl, by rw [rC0, hs]⟩
  rintro t hC ⟨⟨t3, t7, t8, t9⟩, wC, gC, nC, rC⟩
  have ghC : Ge h hC := ghhB.trans gC
  have nmA : h2.next ≤ hA.next := gghA.1
  have nmB : hA.next ≤ hB.next := gghB.1
  have nmC : hB.next ≤ hC.next := gC.1
  have gAC : Ge hA hC := gghB.trans gC
  have cXC : cellsAt hC.get h.next 3 = some [a, b, c] := by rw [((gghA.trans gAC).cells (by omega))]; exact cA
  simp [t3, cXC]
  refine some_ct ((X.ge wf ghC).has) X.fh fun vx hD gD wD glD => ?_
  have rD : hD.get P9 = some (.row (plV six)) := (gD.2 _ (by omega)).trans rC
  have nmD : hC.next ≤ hD.next := gD.1
  have ox := glD.one
  simp only [plV] at rD
  have ne9 : ¬ P9 = hD.next := by omega
  simp [t9, rD, solid_of_one ox, cells_of_one ox, solid_slv, ne9]
  obtain ⟨hE, hhE⟩ : ∃ hE, hE = ((hD.set P9 (.row (plE six .nilsl vx))).push (.row [.int .u32 5])).set P9 (.row (plE six (.sl hD.next 1 0 1 (some 1)) vx)) := ⟨_, rfl⟩
  have nE : hE.next = hD.next + 1 := by rw [hhE]; simp
  have wE : hE.WF := by rw [hhE]; exact ((wD.set (by omega) _).push _).set (by simp; omega) _
  have kE : ∀ i, i ≠ P9 → i < hD.next → hE.get i = hD.get i := fun i h1 h2 => by rw [hhE, H.get_set, if_neg h1, H.get_push, if_neg (by simp; omega), H.get_set, if_neg h1]
  have rE : hE.get P9 = some (.row (plE six (.sl hD.next 1 0 1 (some 1)) vx)) := by rw [hhE]; simp
  have r5 : hE.get hD.next = some (.row [.int .u32 5]) := by rw [hhE, H.get_set, if_neg (fun e => ne9 e.symm)]; simp
  have old : ∀ i, i < hB.next → hE.get i = hB.get i := fun i hi => by rw [kE i (by omega) (by omega), gD.2 i (by omega), gC.2 i hi]
  have ghE : Ge h hE := ⟨by omega, fun i hi => by rw [old i (by have := ghhB.1; omega), ghhB.2 i hi]⟩
  have sx : Sls hE.get 1 vx ((someL x.has).map cX) := (glD.keep (by omega) fun i hi => kE i (by have := (glD.lo i hi).1; omega) (glD.lo i hi).2).sls (attx_len _) (by have := someL_len x.has; simp; omega)
  have s5 : Sls hE.get 1 (.sl hD.next 1 0 1 (some 1)) ([5].map cP) := ⟨.inr ⟨_, _, _, _, rfl⟩, by simp [cP], by rw [elemsV_sl, if_neg (by decide), cellsAt_of (n := 1) r5 rfl]; rfl, by simp⟩
  have n0 : ∀ sz, Sls hE.get sz .nilsl [] := fun sz => ⟨.inl ⟨rfl, .inl rfl⟩, by simp, rfl, by simp⟩
  have AE : AttAt hE.get (plP x six).att .nilsl (.sl hD.next 1 0 1 (some 1)) vx .nilsl .nilsl := ⟨⟨[], n0 _, rfl, fun i s h => by simp [plP] at h⟩, s5, sx, n0 _, n0 _⟩
  have gBE : Ge hB hE := ⟨by omega, old⟩
  have rAE : hE.get (h2.next + 7 * room) = some (.row [.str [97], .int .u64 1, vAi, vAe]) := by rw [old _ (by omega), gghB.2 _ (by omega)]; exact rhA
  have rBE : hE.get (hA.next + 7 * room) = some (.row [.str [98], .int .u64 2, vBi, vBe]) := by rw [old _ (by omega)]; exact rhB
  have VAE : VrAt hE.get (vrA x) vAi vAe := ⟨sihA.ge whA (gghB.trans gBE), sehA.ge whA (gghB.trans gBE)⟩
  have VBE : VrAt hE.get (vrB y) vBi vBe := ⟨sihB.ge whB gBE, sehB.ge whB gBE⟩
  have cAE : cellsAt hE.get (h2.next + 7 * room) 4 = some [.str [97], .int .u64 1, vAi, vAe] := (cellsAt_of (n := 4) rAE rfl).trans rfl
  have cPE : cellsAt hE.get P9 29 = some (plE six (.sl hD.next 1 0 1 (some 1)) vx) := (cellsAt_of (n := 29) rE rfl).trans rfl
  have pe : pathC (plP x six) .nilsl (.sl hD.next 1 0 1 (some 1)) vx .nilsl .nilsl = plE six (.sl hD.next 1 0 1 (some 1)) vx := by cases six <;> rfl
  have upc : ∀ Q : V → H → Prop, (∀ wp wc wx wl wk h', Ge hE h' → h'.WF → AttR h' hE.next (plP x six).att wp wc wl wk → ExAt h' hE.next wx (upL x) → Q (.tup [.agg (pathC (upP (vrA x) (plP x six) 77) wp wc wx wl wk), .int .i64 0]) h') → Acalls Tryz.prog 8 [.agg [.str [97], .int .u64 1, vAi, vAe], .agg (plE six (.sl hD.next 1 0 1 (some 1)) vx), .int .u32 77] hE Q := fun Q q => by
    have := up_ct (p := plP x six) (label := 77) (Q := Q) VAE (vrA_ok x) AE (by simp [plP]) (fun e => by rw [upOk_yes] at e; cases e) (fun _ e => by rw [upX_eq] at e; have := upL_len x; omega) fun _ _ => q
    rw [pe] at this
    exact this
  simp only [plE] at hhE
  rw [← hhE]
  simp only [plE] at cPE upc
  simp [t7, t9, cAE, cPE]
  refine upc _ fun wp wc wx wl wk hF gF wF rF eF => ?_
  obtain ⟨U, hU⟩ : ∃ U, U = upP (vrA x) (plP x six) 77 := ⟨_, rfl⟩
  have AU : AttAt hF.get U.att wp wc wx wl wk := by rw [hU]; exact rF.at (attB_sz (plP_att x six)) eF.1
  obtain ⟨esU, PU⟩ := AU.path
  obtain ⟨rU, hrU⟩ : ∃ rU, rU = pathC U wp wc wx wl wk := ⟨_, rfl⟩
  have lU : rU.length = 29 := by rw [hrU]; rfl
  have oU : rU.all V.one = true := by rw [hrU]; simp [pathC, PU.sls.one, AU.comms.one, AU.exts.one, AU.larges.one, AU.clus.one]
  have aU : (rU.drop 6).take 16 = attC U.att wp wc wx wl wk := by rw [hrU]; rfl
  rw [← hU, ← hrU]
  have oU' : ∀ x ∈ rU, x.one = true := List.all_eq_true.1 oU
  simp [lU, oU]
  obtain ⟨hG, hhG⟩ : ∃ hG, hG = hF.push (.row rU) := ⟨_, rfl⟩
  have zG : (hF.push (.row pathZ)).set hF.next (.row rU) = hG := by rw [hhG]; exact push_set_last _ _ _ rfl
  simp only [pathZ] at zG
  rw [zG]
  have gG : Ge hF hG := by rw [hhG]; exact (Ge.refl _).push _
  have wG : hG.WF := by rw [hhG]; exact wF.push _
  have nG : hG.next = hF.next + 1 := by rw [hhG]; simp
  have cUG : ∀ g, Ge hG g → cellsAt g.get hF.next 29 = some rU := fun g gg => by rw [gg.cells (by omega)]; exact (cellsAt_of (n := 29) (show hG.get hF.next = some (.row rU) by rw [hhG]; simp) lU).trans rfl
  have gEG : Ge hE hG := gF.trans gG
  have nEF : hE.next ≤ hF.next := gF.1
  have cAG : ∀ g, Ge hG g → cellsAt g.get (h2.next + 7 * room) 4 = some [.str [97], .int .u64 1, vAi, vAe] := fun g gg => by rw [(gEG.trans gg).cells (by omega)]; exact cAE
  have cBE : cellsAt hE.get (hA.next + 7 * room) 4 = some [.str [98], .int .u64 2, vBi, vBe] := (cellsAt_of (n := 4) rBE rfl).trans rfl
  have cBG : ∀ g, Ge hG g → cellsAt g.get (hA.next + 7 * room) 4 = some [.str [98], .int .u64 2, vBi, vBe] := fun g gg => by rw [(gEG.trans gg).cells (by omega)]; exact cBE
  have rp2 : repCells 2 [V.str [], V.int .u64 0, V.nilsl, V.nilsl] = [.str [], .int .u64 0, .nilsl, .nilsl, .str [], .int .u64 0, .nilsl, .nilsl] := rfl
  simp [cAG hG (Ge.refl _), cBG hG (Ge.refl _), t7, t8, rp2, onAi, onAe, onBi, onBe]
  obtain ⟨hH, hhH⟩ : ∃ hH, hH = hG.push (.row [.str [97], .int .u64 1, vAi, vAe, .str [98], .int .u64 2, vBi, vBe]) := ⟨_, rfl⟩
  have gH : Ge hG hH := by rw [hhH]; exact (Ge.refl _).push _
  have wH : hH.WF := by rw [hhH]; exact wG.push _
  have nH : hH.next = hG.next + 1 := by rw [hhH]; simp
  have gEH : Ge hE hH := gEG.trans gH
  rw [← hhH]
  have VS : VrsAt hH.get (.sl hG.next 8 0 2 (some 2)) [vrA x, vrB y] [[.str [97], .int .u64 1, vAi, vAe], [.str [98], .int .u64 2, vBi, vBe]] := by
    refine ⟨⟨.inr ⟨_, _, _, _, rfl⟩, by simp, ?_, by simp⟩, rfl, fun i z hz => ?_⟩
    · rw [elemsV_sl, if_neg (by decide), cellsAt_of (n := 8) (show hH.get hG.next = some (.row [.str [97], .int .u64 1, vAi, vAe, .str [98], .int .u64 2, vBi, vBe]) by rw [hhH]; simp) rfl]; rfl
    · match i, hz with
      | 0, hz => simp at hz; subst hz; exact ⟨vAi, vAe, rfl, VAE.ge wE gEH⟩
      | 1, hz => simp at hz; subst hz; exact ⟨vBi, vBe, rfl, VBE.ge wE gEH⟩
      | n + 2, hz => simp at hz
  refine vcheck_ct VS (fun z hz => by simp at hz; rcases hz with rfl | rfl; exact vrA_ok x; exact vrB_ok y) _ ?_
  rw [check_two]
  simp [cUG hH gH, lU, aU]
  have AUH := AU.ge wF (gG.trans gH)
  have hUx : U.att.exts = upL x := by rw [hU]; rfl
  refine targets_ct AUH (by rw [hUx]; have := upL_len x; omega) fun vt hI gI wI glI => ?_
  rw [hUx, upL_all] at glI
  have st : Sls hI.get 1 vt ((upL x).map cX) := glI.sls (attx_len _) (by have := upL_len x; simp; omega)
  have gHI : Ge hG hI := gH.trans gI
  have gEI : Ge hE hI := gEH.trans gI
  simp
  refine loop_up (fun i t h' => (t 7 = .ptr (h2.next + 7 * room) 4 0 ∧ t 8 = .ptr (hA.next + 7 * room) 4 0 ∧ t 9 = .ptr P9 29 0 ∧ t 10 = .ptr hF.next 29 0 ∧ t 12 = vt ∧ t 13 = .int .i64 (i : Nat)) ∧ Ge hI h' ∧ h'.WF) 12 ⟨by simp [t7, t8, t9], Ge.refl _, wI⟩ ?_
  clear t7 t8 t9 t3 t
  rintro i t hJ hi ⟨⟨t7, t8, t9, t10, t12, t13⟩, gJ, wJ⟩ K hK
  have gEJ : Ge hE hJ := gEI.trans gJ
  have gGJ : Ge hG hJ := gHI.trans gJ
  have cPJ : ∀ g, Ge hJ g → cellsAt g.get P9 29 = some (plE six (.sl hD.next 1 0 1 (some 1)) vx) := fun g gg => by
    have e : cellsAt hE.get P9 29 = some (plE six (.sl hD.next 1 0 1 (some 1)) vx) := (cellsAt_of (n := 29) rE rfl).trans rfl
    rw [(gEJ.trans gg).cells (by omega)]; exact e
  simp only [plE] at cPJ
  by_cases hlt : i < 12
  · have hI12 : (i : Int) < 12 := by omega
    have hw : IntKind.i64.wrap ((i : Int) + 1) = (i : Int) + 1 := wrap_i64_id (by omega) (by omega)
    have wu : IntKind.u32.wrap (i : Int) = (i : Int) := by simp [IntKind.wrap, IntKind.bits, IntKind.signed]; omega
    simp [t13, hI12, wu]
    refine tgt1_ct hlt _ ?_
    have s1 : ∀ g k, g k = some (.row [.int .u64 (tg1 i : Nat)]) → Sls g 1 (.sl k 1 0 1 (some 1)) ([tg1 i].map cX) := fun g k e => ⟨.inr ⟨_, _, _, _, rfl⟩, by simp [cX], by rw [elemsV_sl, if_neg (by decide), cellsAt_of (n := 1) e rfl]; rfl, by simp⟩
    have any1 : ∀ m : List Nat, ([tg1 i].any fun z => decide (z ∈ m)) = decide (tg1 i ∈ m) := fun m => by simp
    obtain ⟨g1, hg1⟩ : ∃ g1, g1 = hJ.push (.row [.int .u64 (tg1 i : Nat)]) := ⟨_, rfl⟩
    have gg1 : Ge hJ g1 := by rw [hg1]; exact (Ge.refl _).push _
    have wg1 : g1.WF := by rw [hg1]; exact wJ.push _
    have ng1 : g1.next = hJ.next + 1 := by rw [hg1]; simp
    have q1 := meetg_ct (s1 g1.get hJ.next (by rw [hg1]; simp)) (sx.ge wE (gEJ.trans gg1))
    rw [any1] at q1
    obtain ⟨b1, hb1⟩ : ∃ b1, b1 = decide (tg1 i ∈ someL x.has) := ⟨_, rfl⟩
    rw [← hb1] at q1
    have nP : ¬ P9 = hJ.next := by have := gEJ.1; omega
    have nA' : ¬ h2.next + 7 * room = g1.next := by have := gEJ.1; have := nmA; omega
    simp [t9, nP, cPJ hJ (Ge.refl _)]
    rw [← hg1]
    refine q1 _ ?_
    obtain ⟨b2, hb2⟩ : ∃ b2, b2 = decide (tg1 i ∈ someL x.exp) := ⟨_, rfl⟩
    obtain ⟨b3, hb3⟩ : ∃ b3, b3 = decide (tg1 i ∈ upL x) := ⟨_, rfl⟩
    have hb : b3 = (b1 || b2) := by rw [hb1, hb2, hb3, ← Bool.decide_or, decide_eq_decide]; exact upL_mem x _
    simp
    refine guard_meet (fun t' g => (t' 7 = .ptr (h2.next + 7 * room) 4 0 ∧ t' 8 = .ptr (hA.next + 7 * room) 4 0 ∧ t' 9 = .ptr P9 29 0 ∧ t' 10 = .ptr hF.next 29 0 ∧ t' 12 = vt ∧ t' 13 = .int .i64 (i : Nat) ∧ t' 14 = .int .u64 (tg1 i : Nat) ∧ t' 15 = .bool (b1 || b2)) ∧ Ge hJ g ∧ g.WF) (fun K' hK' => ?_) ?_
    · cases b1 with
      | true =>
        simp
        exact hK' _ _ ⟨by simp [t7, t8, t9, t10, t12, t13], gg1, wg1⟩
      | false =>
        obtain ⟨g2', hg2⟩ : ∃ g2', g2' = g1.push (.row [.int .u64 (tg1 i : Nat)]) := ⟨_, rfl⟩
        have gg2 : Ge g1 g2' := by rw [hg2]; exact (Ge.refl _).push _
        have wg2 : g2'.WF := by rw [hg2]; exact wg1.push _
        have q2 := meetg_ct (s1 g2'.get g1.next (by rw [hg2]; simp)) ((VAE.ge wE (gEJ.trans (gg1.trans gg2))).exp)
        rw [any1] at q2
        have hb2' : decide (tg1 i ∈ (vrA x).exp) = b2 := hb2.symm
        rw [hb2'] at q2
        simp [t7, nA', cAG g1 (gGJ.trans gg1)]
        rw [← hg2]
        refine q2 _ ?_
        simp
        exact hK' _ _ ⟨by simp [t7, t8, t9, t10, t12, t13], gg1.trans gg2, wg2⟩
    clear t7 t8 t9 t10 t12 t13 t
    rintro t g ⟨⟨t7, t8, t9, t10, t12, t13, t14, t15⟩, gg, wg⟩
    obtain ⟨g3, hg3⟩ : ∃ g3, g3 = g.push (.row [.int .u64 (tg1 i : Nat)]) := ⟨_, rfl⟩
    have gg3 : Ge g g3 := by rw [hg3]; exact (Ge.refl _).push _
    have wg3 : g3.WF := by rw [hg3]; exact wg.push _
    have q3 := meetg_ct (s1 g3.get g.next (by rw [hg3]; simp)) (st.ge wI (gJ.trans (gg.trans gg3)))
    rw [any1, ← hb3, hb] at q3
    simp [t14, t12]
    rw [← hg3]
    refine q3 _ ?_
    simp [t15, eqB, t13, hw]
    exact hK _ _ hlt ⟨by simp [t7, t8, t9, t10, t12], gJ.trans (gg.trans gg3), wg3⟩
  · have hi2 : i = 12 := by omega
    subst hi2
    have tU : List.take 29 rU = rU := List.take_of_length_le (by omega)
    simp [t13, t8, t10, cBG hJ gGJ, cUG hJ (gH.trans ((gI.trans gJ))), lU, tU]
    have VBJ : VrAt hJ.get (vrB y) vBi vBe := VBE.ge wE gEJ
    have AUJ : AttAt hJ.get U.att wp wc wx wl wk := AUH.ge wH (gI.trans gJ)
    obtain ⟨b1, hb1⟩ : ∃ b1, b1 = ((someL y.imp).any fun z => decide (z ∈ someL x.has)) := ⟨_, rfl⟩
    obtain ⟨b2, hb2⟩ : ∃ b2, b2 = ((someL y.imp).any fun z => decide (z ∈ someL x.exp)) := ⟨_, rfl⟩
    have is_eq : downIs (vrB y) U = (b1 || b2) := by unfold downIs; rw [hUx, upL_all, hb1, hb2]; exact want_eq x _
    have dn : ∀ Q : V → H → Prop, ((b1 || b2) = false → ∀ h', Ge hJ h' → h'.WF → Q (.tup [.agg pathZ, .bool false, .int .i64 0]) h') → ((b1 || b2) = true → ∀ wp wc wx wl wk h', Ge hJ h' → h'.WF → AttFr h' hJ.next U.att wp wc wx wl wk → Q (.tup [.agg (dnE six wp wc wx wl wk), .bool true, .int .i64 0]) h') → Acalls Tryz.prog 11 [.agg [.str [98], .int .u64 2, vBi, vBe], .agg rU] hJ Q := fun Q q2 q3 => by
      have := down_ct (Q := Q) VBJ (vrB_ok y) AUJ (by rw [hU]; simp [upP, plP]) (fun e => by rw [hU, downOk_yes] at e; cases e) (fun _ e => q2 (by rw [← is_eq]; exact e)) (fun _ e wp wc wx wl wk h' k1 k2 k3 => by
        have e2 : pathC (movedP U 0 0 (vrB y).name) wp wc wx wl wk = dnE six wp wc wx wl wk := by rw [hU]; cases six <;> rfl
        rw [e2]
        exact q3 (by rw [← is_eq]; exact e) wp wc wx wl wk h' k1 k2 k3)
      rw [← hrU] at this
      exact this
    refine dn _ (fun hno h9 g9 w9 => ?_) (fun his vp9 vc9 vx9 vl9 vk9 h9 g9 w9 F9 => ?_)
    · obtain ⟨e1, e2⟩ : b1 = false ∧ b2 = false := by cases b1 <;> cases b2 <;> simp at hno ⊢
      simp [pathZ]
      obtain ⟨K0, hK0⟩ : ∃ K0, K0 = h9.push (.row pathZ) := ⟨_, rfl⟩
      have zK : (h9.push (.row pathZ)).set h9.next (.row pathZ) = K0 := by rw [hK0]; exact push_set_last _ _ _ rfl
      simp only [pathZ] at zK
      rw [zK]
      have gK : Ge hJ K0 := by rw [hK0]; exact g9.push _
      have wK : K0.WF := by rw [hK0]; exact w9.push _
      have q1 : Pure Tryz.prog 22 [vBi, vx] K0 (.bool b1) := by rw [hb1]; exact meetg_ct (VBE.ge wE (gEJ.trans gK)).imp (sx.ge wE (gEJ.trans gK))
      have q2 : Pure Tryz.prog 22 [vBi, vAe] K0 (.bool b2) := by rw [hb2]; exact meetg_ct (VBE.ge wE (gEJ.trans gK)).imp (VAE.ge wE (gEJ.trans gK)).exp
      have cK : cellsAt K0.get h9.next 29 = some pathZ := (cellsAt_of (n := 29) (show K0.get h9.next = some (.row pathZ) by rw [hK0]; simp) rfl).trans rfl
      simp only [pathZ] at cK
      rw [e1] at q1
      rw [e2] at q2
      simp [t8, t9, cBG K0 (gGJ.trans gK), cPJ K0 gK]
      refine q1 _ ?_
      simp [t7, t8, cAG K0 (gGJ.trans gK), cBG K0 (gGJ.trans gK)]
      refine q2 _ ?_
      have z4 : eqV (.st [(0, 1, false, .int), (1, 1, false, .int), (2, 1, false, .str), (3, 1, false, .int)]) (.agg [.int .i64 0, .int .u64 0, .str [], .int .i64 0]) (.agg [.int .i64 0, .int .u64 0, .str [], .int .i64 0]) = some true := by decide
      simp [eqB, cK, z4]
      refine works_ct _ _ ?_
      simp
      exact (ghE.trans gEJ).trans gK
    · obtain ⟨f1, f2, f3, f4, f5⟩ := F9.one
      simp [dnE, f1, f2, f3, f4, f5]
      obtain ⟨K0, hK0⟩ : ∃ K0, K0 = h9.push (.row (dnE six vp9 vc9 vx9 vl9 vk9)) := ⟨_, rfl⟩
      have zK : (h9.push (.row pathZ)).set h9.next (.row (dnE six vp9 vc9 vx9 vl9 vk9)) = K0 := by rw [hK0]; exact push_set_last _ _ _ rfl
      simp only [pathZ, dnE] at zK
      rw [zK]
      have gK : Ge hJ K0 := by rw [hK0]; exact g9.push _
      have wK : K0.WF := by rw [hK0]; exact w9.push _
      have q1 : Pure Tryz.prog 22 [vBi, vx] K0 (.bool b1) := by rw [hb1]; exact meetg_ct (VBE.ge wE (gEJ.trans gK)).imp (sx.ge wE (gEJ.trans gK))
      have q2 : Pure Tryz.prog 22 [vBi, vAe] K0 (.bool b2) := by rw [hb2]; exact meetg_ct (VBE.ge wE (gEJ.trans gK)).imp (VAE.ge wE (gEJ.trans gK)).exp
      have cK : cellsAt K0.get h9.next 29 = some (dnE six vp9 vc9 vx9 vl9 vk9) := (cellsAt_of (n := 29) (show K0.get h9.next = some (.row (dnE six vp9 vc9 vx9 vl9 vk9)) by rw [hK0]; simp) rfl).trans rfl
      simp only [dnE] at cK
      simp [t8, t9, cBG K0 (gGJ.trans gK), cPJ K0 gK]
      refine q1 _ ?_
      simp
      refine guard_meet (fun t' h' => (t' 9 = .ptr P9 29 0 ∧ t' 16 = .ptr h9.next 29 0 ∧ t' 17 = .bool true ∧ t' 18 = .int .i64 0 ∧ t' 19 = .bool true) ∧ h' = K0) (fun K' hK' => ?_) ?_
      · cases b1 with
        | true =>
          simp
          exact hK' _ _ ⟨by simp [t9], rfl⟩
        | false =>
          have e2 : b2 = true := by simpa using his
          rw [e2] at q2
          simp [t7, t8, cAG K0 (gGJ.trans gK), cBG K0 (gGJ.trans gK)]
          refine q2 _ ?_
          simp
          exact hK' _ _ ⟨by simp [t9], rfl⟩
      clear t7 t8 t9 t10 t12 t13 t
      rintro t K0' ⟨⟨t9, t16, t17, t18, t19⟩, rfl⟩
      simp [t9, t17, t18, t19, eqB, cPJ K0' gK]
      have n1 : ∀ {g : Nat → Option O} sz, Sls g sz .nilsl [] := fun {g} sz => ⟨.inl ⟨rfl, .inl rfl⟩, by simp, rfl, by simp⟩
      have nK : ¬ h9.next = K0'.next := by rw [hK0]; simp
      obtain ⟨K1, hK1⟩ : ∃ K1, K1 = K0'.push (.row [.int .i64 0, .nilsl, .str [], .bool false, .int .u32 0, .bool false, .int .u32 0, .bool false, .int .u32 0, .int .u32 0, .sl hD.next 1 0 1 (some 1), vx9, .nilsl, .bool false, .int .u32 0, .nilsl]) := ⟨_, rfl⟩
      have zK1 : (K0'.push (.row [.int .i64 0, .nilsl, .str [], .bool false, .int .u32 0, .bool false, .int .u32 0, .bool false, .int .u32 0, .int .u32 0, .nilsl, .nilsl, .nilsl, .bool false, .int .u32 0, .nilsl])).set K0'.next (.row [.int .i64 0, .nilsl, .str [], .bool false, .int .u32 0, .bool false, .int .u32 0, .bool false, .int .u32 0, .int .u32 0, .sl hD.next 1 0 1 (some 1), vx9, .nilsl, .bool false, .int .u32 0, .nilsl]) = K1 := by rw [hK1]; exact push_set_last _ _ _ rfl
      have gK1 : Ge K0' K1 := by rw [hK1]; exact (Ge.refl _).push _
      have cK1 : ∀ g, Ge K0' g → cellsAt g.get h9.next 29 = cellsAt K0'.get h9.next 29 := fun g gg => gg.cells (by rw [hK0]; simp)
      have cT : cellsAt K1.get K0'.next 16 = some [.int .i64 0, .nilsl, .str [], .bool false, .int .u32 0, .bool false, .int .u32 0, .bool false, .int .u32 0, .int .u32 0, .sl hD.next 1 0 1 (some 1), vx9, .nilsl, .bool false, .int .u32 0, .nilsl] := (cellsAt_of (n := 16) (show K1.get K0'.next = some (.row [.int .i64 0, .nilsl, .str [], .bool false, .int .u32 0, .bool false, .int .u32 0, .bool false, .int .u32 0, .int .u32 0, .sl hD.next 1 0 1 (some 1), vx9, .nilsl, .bool false, .int .u32 0, .nilsl]) by rw [hK1]; simp) rfl).trans rfl
      have nP : ¬ P9 = K0'.next := by have := gEJ.1; have := gK.1; omega
      simp [ox, t16, nK, cK, solid_of_one f3, cells_of_one f3]
      rw [zK1]
      have gJ1 : Ge hJ K1 := gK.trans gK1
      have cKk : cellsAt K1.get h9.next 29 = cellsAt K0'.get h9.next 29 := cK1 K1 gK1
      have z4 : eqV (.st [(0, 1, false, .int), (1, 1, false, .int), (2, 1, false, .str), (3, 1, false, .int)]) (.agg [.int .i64 (if six then 2 else 1), .int .u64 0, .str (if six then [0, 1, 0, 0, 0, 0, 0, 0, 0, 0, 0, 0, 0, 0, 0, 0] else [10, 0, 0, 0]), .int .i64 (if six then 16 else 8)]) (.agg [.int .i64 (if six then 2 else 1), .int .u64 0, .str (if six then [0, 1, 0, 0, 0, 0, 0, 0, 0, 0, 0, 0, 0, 0, 0, 0] else [10, 0, 0, 0]), .int .i64 (if six then 16 else 8)]) = some true := by cases six <;> decide
      have z6 : eqV (.st [(0, 1, false, .int), (1, 1, false, .str), (2, 1, false, .int), (3, 1, false, .int), (4, 1, false, .str), (5, 1, false, .str)]) (.agg [.int .i64 2, .str [97], .int .u32 0, .int .u32 0, .str [], .str [98]]) (.agg [.int .i64 2, .str [97], .int .u32 0, .int .u32 0, .str [], .str [98]]) = some true := by decide
      have sm : Pure Tryz.prog 23 [.agg [.int .i64 0, vp9, .str [], .bool false, .int .u32 0, .bool false, .int .u32 0, .bool false, .int .u32 0, .int .u32 0, vc9, vx9, vl9, .bool false, .int .u32 0, vk9], .agg [.int .i64 0, .nilsl, .str [], .bool false, .int .u32 0, .bool false, .int .u32 0, .bool false, .int .u32 0, .int .u32 0, .sl hD.next 1 0 1 (some 1), vx9, .nilsl, .bool false, .int .u32 0, .nilsl]] K1 (.bool true) := by
        have FA : AttAt K1.get U.att vp9 vc9 vx9 vl9 vk9 := F9.at.ge w9 ((show Ge h9 K0' by rw [hK0]; exact (Ge.refl _).push _).trans gK1)
        have FB : AttAt K1.get (withX (plP x six).att (upL x)) .nilsl (.sl hD.next 1 0 1 (some 1)) vx9 .nilsl .nilsl := ⟨⟨[], n1 _, rfl, fun i s h => by simp [plP, withX] at h⟩, s5.ge wE (gEJ.trans gJ1), by have := FA.exts; rw [hUx] at this; exact this, n1 _, n1 _⟩
        have := asame_ct FA FB
        have e : U.att = withX (plP x six).att (upL x) := by rw [hU]; rfl
        rw [e, decide_eq_true rfl] at this
        exact this
      simp [t9, t16, cPJ K1 gJ1, cKk, cK, z4, z6, cT]
      refine sm _ ?_
      simp
      refine works_ct _ _ ?_
      simp
      exact (ghE.trans gEJ).trans gJ1
end Go.Am
