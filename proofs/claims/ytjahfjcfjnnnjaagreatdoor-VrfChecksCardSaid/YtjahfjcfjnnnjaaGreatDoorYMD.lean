/-
 VA1, VA2, VA3, VCX, VA4, VA5, VA6, VA7, VA8, VWm, VR0, VR1, VR2, VC1, VC2, in one text.
-/
import Derived.Test.YtjahfjcfjnnnjaaGreatDoorYMA
import Derived.Test.YtjahfjcfjnnnjaaGreatDoorYMB
import Derived.Test.YtjahfjcfjnnnjaaGreatDoorYAm40
import Derived.Test.YtjahfjcfjnnnjaaGreatDoorYMC
import Derived.Test.YtjahfjcfjnnnjaaGreatDoorYAm21
import Derived.Test.YtjahfjcfjnnnjaaGreatDoorYAm36
import Derived.Test.YtjahfjcfjnnnjaaGreatDoorYQwTab
import Derived.KernelRfl
namespace Go.Am
open Go.Proofs

structure Src where
 kind : Int
 peer : List UInt8
 asn : Nat
 sid : Nat
 addr : List UInt8
 vrf : List UInt8
 deriving DecidableEq
structure Pth where
 n : Nl
 att : Att
 src : Src
 stale : Bool
 deriving DecidableEq
def zaZ (p : Pth) (vp vc vx vl vk : V) : List V := [.int .i64 p.n.p.fam, .int .u64 (p.n.p.rd : Nat), .str p.n.p.addr, .int .i64 p.n.p.len, .int .u32 (p.n.id : Nat), .int .u32 (p.n.label : Nat),
 .int .i64 p.att.origin, vp, .str p.att.next, .bool p.att.hasMed, .int .u32 (p.att.med : Nat), .bool p.att.hasPref, .int .u32 (p.att.pref : Nat), .bool p.att.atomic, .int .u32 (p.att.aggAS : Nat), .int .u32 (p.att.aggId : Nat), vc, vx, vl, .bool p.att.hasOrig, .int .u32 (p.att.orig : Nat), vk,
 .int .i64 p.src.kind, .str p.src.peer, .int .u32 (p.src.asn : Nat), .int .u32 (p.src.sid : Nat), .str p.src.addr, .str p.src.vrf, .bool p.stale]
def zcq (p : Pth) : Bool := mayN p.n && attB p.att && (if p.src.kind = 1 then decide (p.src.peer = []) else decide (2 ≤ p.src.kind) && decide (p.src.kind ≤ 5) && zbZ p.src.peer)

set_option maxRecDepth 100000
theorem ziY {h : H} {s : List UInt8} (hl : s.length ≤ 9223372036854775807) : Pure Tryz.prog 115 [.str s] h (.bool (zbZ s)) := by
 refine zan Tryz.func115 S.a58c S.a58e rfl (Nat.le_of_ble_eq_true rfl) fun wf => ?_; simp only [S.a58]
 simp
 refine zlu (cs := csN) (by decide) (by decide) hl _ ?_
 cases s with
 | nil => simp [zbZ]
 | cons c r =>
  have e1 : ((c :: r) == []) = false := rfl
  by_cases h1 : r.length ≤ 15
  ·have i1 : (r.length : Int) + 1 ≤ 16 := by omega
   have hd : ((c :: r).dropWhile fun c => decide (c ∈ csN)).isEmpty = (c :: r).all fun c => decide (c ∈ csN) := by
    rw [Bool.eq_iff_iff, List.isEmpty_iff, ziG]
   obtain ⟨w, hw⟩ : ∃ w, w = (c :: r).dropWhile fun c => decide (c ∈ csN) := ⟨_, rfl⟩
   rw [<- hw] at hd ⊢
   obtain ⟨q, hq⟩ : ∃ q, q = (c :: r).all fun c => decide (c ∈ csN) := ⟨_, rfl⟩
   have hn : zbZ (c :: r) = (decide (97 ≤ c.toNat) && q) := by simp only [zbZ, <- hq]; simp [h1]
   rw [<- hq] at hd
   rw [hn]
   have hwe : (w == []) = q := by rw [<- hd]; cases w <;> rfl
   cases q with
   | false => simp [e1, i1, hwe]
   | true =>
    by_cases h2 : 97 ≤ c.toNat
    ·have i2 : (97 : Int) ≤ (c.toNat : Int) := by omega
     simp [e1, i1, h2, i2, hwe]
    ·have i2 : ¬ (97 : Int) ≤ (c.toNat : Int) := by omega
     simp [e1, i1, h2, i2, hwe]
  ·have i1 : ¬ (r.length : Int) + 1 ≤ 16 := by omega
   simp [e1, i1, h1, zbZ]
theorem zld {h : H} {p : Pth} {vp vc vx vl vk : V} (A : AttAt h.get p.att vp vc vx vl vk) (hn : p.src.peer.length ≤ 9223372036854775807) : Pure Tryz.prog 77 [.agg (zaZ p vp vc vx vl vk)] h (.bool (zcq p)) := by
 refine zan Tryz.func77 S.a38c S.a38e rfl (Nat.le_of_ble_eq_true rfl) fun wf => ?_; simp only [S.a38]
 obtain ⟨es, P⟩ := A.path
 have o1 := P.sls.one
 have o2 := A.comms.one
 have o3 := A.exts.one
 have o4 := A.larges.one
 have o5 := A.clus.one
 obtain ⟨h2, hh2⟩ : ∃ h2, h2 = h.push (.row (zaZ p vp vc vx vl vk)) := ⟨_, rfl⟩
 have g2 : Ge h h2 := by rw [hh2]; exact (Ge.refl _).push _
 have c1 : zaf h2.get h.next 29 = some (zaZ p vp vc vx vl vk) := by rw [hh2]; simp [zaZ]
 have A2 := A.ge wf g2
 have nc : ∀ g : H, Pure Tryz.prog 113 [.agg (nlC p.n)] g (.int .i64 (if mayN p.n = true then 0 else 2)) := fun g => zi0
 have ac : Pure Tryz.prog 114 [.agg (attC p.att vp vc vx vl vk)] h2 (.int .i64 (if attB p.att = true then 0 else 2)) := ziC A2
 simp only [zaZ] at hh2 c1
 simp only [nlC] at nc
 simp only [attC] at ac
 simp [zaZ, o1, o2, o3, o4, o5]
 rw [<- hh2]
 refine nc h2 _ ?_
 cases k1 : mayN p.n with
 | false => simp [zcq, k1, g2]
 | true =>
  simp [c1]
  refine ac _ ?_
  cases k2 : attB p.att with
  | false => simp [zcq, k1, k2, g2]
  | true =>
   simp [c1]
   by_cases k3 : p.src.kind = 1
   ·have hp : zcq p = decide (p.src.peer = []) := by simp [zcq, k1, k2, k3]
    rw [hp]
    simp [k3, c1, g2]
    cases p.src.peer <;> simp
   ·have hp : zcq p = (decide (2 ≤ p.src.kind) && decide (p.src.kind ≤ 5) && zbZ p.src.peer) := by simp [zcq, k1, k2, k3]
    rw [hp]
    by_cases k5 : 2 ≤ p.src.kind ∧ p.src.kind ≤ 5
    ·rw [decide_eq_true k5.1, decide_eq_true k5.2]
     have nm := ziY (h := h2) hn
     rcases (by omega : p.src.kind = 2 ∨ p.src.kind = 3 ∨ p.src.kind = 4 ∨ p.src.kind = 5) with e | e | e | e
     all_goals
      simp [e, c1]
      refine nm _ ?_
      simp [g2]
    ·have hf : (decide (2 ≤ p.src.kind) && decide (p.src.kind ≤ 5)) = false := by
      by_cases e : 2 ≤ p.src.kind
      ·have e2 : ¬ p.src.kind ≤ 5 := by omega
       simp [e, e2]
      ·simp [e]
     rw [hf]
     have q2 : (p.src.kind == 2) = false := by rw [eqI]; simp; omega
     have q3 : (p.src.kind == 3) = false := by rw [eqI]; simp; omega
     have q4 : (p.src.kind == 4) = false := by rw [eqI]; simp; omega
     have q5 : (p.src.kind == 5) = false := by rw [eqI]; simp; omega
     have q1 : (p.src.kind == 1) = false := by rw [eqI]; simp; omega
     simp [q1, q2, q3, q4, q5, g2]
end Go.Am

namespace Go.Am
open Go.Proofs

set_option maxRecDepth 100000
theorem zhg (i n o : Nat) : (V.ptr i n o).solid = true := rfl
theorem zgC (i n o : Nat) : (V.ptr i n o).cells = [.ptr i n o] := rfl
theorem zin (i n o l : Nat) (c : Option Nat) : (V.sl i n o l c).solid = true := rfl
theorem zl7 {h : H} {Q : V -> H -> Prop} (q : Q (.ptr (h.next + 1) 2 0) ((h.push (.row [.bool true, .nilsl, .int .i64 0])).push (.row [.ptr h.next 3 0, .int .i64 0]))) : Acalls Tryz.prog 49 [] h Q := by
 refine zaD Tryz.func49 S.a22c S.a22e (Nat.le_of_ble_eq_true rfl) fun wf => ?_; simp only [S.a22]
 simp
 refine (show Acalls Tryz.prog 75 [] h _ from ?_)
 clear wf
 refine zaD Tryz.func75 S.a36c S.a36e (Nat.le_of_ble_eq_true rfl) fun wf => ?_; simp only [S.a36]
 simp
 exact q
structure Tb0 (h : H) (tb tr : Nat) : Prop where
 tb : h.get tb = some (.row [.ptr tr 3 0, .int .i64 0])
 tr : h.get tr = some (.row [.bool true, .nilsl, .int .i64 0])
theorem zjW {h : H} {tb tr : Nat} (T : Tb0 h tb tr) : Pure Tryz.prog 76 [.ptr tb 2 0] h (.bool false) := by
 refine zan Tryz.func76 S.a37c S.a37e rfl (Nat.le_of_ble_eq_true rfl) fun wf => ?_; simp only [S.a37]
 have c1 : zaf h.get tb 2 = some [.ptr tr 3 0, .int .i64 0] := (zak (n := 2) T.tb rfl).trans rfl
 simp [c1, eqV]
theorem zg8 {h : H} {tr : Nat} {a b : V} (T : h.get tr = some (.row [.bool true, a, b])) : Pure Tryz.prog 123 [.ptr tr 3 0] h (.bool false) := by
 refine zan Tryz.func123 S.a63c S.a63e rfl (Nat.le_of_ble_eq_true rfl) fun wf => ?_; simp only [S.a63]
 have c1 : zaf h.get tr 3 = some [.bool true, a, b] := (zak (n := 3) T rfl).trans rfl
 simp [c1, eqV]
theorem zfx {h : H} {tr : Nat} {p : Pfx} {b : V} (T : h.get tr = some (.row [.bool true, .nilsl, b])) : Pure Tryz.prog 124 [.ptr tr 3 0, .agg (pfxC p)] h (.tup [.int .i64 0, .bool false]) := by
 refine zan Tryz.func124 S.a64c S.a64e rfl (Nat.le_of_ble_eq_true rfl) fun wf => ?_; simp only [S.a64]
 have hlt := wf.lt T
 have ne : ¬ tr = h.next := by omega
 have c1 : zaf h.get tr 3 = some [.bool true, .nilsl, b] := (zak (n := 3) T rfl).trans rfl
 simp [pfxC, ne, c1]
 refine zaJ (fun i t h' => (t 0 = .ptr tr 3 0 ∧ t 12 = .int .i64 0 ∧ t 13 = .int .i64 0) ∧ h' = h.push (.row (pfxC p))) 0 ⟨by simp, rfl⟩ ?_
 rintro i t h' hi ⟨⟨t0, t12, t13⟩, rfl⟩ K hK
 simp [t0, t12, t13, ne, c1]
theorem zjT {h : H} {tr : Nat} {p : Pfx} {b f : V} (T : h.get tr = some (.row [.bool true, .nilsl, b])) : Pure Tryz.prog 116 [.ptr tr 3 0, .agg (pfxC p), f] h (.tup []) := by
 refine zan Tryz.func116 S.a59c S.a59e rfl (Nat.le_of_ble_eq_true rfl) fun wf => ?_; simp only [S.a59]
 have hlt := wf.lt T
 obtain ⟨h2, hh2⟩ : ∃ h2, h2 = h.push (.row (pfxC p)) := ⟨_, rfl⟩
 have g2 : Ge h h2 := by rw [hh2]; exact (Ge.refl _).push _
 have T2 : h2.get tr = some (.row [.bool true, .nilsl, b]) := (g2.2 _ hlt).trans T
 have c2 : zaf h2.get h.next 4 = some (pfxC p) := by rw [hh2]; simp [pfxC]
 have pc : Pure Tryz.prog 67 [.agg (pfxC p)] h2 (.int .i64 (if mayP p = true then 0 else 2)) := zeB
 have rc : Pure Tryz.prog 124 [.ptr tr 3 0, .agg (pfxC p)] h2 (.tup [.int .i64 0, .bool false]) := zfx T2
 simp only [pfxC] at hh2 c2 pc rc
 simp [pfxC]
 rw [<- hh2]
 refine zg8 T2 _ ?_
 simp [c2]
 refine pc _ ?_
 cases mayP p with
 | false => simp [g2]
 | true =>
  simp [c2]
  refine rc _ ?_
  simp [g2]
theorem zjl {h : H} {tr : Nat} {p : Pfx} {b : V} (T : h.get tr = some (.row [.bool true, .nilsl, b])) : Pure Tryz.prog 78 [.ptr tr 3 0, .agg (pfxC p)] h (.tup [.nilsl, .bool false]) := by
 refine zan Tryz.func78 S.a39c S.a39e rfl (Nat.le_of_ble_eq_true rfl) fun wf => ?_; simp only [S.a39]
 have hlt := wf.lt T
 obtain ⟨h2, hh2⟩ : ∃ h2, h2 = (h.push (.row (pfxC p))).push (.row [.nilptr]) := ⟨_, rfl⟩
 have g2 : Ge h h2 := by rw [hh2]; exact ((Ge.refl _).push _).push _
 have T2 : h2.get tr = some (.row [.bool true, .nilsl, b]) := (g2.2 _ hlt).trans T
 have c2 : zaf h2.get h.next 4 = some (pfxC p) := by rw [hh2]; simp [pfxC]
 have c3 : zaf h2.get (h.next + 1) 1 = some [.nilptr] := by rw [hh2]; simp
 have wc : ∀ f, Pure Tryz.prog 116 [.ptr tr 3 0, .agg (pfxC p), f] h2 (.tup []) := fun f => zjT T2
 simp only [pfxC] at hh2 c2 wc
 simp [pfxC]
 rw [<- hh2]
 refine wc _ _ ?_
 simp [c3, eqV, g2]
theorem znU {h : H} {p : Pth} {vp vc vx vl vk : V} (o1 : vp.one = true) (o2 : vc.one = true) (o3 : vx.one = true) (o4 : vl.one = true) (o5 : vk.one = true) : Pure Tryz.prog 80 [.agg (zaZ p vp vc vx vl vk)] h (.agg [.str p.src.peer, .int .u32 (p.n.id : Nat)]) := by
 refine zan Tryz.func80 S.a41c S.a41e rfl (Nat.le_of_ble_eq_true rfl) fun wf => ?_; simp only [S.a41]
 simp [zaZ, o1, o2, o3, o4, o5]
 exact ((Ge.refl _).push _).push _ |>.set (by simp) _
theorem zhw {h : H} {s : List UInt8} {i : Nat} : Pure Tryz.prog 79 [.nilsl, .agg [.str s, .int .u32 (i : Nat)]] h (.tup [.int .i64 0, .bool false]) := by
 refine zan Tryz.func79 S.a40c S.a40e rfl (Nat.le_of_ble_eq_true rfl) fun wf => ?_; simp only [S.a40]
 simp
 refine (show Pure Tryz.prog 118 [.nilsl, .agg [.str s, .int .u32 (i : Nat)], .func (.func 119) [] []] (h.push (.row [.str s, .int .u32 (i : Nat)])) (.tup [.int .i64 0, .bool false]) from ?_) _ (by simp)
 clear wf
 refine zan Tryz.func118 S.a60c S.a60e rfl (Nat.le_of_ble_eq_true rfl) fun wf => ?_; simp only [S.a60]
 simp
 refine zaJ (fun _ t h' => (t 0 = .nilsl ∧ t 2 = .func (.func 119) [] [] ∧ t 8 = .int .i64 0 ∧ t 9 = .int .i64 0 ∧ t 10 = .int .i64 0) ∧ h' = (h.push (.row [.str s, .int .u32 (i : Nat)])).push (.row [.str s, .int .u32 (i : Nat)])) 0 ⟨by simp, rfl⟩ ?_
 rintro k t h' hk ⟨⟨t0, t2, t8, t9, t10⟩, rfl⟩ K hK
 simp [t9, t10]
 refine zb3 (wf.push _) ?_
 simp [t8, t9]
theorem zj0 {h : H} {p : Pfx} {v : V} (ho : v.one = true) {Q : V -> H -> Prop} (q : Q (.tup [.ptr (h.next + 1) 8 0, .bool true]) ((h.push (.row (pfxC p))).push (.row (pfxC p ++ [.bool true, v, .nilptr, .nilptr])))) : Acalls Tryz.prog 125 [.nilptr, .agg (pfxC p), v] h Q := by
 refine zaD Tryz.func125 S.a65c S.a65e (Nat.le_of_ble_eq_true rfl) fun wf => ?_; simp only [S.a65]
 simp only [pfxC, List.cons_append, List.nil_append] at q
 simp [pfxC, eqV, zaR ho, zaT ho, ho]
 exact q
theorem zj3 {h : H} {tr : Nat} {p : Pfx} {v : V} (T : h.get tr = some (.row [.bool true, .nilsl, .int .i64 0])) (hp : mayP p = true) (ho : v.one = true) {Q : V -> H -> Prop}
  (q : ∀ h', h'.WF -> h.next ≤ h'.next -> (∀ x, x ≠ tr -> x < h.next -> h'.get x = h.get x) -> Q (.int .i64 0) h') : Acalls Tryz.prog 81 [.ptr tr 3 0, .agg (pfxC p), v] h Q := by
 refine zaD Tryz.func81 S.a42c S.a42e (Nat.le_of_ble_eq_true rfl) fun wf => ?_; simp only [S.a42]
 have hlt := wf.lt T
 obtain ⟨h2, hh2⟩ : ∃ h2, h2 = h.push (.row (pfxC p)) := ⟨_, rfl⟩
 have g2 : Ge h h2 := by rw [hh2]; exact (Ge.refl _).push _
 have w2 : h2.WF := by rw [hh2]; exact wf.push _
 have n2 : h2.next = h.next + 1 := by rw [hh2]; simp
 have T2 : h2.get tr = some (.row [.bool true, .nilsl, .int .i64 0]) := (g2.2 _ hlt).trans T
 have b2 : h2.get h.next = some (.row (pfxC p)) := by rw [hh2]; simp
 have c2 : zaf h2.get h.next 4 = some (pfxC p) := (zak (n := 4) b2 rfl).trans rfl
 have pc : Pure Tryz.prog 67 [.agg (pfxC p)] h2 (.int .i64 (if mayP p = true then 0 else 2)) := zeB
 have rc : Pure Tryz.prog 124 [.ptr tr 3 0, .agg (pfxC p)] h2 (.tup [.int .i64 0, .bool false]) := zfx T2
 have c3 : zaf h2.get tr 3 = some [.bool true, .nilsl, .int .i64 0] := (zak (n := 3) T2 rfl).trans rfl
 rw [hp] at pc
 simp only [pfxC] at hh2 c2 pc rc
 simp [pfxC]
 rw [<- hh2]
 refine zg8 T2 _ ?_
 simp [c2]
 refine pc _ ?_
 simp [c2]
 refine rc _ ?_
 have ap : zay (h2.push (.row [.int .i64 0, .int .u64 0, .nilptr])).get (h2.next + 1) 3 24 .nilsl (.sl h2.next 3 0 1 (some 1)) = some (.sl (h2.next + 1) (1 * 3) 0 1 none, .push (.grow 3 [.int .i64 0, .int .u64 0, .nilptr])) :=
  zbm (by simp [zaz]) (by decide) rfl (by decide) (by decide) (by decide)
 have e1 : ¬ tr = h2.next := by omega
 have e2 : ¬ tr = h2.next + 1 := by omega
 have rp : zaB 1 [V.int .i64 0, V.int .u64 0, V.nilptr] = [.int .i64 0, .int .u64 0, .nilptr] := rfl
 have on : V.nilptr.one = true := rfl
 simp [on, c3, T2, ap, e1, e2, zin]
 obtain ⟨h3, hh3⟩ : ∃ h3, h3 = ((h2.push (.row [.int .i64 0, .int .u64 0, .nilptr])).push (.grow 3 [.int .i64 0, .int .u64 0, .nilptr])).set tr (.row [.bool true, .sl (h2.next + 1) 3 0 1 none, .int .i64 0]) := ⟨_, rfl⟩
 have n3 : h3.next = h.next + 3 := by rw [hh3]; simp; omega
 have w3 : h3.WF := by rw [hh3]; exact ((w2.push _).push _).set (by simp; omega) _
 have t3 : h3.get tr = some (.row [.bool true, .sl (h2.next + 1) 3 0 1 none, .int .i64 0]) := by rw [hh3]; simp
 have q3 : h3.get (h2.next + 1) = some (.grow 3 [.int .i64 0, .int .u64 0, .nilptr]) := by rw [hh3, H.get_set, if_neg (by omega)]; simp
 have b3 : h3.get h.next = some (.row (pfxC p)) := by rw [hh3, H.get_set, if_neg (by omega), H.get_push, if_neg (by simp; omega), H.get_push, if_neg (by omega)]; exact b2
 have k3 : ∀ x, x ≠ tr -> x < h.next -> h3.get x = h.get x := fun x hx hl => by rw [hh3, H.get_set, if_neg hx, H.get_push, if_neg (by simp; omega), H.get_push, if_neg (by omega), g2.2 x hl]
 rw [<- hh3]
 have c4 : zaf h3.get tr 3 = some [.bool true, .sl (h2.next + 1) 3 0 1 none, .int .i64 0] := (zak (n := 3) t3 rfl).trans rfl
 have c5 : zaf h3.get h.next 4 = some (pfxC p) := (zak (n := 4) b3 rfl).trans rfl
 have cp : zfd h3.get 3 .slz (.sl (h2.next + 1) 3 0 1 none) = some (.int .i64 0, .keep) := by
  unfold zfd
  rw [show zaC h3.get 3 (.sl (h2.next + 1) 3 0 1 none) = some (1, [.int .i64 0, .int .u64 0, .nilptr]) by rw [zaz, if_neg (by omega), zak (n := 3) q3 rfl]; rfl]
 have wr1 : IntKind.i64.wrap 1 = 1 := by decide
 simp only [pfxC] at c5
 refine zcD ?_
 have s1 : zav 3 (some (.int .i64 1)) none none (.sl (h2.next + 1) 3 0 1 none) = some .slz := rfl
 have s2 : zav 3 (some (.int .i64 0)) none none (.sl (h2.next + 1) 3 0 1 none) = some (.sl (h2.next + 1) 3 0 1 none) := rfl
 simp [c4, wr1, cp, s1, s2]
 refine zcD ?_
 simp [c4, c5, on, q3]
 obtain ⟨h4, hh4⟩ : ∃ h4, h4 = h3.set (h2.next + 1) (.grow 3 [.int .i64 p.fam, .int .u64 (p.rd : Nat), .nilptr]) := ⟨_, rfl⟩
 have n4 : h4.next = h.next + 3 := by rw [hh4]; simp; omega
 have w4 : h4.WF := by rw [hh4]; exact w3.set (by omega) _
 have t4 : h4.get tr = some (.row [.bool true, .sl (h2.next + 1) 3 0 1 none, .int .i64 0]) := by rw [hh4, H.get_set, if_neg e2]; exact t3
 have q4 : h4.get (h2.next + 1) = some (.grow 3 [.int .i64 p.fam, .int .u64 (p.rd : Nat), .nilptr]) := by rw [hh4]; simp
 have b4 : h4.get h.next = some (.row (pfxC p)) := by rw [hh4, H.get_set, if_neg (by omega)]; exact b3
 have k4 : ∀ x, x ≠ tr -> x < h.next -> h4.get x = h.get x := fun x hx hl => by rw [hh4, H.get_set, if_neg (by omega)]; exact k3 x hx hl
 rw [<- hh4]
 have c6 : zaf h4.get tr 3 = some [.bool true, .sl (h2.next + 1) 3 0 1 none, .int .i64 0] := (zak (n := 3) t4 rfl).trans rfl
 have c7 : zaf h4.get h.next 4 = some (pfxC p) := (zak (n := 4) b4 rfl).trans rfl
 have c8 : zaf h4.get (h2.next + 1) 3 = some [.int .i64 p.fam, .int .u64 (p.rd : Nat), .nilptr] := (zak (n := 3) q4 rfl).trans rfl
 obtain ⟨h5, hh5⟩ : ∃ h5, h5 = (h4.push (.row (pfxC p))).push (.row (pfxC p ++ [.bool true, v, .nilptr, .nilptr])) := ⟨_, rfl⟩
 have g5 : Ge h4 h5 := by rw [hh5]; exact ((Ge.refl _).push _).push _
 have w5 : h5.WF := by rw [hh5]; exact (w4.push _).push _
 have q5 : h5.get (h2.next + 1) = some (.grow 3 [.int .i64 p.fam, .int .u64 (p.rd : Nat), .nilptr]) := (g5.2 _ (by omega)).trans q4
 have t5 : h5.get tr = some (.row [.bool true, .sl (h2.next + 1) 3 0 1 none, .int .i64 0]) := (g5.2 _ (by omega)).trans t4
 have sc : ∀ Q : V -> H -> Prop, Q (.tup [.ptr (h4.next + 1) 8 0, .bool true]) h5 -> Acalls Tryz.prog 125 [.nilptr, .agg (pfxC p), v] h4 Q := fun Q q => zj0 ho (by rw [<- hh5]; exact q)
 simp only [pfxC] at c7 sc
 refine zdh [tr] [0, 0, 0, 2, 0, 0, 0, 0, 0, 0, 0, 0, 0, 0, 0, 1, 0, 0, 0, 0, 0, 0, 0] rfl (by rfl) ?_
 simp [c6, c7, c8, I.foot, zba]
 refine zch (v := .tup [.ptr (h4.next + 1) 8 0, .bool true]) (h' := h5) (fun Q q => by simpa using sc Q q) (by decide) (fun _ => fun k hk => ?_) ?_
 ·rw [List.mem_singleton] at hk
  subst hk
  exact g5.2 _ (by omega)
 have c9 : zaf h5.get tr 3 = some [.bool true, .sl (h2.next + 1) 3 0 1 none, .int .i64 0] := (zak (n := 3) t5 rfl).trans rfl
 simp [c9, q5, e2, t5, wr1]
 refine q _ ((w5.set (by have := g5.1; omega) _).set (by have := g5.1; simp; omega) _) (by have := g5.1; simp; omega) fun x hx hl => ?_
 rw [H.get_set, if_neg hx, H.get_set, if_neg (by omega), g5.2 x (by omega)]
 exact k4 x hx hl
theorem zjI {h : H} {tb tr : Nat} {p : Pth} {vp vc vx vl vk : V} (T : Tb0 h tb tr) (hne : tb ≠ tr) (A : AttAt h.get p.att vp vc vx vl vk) (hn : p.src.peer.length ≤ 9223372036854775807) {Q : V -> H -> Prop}
  (q : ∀ h', h'.WF -> h.next ≤ h'.next -> (∀ x, x ≠ tb -> x ≠ tr -> x < h.next -> h'.get x = h.get x) -> Q (.int .i64 (if zcq p = true then 0 else 2)) h') : Acalls Tryz.prog 50 [.ptr tb 2 0, .agg (zaZ p vp vc vx vl vk)] h Q := by
 refine zaD Tryz.func50 S.a23c S.a23e (Nat.le_of_ble_eq_true rfl) fun wf => ?_; simp only [S.a23]
 have hlb := wf.lt T.tb
 have hlr := wf.lt T.tr
 obtain ⟨es, P⟩ := A.path
 have o1 := P.sls.one
 have o2 := A.comms.one
 have o3 := A.exts.one
 have o4 := A.larges.one
 have o5 := A.clus.one
 obtain ⟨h2, hh2⟩ : ∃ h2, h2 = h.push (.row (zaZ p vp vc vx vl vk)) := ⟨_, rfl⟩
 have g2 : Ge h h2 := by rw [hh2]; exact (Ge.refl _).push _
 have w2 : h2.WF := by rw [hh2]; exact wf.push _
 have n2 : h2.next = h.next + 1 := by rw [hh2]; simp
 have b2 : h2.get h.next = some (.row (zaZ p vp vc vx vl vk)) := by rw [hh2]; simp
 have c2 : zaf h2.get h.next 29 = some (zaZ p vp vc vx vl vk) := (zak (n := 29) b2 rfl).trans rfl
 have T2 : Tb0 h2 tb tr := ⟨(g2.2 _ hlb).trans T.tb, (g2.2 _ hlr).trans T.tr⟩
 have A2 := A.ge wf g2
 have mc : Pure Tryz.prog 77 [.agg (zaZ p vp vc vx vl vk)] h2 (.bool (zcq p)) := zld A2 hn
 simp only [zaZ] at hh2 c2 mc
 simp [zaZ, o1, o2, o3, o4, o5]
 rw [<- hh2]
 refine zjW T2 _ ?_
 simp [c2]
 refine mc _ ?_
 cases hm : zcq p with
 | false =>
  rw [hm] at q
  simp
  exact q h2 w2 (by omega) fun x _ _ hl => g2.2 x hl
 | true =>
  rw [hm] at q
  have hm' := hm
  simp only [zcq, Bool.and_eq_true] at hm'
  have hz := zll hm'.1.2
  have hp : mayP p.n.p = true := by
   have := hm'.1.1
   simp only [mayN, Bool.and_eq_true] at this
   exact this.1.1
  have cc : ∀ Q : V -> H -> Prop, (∀ wp wc wx wl wk h', Ge h2 h' -> h'.WF -> AttFr h' h2.next p.att wp wc wx wl wk -> Q (.agg (attC p.att wp wc wx wl wk)) h') -> Acalls Tryz.prog 51 [.agg (attC p.att vp vc vx vl vk)] h2 Q := fun Q q => zjo A2 hz q
  simp only [attC] at cc
  simp [c2]
  refine cc _ fun wp wc wx wl wk h3 g3 w3 f3 => ?_
  obtain ⟨u1, u2, u3, u4, u5⟩ := f3.one
  have b3 : h3.get h.next = some (.row (zaZ p vp vc vx vl vk)) := (g3.2 _ (by omega)).trans b2
  simp only [zaZ] at b3
  simp [b3, u1, u2, u3, u4, u5]
  obtain ⟨h4, hh4⟩ : ∃ h4, h4 = h3.set h.next (.row (zaZ p wp wc wx wl wk)) := ⟨_, rfl⟩
  have k4 : ∀ x, x ≠ h.next -> h4.get x = h3.get x := fun x hx => by rw [hh4, H.get_set, if_neg hx]
  have n4 : h4.next = h3.next := by rw [hh4]; simp
  have l3 := g3.1
  have w4 : h4.WF := by rw [hh4]; exact w3.set (by omega) _
  have b4 : h4.get h.next = some (.row (zaZ p wp wc wx wl wk)) := by rw [hh4]; simp
  have T4 : Tb0 h4 tb tr := ⟨by rw [k4 _ (by omega), g3.2 _ (by omega)]; exact T2.tb, by rw [k4 _ (by omega), g3.2 _ (by omega)]; exact T2.tr⟩
  have kb : ∀ x, x < h.next -> h4.get x = h.get x := fun x hx => by rw [k4 x (by omega), g3.2 x (by omega), g2.2 x hx]
  have c4 : zaf h4.get h.next 29 = some (zaZ p wp wc wx wl wk) := (zak (n := 29) b4 rfl).trans rfl
  have ct4 : zaf h4.get tb 2 = some [.ptr tr 3 0, .int .i64 0] := (zak (n := 2) T4.tb rfl).trans rfl
  simp only [zaZ] at hh4 c4
  rw [<- hh4]
  have gc : Pure Tryz.prog 78 [.ptr tr 3 0, .agg (pfxC p.n.p)] h4 (.tup [.nilsl, .bool false]) := zjl T4.tr
  have oc : Pure Tryz.prog 80 [.agg (zaZ p wp wc wx wl wk)] h4 (.agg [.str p.src.peer, .int .u32 (p.n.id : Nat)]) := znU u1 u2 u3 u4 u5
  simp only [pfxC] at gc
  simp only [zaZ] at oc
  refine zcD ?_
  simp [ct4, c4]
  refine zgV (v := .tup [.nilsl, .bool false]) (h' := h4) (fun Q q => by simpa using gc Q q) ?_
  simp [c4]
  refine oc _ ?_
  simp
  refine zhw _ ?_
  simp [ct4]
  refine zcD ?_
  have s1 : zav 29 none (some (.int .i64 0)) (some (.int .i64 0)) .nilsl = some .nilsl := rfl
  have s2 : zav 29 (some (.int .i64 0)) none none .nilsl = some .nilsl := rfl
  have ap1 : zay (h4.push (.row (zaZ p wp wc wx wl wk))).get (h4.next + 1) 29 304 .nilsl (.sl h4.next 29 0 1 (some 1)) = some (.sl (h4.next + 1) (1 * 29) 0 1 none, .push (.grow 29 (zaZ p wp wc wx wl wk))) :=
   zbm (by simp [zaz, zaZ]) (by decide) (by simp [zaZ, u1, u2, u3, u4, u5]) (by decide) (by decide) (by decide)
  have ap2 : ∀ g n, zay g n 29 304 (.sl (h4.next + 1) 29 0 1 none) .nilsl = some (.sl (h4.next + 1) 29 0 1 none, .keep) := fun g n => rfl
  simp only [zaZ] at ap1
  have e1 : ¬ tb = h4.next + 1 := by omega
  have e2 : ¬ tb = h4.next := by omega
  have wr1 : IntKind.i64.wrap 1 = 1 := by decide
  simp [s1, s2, c4, u1, u2, u3, u4, u5, ap1, ap2, e1, e2, ct4, T4.tb, wr1]
  obtain ⟨h6, hh6⟩ : ∃ h6, h6 = ((h4.push (.row (zaZ p wp wc wx wl wk))).push (.grow 29 (zaZ p wp wc wx wl wk))).set tb (.row [.ptr tr 3 0, .int .i64 1]) := ⟨_, rfl⟩
  have n6 : h6.next = h4.next + 2 := by rw [hh6]; simp
  have w6 : h6.WF := by rw [hh6]; exact ((w4.push _).push _).set (by simp; omega) _
  have k6 : ∀ x, x ≠ tb -> x < h4.next -> h6.get x = h4.get x := fun x hx hl => by rw [hh6, H.get_set, if_neg hx, H.get_push, if_neg (by simp; omega), H.get_push, if_neg (by omega)]
  have ct6 : zaf h6.get tb 2 = some [.ptr tr 3 0, .int .i64 1] := (zak (n := 2) (show h6.get tb = some (.row [.ptr tr 3 0, .int .i64 1]) by rw [hh6]; simp) rfl).trans rfl
  have c6 : zaf h6.get h.next 29 = some (zaZ p wp wc wx wl wk) := (zak (n := 29) ((k6 _ (by omega) (by omega)).trans b4) rfl).trans rfl
  have sc : ∀ Q : V -> H -> Prop, (∀ h', h'.WF -> h6.next ≤ h'.next -> (∀ x, x ≠ tr -> x < h6.next -> h'.get x = h6.get x) -> Q (.int .i64 0) h') -> Acalls Tryz.prog 81 [.ptr tr 3 0, .agg (pfxC p.n.p), .sl (h4.next + 1) 29 0 1 none] h6 Q := fun Q q =>
   zj3 ((k6 _ (fun e => hne e.symm) (by omega)).trans T4.tr) hp rfl q
  simp only [zaZ] at hh6 c6
  simp only [pfxC] at sc
  rw [<- hh6]
  refine zcD ?_
  simp [ct6, c6]
  refine ⟨fun v h' => v = .int .i64 0 ∧ h'.WF ∧ h6.next ≤ h'.next ∧ ∀ x, x ≠ tr -> x < h6.next -> h'.get x = h6.get x, ⟨.int .i64 0, h6, rfl, w6, Nat.le_refl _, fun _ _ _ => rfl⟩, sc _ fun h' a b c => ⟨rfl, a, b, c⟩, ?_⟩
  rintro _ h' ⟨rfl, a, b, c⟩
  simp
  simp only [if_true] at q
  exact q h' a (by omega) fun x h1 h2 hl => by rw [c x h2 (by omega), k6 x h1 (by omega)]; exact kb x hl
theorem zlo {h : H} {p : Pth} {vp vc vx vl vk : V} (A : AttAt h.get p.att vp vc vx vl vk) (hn : p.src.peer.length ≤ 9223372036854775807) : Pure Tryz.prog 26 [.agg (zaZ p vp vc vx vl vk)] h (.bool (zcq p)) := by
 refine zan Tryz.func26 S.a10c S.a10e rfl (Nat.le_of_ble_eq_true rfl) fun wf => ?_; simp only [S.a10]
 obtain ⟨es, P⟩ := A.path
 have o1 := P.sls.one
 have o2 := A.comms.one
 have o3 := A.exts.one
 have o4 := A.larges.one
 have o5 := A.clus.one
 obtain ⟨h2, hh2⟩ : ∃ h2, h2 = h.push (.row (zaZ p vp vc vx vl vk)) := ⟨_, rfl⟩
 have g2 : Ge h h2 := by rw [hh2]; exact (Ge.refl _).push _
 have n2 : h2.next = h.next + 1 := by rw [hh2]; simp
 have c2 : zaf h2.get h.next 29 = some (zaZ p vp vc vx vl vk) := by rw [hh2]; simp [zaZ]
 obtain ⟨h3, hh3⟩ : ∃ h3, h3 = (h2.push (.row [.bool true, .nilsl, .int .i64 0])).push (.row [.ptr h2.next 3 0, .int .i64 0]) := ⟨_, rfl⟩
 have g3 : Ge h2 h3 := by rw [hh3]; exact ((Ge.refl _).push _).push _
 have A3 := A.ge wf (g2.trans g3)
 have T3 : Tb0 h3 (h2.next + 1) h2.next := ⟨by rw [hh3]; simp, by rw [hh3]; simp⟩
 have c3 : zaf h3.get h.next 29 = some (zaZ p vp vc vx vl vk) := by rw [g3.cells (by omega)]; exact c2
 have pc : ∀ Q : V -> H -> Prop, (∀ h', h'.WF -> h3.next ≤ h'.next -> (∀ x, x ≠ h2.next + 1 -> x ≠ h2.next -> x < h3.next -> h'.get x = h3.get x) -> Q (.int .i64 (if zcq p = true then 0 else 2)) h') -> Acalls Tryz.prog 50 [.ptr (h2.next + 1) 2 0, .agg (zaZ p vp vc vx vl vk)] h3 Q := fun Q q =>
  zjI T3 (by omega) A3 hn q
 simp only [zaZ] at hh2 c3 pc
 simp [zaZ, o1, o2, o3, o4, o5]
 rw [<- hh2]
 refine zdh [h.next] [1, 2, 0, 0, 0] rfl (by rfl) ?_
 simp
 refine zch (v := .ptr (h2.next + 1) 2 0) (h' := h3) (fun Q q => zl7 (by rw [<- hh3]; exact q)) (by decide) (fun _ => fun k hk => ?_) ?_
 ·rw [List.mem_singleton] at hk
  subst hk
  exact g3.2 _ (by omega)
 simp [c3, I.foot, zba]
 refine ⟨by decide, fun v h' => v = .int .i64 (if zcq p = true then 0 else 2) ∧ Ge h h', ⟨.int .i64 (if zcq p = true then 0 else 2), h3, rfl, g2.trans g3⟩, pc _ fun h' _ b c => ⟨rfl, ⟨by have := g2.1; have := g3.1; omega, fun x hx => by rw [c x (by have := g2.1; omega) (by have := g2.1; omega) (by have := g2.1; have := g3.1; omega), g3.2 x (by have := g2.1; omega), g2.2 x hx]⟩⟩, ?_⟩
 rintro _ h' ⟨rfl, gh⟩
 cases hm : zcq p <;> simp [gh]
end Go.Am

namespace Go.Am
open Go.Proofs

set_option maxRecDepth 100000
def isTg (x : Nat) : Bool := decide (x / 281474976710656 = 2)
theorem zmW (n : Nat) : ((n : Nat) : Int).fdiv (2 ^ min 48 IntKind.u64.bits) = (n : Int) / 281474976710656 := Int.fdiv_eq_ediv_of_nonneg _ (by decide)
theorem zlh {h : H} {x : Nat} : Pure Tryz.prog 36 [.int .u64 (x : Nat)] h (.bool (isTg x)) := by
 refine zan Tryz.func36 S.a16c S.a16e rfl (Nat.le_of_ble_eq_true rfl) fun wf => ?_; simp only [S.a16]
 have e : ((x : Int) / 281474976710656 == 2) = isTg x := by unfold isTg; rw [eqI, decide_eq_decide]; omega
 simp [zmW, e]
theorem zlm {h : H} {v : V} {l : List Nat} {g : FuncId} {first cap : List V} {f : Nat -> Bool} (hs : Sls h.get 1 v (l.map cX)) (hf : ∀ x ∈ l, Pure Tryz.prog g (first ++ [.int .u64 (x : Nat)] ++ cap) h (.bool (f x))) {Q : V -> H -> Prop} (q : ∀ k : Int, decide (0 ≤ k) = l.any f -> Q (.int .i64 k) h) : Acalls Tryz.prog 68 [v, .func (.func g) first cap] h Q := by
 refine zaD Tryz.func68 S.a32c S.a32e (Nat.le_of_ble_eq_true rfl) fun wf => ?_; simp only [S.a32]
 have hlen := hs.len
 have hb := hs.bound
 simp at hlen hb
 simp [hlen]
 refine zaJ (fun i t h' => (t 0 = v ∧ t 1 = .func (.func g) first cap ∧ t 6 = v ∧ t 7 = .int .i64 (l.length : Nat) ∧ t 8 = .int .i64 (i : Nat)) ∧ h' = h ∧ (l.take i).any f = false) l.length ⟨by simp, rfl, by simp⟩ ?_
 rintro i t h' hi ⟨⟨t0, t1, t6, t7, t8⟩, rfl, hn⟩ K hK
 by_cases hlt : i < l.length
 ·obtain ⟨p, qq, o, cs, e1, e2, e3⟩ := hs.at1 (f := fun x : Nat => V.int .u64 x) hlt
  have hw := zaL hlt hb
  have hc := hf _ (List.getElem_mem hlt)
  simp only [List.append_assoc, List.singleton_append] at hc
  simp [t0, t1, t7, t8, hlt, e1, e2, e3]
  refine hc _ ?_
  cases hx : f l[i] with
  | true =>
   have hm : l.any f = true := List.any_eq_true.2 ⟨_, List.getElem_mem hlt, hx⟩
   simp
   exact q _ (by simp [hm])
  | false =>
   simp [t8, hw]
   refine hK _ _ hlt ⟨by simp [t0, t1, t6, t7], rfl, ?_⟩
   rw [List.take_add_one, List.getElem?_eq_getElem hlt, List.any_append, hn]
   simp [hx]
 ·have : i = l.length := by omega
  subst this
  rw [List.take_length] at hn
  simp [t7, t8]
  exact q _ (by simp [hn])
theorem zlV {h : H} {v : V} {l : List Nat} {g : FuncId} {first cap : List V} {f : Nat -> Bool} (hs : Sls h.get 1 v (l.map cX)) (hf : ∀ x ∈ l, Pure Tryz.prog g (first ++ [.int .u64 (x : Nat)] ++ cap) h (.bool (f x))) : Pure Tryz.prog 40 [v, .func (.func g) first cap] h (.bool (l.any f)) := by
 refine zan Tryz.func40 S.a18c S.a18e rfl (Nat.le_of_ble_eq_true rfl) fun wf => ?_; simp only [S.a18]
 simp
 refine zlm hs hf fun k hk => ?_
 simp [<- hk]
def zbV (l : List Nat) : Bool := risB oN l && l.all isTg
theorem zlT {α : Type} (f : α -> Bool) (l : List α) : (!l.any fun x => !f x) = l.all f := by
 induction l with
 | nil => rfl
 | cons a l ih => simp only [List.any_cons, List.all_cons, Bool.not_or, Bool.not_not, ih]
theorem zg3 {h : H} {v : V} {l : List Nat} (hs : Sls h.get 1 v (l.map cX)) (hf : ∀ x ∈ l, x < 18446744073709551616) (hl : l.length ≤ 1000) : Pure Tryz.prog 48 [v] h (.bool (zbV l)) := by
 refine zan Tryz.func48 S.a21c S.a21e rfl (Nat.le_of_ble_eq_true rfl) fun wf => ?_; simp only [S.a21]
 simp
 refine zjN hs hf hl _ ?_
 by_cases hr : l.length ≤ 64 ∧ adjB oN l = true
 ·have e1 : risB oN l = true := by simp [risB, hr]
  rw [zg1 hr.1 hr.2]
  simp
  refine zlV (g := 74) (first := []) (cap := []) (f := fun x => !isTg x) hs (fun x _ => ?_) _ ?_
  ·show Pure Tryz.prog 74 [.int .u64 (x : Nat)] h _
   clear wf
   refine zan Tryz.func74 S.a35c S.a35e rfl (Nat.le_of_ble_eq_true rfl) fun wf => ?_; simp only [S.a35]
   simp
   refine zlh _ ?_
   simp
  ·simp [zbV, e1]
   rw [<- zlT isTg l, Bool.not_not]
 ·have e1 : risB oN l = false := by
   unfold risB
   cases e : adjB oN l with
   | false => rfl
   | true => simp [e] at hr; simp; omega
  have e2 : encR oN bX l = .tup [.str [], .int .i64 2] := if_neg hr
  rw [e2]
  simp [zbV, e1]
theorem zdr (g : H) (a b : O) {k : Nat} (hk : k = g.next) : (g.push a).set k b = g.push b := by
 subst hk
 refine H.ext' rfl fun j => ?_
 simp only [H.get_set, H.get_push]
 split <;> rfl
structure Vr where
 name : List UInt8
 rd : Nat
 imp : List Nat
 exp : List Nat
 deriving DecidableEq
def vrC (v : Vr) (vi ve : V) : List V := [.str v.name, .int .u64 (v.rd : Nat), vi, ve]
structure VrAt (g : Nat -> Option O) (v : Vr) (vi ve : V) : Prop where
 imp : Sls g 1 vi (v.imp.map cX)
 exp : Sls g 1 ve (v.exp.map cX)
structure VrOk (v : Vr) : Prop where
 name : v.name.length ≤ 9223372036854775807
 imp : v.imp.length ≤ 1000 ∧ ∀ x ∈ v.imp, x < 18446744073709551616
 exp : v.exp.length ≤ 1000 ∧ ∀ x ∈ v.exp, x < 18446744073709551616
theorem VrAt.ge {a b : H} {v : Vr} {vi ve : V} (s : VrAt a.get v vi ve) (w : a.WF) (g : Ge a b) : VrAt b.get v vi ve := ⟨s.imp.ge w g, s.exp.ge w g⟩
def vrfB (v : Vr) : Bool := zbZ v.name && zbV v.imp && zbV v.exp
def zeU (s : List UInt8) : Pth := ⟨⟨⟨1, 0, [0, 0, 0, 0], 0⟩, 0, 0⟩, att0, ⟨2, s, 0, 0, [], []⟩, false⟩
theorem zh3 (s : List UInt8) : zcq (zeU s) = zbZ s := by
 have h1 : mayN (zeU s).n = true := (show mayN ⟨⟨1, 0, [0, 0, 0, 0], 0⟩, 0, 0⟩ = true by decide)
 have h2 : attB (zeU s).att = true := (show attB att0 = true by decide)
 unfold zcq
 rw [h1, h2]
 simp [zeU]
theorem znC {h : H} {v : Vr} {vi ve : V} (V1 : VrAt h.get v vi ve) (ok : VrOk v) : Pure Tryz.prog 25 [.agg (vrC v vi ve)] h (.bool (vrfB v)) := by
 refine zan Tryz.func25 S.a9c S.a9e rfl (Nat.le_of_ble_eq_true rfl) fun wf => ?_; simp only [S.a9]
 have o1 := V1.imp.one
 have o2 := V1.exp.one
 obtain ⟨h2, hh2⟩ : ∃ h2, h2 = (h.push (.row (vrC v vi ve))).push (.row [.int .i64 1, .int .u64 0, .str [0, 0, 0, 0], .int .i64 0, .int .u32 0, .int .u32 0, .int .i64 0, .nilsl, .str [], .bool false, .int .u32 0, .bool false, .int .u32 0, .bool false, .int .u32 0, .int .u32 0, .nilsl, .nilsl, .nilsl, .bool false, .int .u32 0, .nilsl, .int .i64 2, .str v.name, .int .u32 0, .int .u32 0, .str [], .str [], .bool false]) := ⟨_, rfl⟩
 have g2 : Ge h h2 := by rw [hh2]; exact ((Ge.refl _).push _).push _
 have c2 : zaf h2.get h.next 4 = some (vrC v vi ve) := by rw [hh2]; simp [vrC]
 have n0 : ∀ sz, Sls h2.get sz .nilsl [] := fun sz => ⟨.inl ⟨rfl, .inl rfl⟩, by simp, rfl, by simp⟩
 have A0 : AttAt h2.get att0 .nilsl .nilsl .nilsl .nilsl .nilsl := ⟨⟨[], n0 _, rfl, fun i s h => by simp [att0] at h⟩, n0 _, n0 _, n0 _, n0 _⟩
 have mc := zlo (p := zeU v.name) A0 ok.name
 rw [zh3] at mc
 simp only [vrC] at hh2 c2
 simp [zaZ, zeU, att0] at mc
 simp [vrC, o1, o2]
 have z2 : ((h.push (.row [.str v.name, .int .u64 (v.rd : Nat), vi, ve])).push (.row [.int .i64 0, .int .u64 0, .str [], .int .i64 0, .int .u32 0, .int .u32 0, .int .i64 0, .nilsl, .str [], .bool false, .int .u32 0, .bool false, .int .u32 0, .bool false, .int .u32 0, .int .u32 0, .nilsl, .nilsl, .nilsl, .bool false, .int .u32 0, .nilsl, .int .i64 0, .str [], .int .u32 0, .int .u32 0, .str [], .str [], .bool false])).set (h.next + 1) (.row [.int .i64 1, .int .u64 0, .str [0, 0, 0, 0], .int .i64 0, .int .u32 0, .int .u32 0, .int .i64 0, .nilsl, .str [], .bool false, .int .u32 0, .bool false, .int .u32 0, .bool false, .int .u32 0, .int .u32 0, .nilsl, .nilsl, .nilsl, .bool false, .int .u32 0, .nilsl, .int .i64 2, .str v.name, .int .u32 0, .int .u32 0, .str [], .str [], .bool false]) = h2 := by
  rw [hh2]
  exact zdr _ _ _ (by simp)
 rw [z2]
 refine mc _ ?_
 cases k1 : zbZ v.name with
 | false => simp [vrfB, k1, g2]
 | true =>
  simp [c2]
  refine zg3 (V1.imp.ge wf g2) ok.imp.2 ok.imp.1 _ ?_
  cases k2 : zbV v.imp with
  | false => simp [vrfB, k1, k2, g2]
  | true =>
   simp [c2]
   refine zg3 (V1.exp.ge wf g2) ok.exp.2 ok.exp.1 _ ?_
   simp [vrfB, k1, k2, g2]
end Go.Am

namespace Go.Am
open Go.Proofs

set_option maxRecDepth 100000
end Go.Am

namespace Go.Am
open Go.Proofs

set_option maxRecDepth 100000
theorem Fc.appends {h : H} {lo sz : Nat} (bytes : Nat) {v x : V} {es xs : List (List V)} (f : Fc h lo sz v es) (hlo : lo ≤ h.next) (hs : ∀ a ∈ es, a.length = sz) (hx : Sls h.get sz x xs) (h1 : ∀ e ∈ xs, e.all V.one = true) (hsz : sz ≠ 0)
  (hb : (es.length + xs.length) * bytes ≤ 140737488355328) (hb2 : es.length + xs.length ≤ 9223372036854775807) :
  ∃ v' d, zay h.get h.next sz bytes v x = some (v', d) ∧ Fc (h.app d) lo sz v' (es ++ xs) ∧ h.next ≤ (h.app d).next ∧ (∀ i, i ∉ v.ids -> i < h.next -> (h.app d).get i = h.get i) ∧ (h.WF -> (h.app d).WF) ∧ (∀ i, i < h.next -> (es = [] ∨ h.get i ≠ some (.grow sz es.flatten)) -> (h.app d).get i = h.get i) := by
 have fromGl : Gl h lo sz v es -> ∃ v' d, zay h.get h.next sz bytes v x = some (v', d) ∧ Fc (h.app d) lo sz v' (es ++ xs) ∧ h.next ≤ (h.app d).next ∧ (∀ i, i ∉ v.ids -> i < h.next -> (h.app d).get i = h.get i) ∧ (h.WF -> (h.app d).WF) ∧ (∀ i, i < h.next -> (es = [] ∨ h.get i ≠ some (.grow sz es.flatten)) -> (h.app d).get i = h.get i) := fun g => by
  obtain ⟨v', d, ea, gl, hn, hk, hw, hid⟩ := g.appends (bytes := bytes) hlo hs hx h1 hsz hb hb2
  refine ⟨v', d, ea, gl.fr, hn, hk, hw, fun i hi ho => hk i (fun hv => ?_) hi⟩
  rcases g with ⟨e1, e2⟩ | ⟨hne, j, g1, g2, e2, g3⟩
  ·rw [e2] at hv; simp [V.ids] at hv
  ·rw [e2] at hv; simp [V.ids] at hv
   subst hv
   rcases ho with ho | ho
   ·exact hne ho
   ·exact ho g3
 rcases f with ⟨rfl, rfl | ⟨k, hk, rfl⟩⟩ | ⟨_, g⟩
 ·exact fromGl (Gl.nil _ _ _)
 ·by_cases h0 : xs.length = 0
  ·have e0 : xs = [] := List.eq_nil_of_length_eq_zero h0
   subst e0
   have a0 := zeg (next := h.next) (bytes := bytes) (k := k) hx.read
   exact ⟨_, _, a0, .inl ⟨rfl, .inr ⟨k, hk, rfl⟩⟩, Nat.le_refl _, fun _ _ _ => rfl, id, fun _ _ _ => rfl⟩
  ·have hne : xs ≠ [] := fun e => h0 (by rw [e]; rfl)
   have ones : xs.flatten.all V.one = true := by rw [List.all_flatten]; exact List.all_eq_true.2 h1
   have a0 := zew (next := h.next) (bytes := bytes) (k := k) hx.read h0 ones hsz (by simpa using hb) (by simp at hb2; omega)
   refine ⟨_, _, a0, ?_, by simp, fun i _ hi => ?_, fun w => w.push _, fun i hi _ => ?_⟩
   ·refine .inr ⟨by simpa using hne, .inr ⟨by simpa using hne, h.next, hlo, by simp, ?_, by simp⟩⟩
    rw [List.nil_append, zaN hx.size]
   ·rw [zci, H.get_push, if_neg (by omega)]
   ·rw [zci, H.get_push, if_neg (by omega)]
 ·exact fromGl g
theorem Fc.turn {h h' : H} {lo sz : Nat} {v : V} {es : List (List V)} {o : O} (f : Fc h lo sz v es) (hn : h.next ≤ h'.next) (k : ∀ i, i < h.next -> h.get i ≠ some o -> h'.get i = h.get i) (ho : o ≠ .grow sz es.flatten) : Fc h' lo sz v es := by
 rcases f with h1 | ⟨hes, h1 | ⟨h1, i, h2, h3, h4, h5⟩⟩
 ·exact .inl h1
 ·exact .inr ⟨hes, .inl h1⟩
 ·refine .inr ⟨hes, .inr ⟨h1, i, h2, by omega, h4, ?_⟩⟩
  rw [k i h3 (fun e => by rw [h5, Option.some.injEq] at e; exact ho e.symm)]; exact h5
def AttR (h : H) (lo : Nat) (a : Att) (vp vc vl vk : V) : Prop := PathFr h lo vp a.path ∧ Fc h lo 1 vc (a.comms.map cP) ∧ Fc h lo 3 vl (a.larges.map cL) ∧ Fc h lo 1 vk (a.clus.map cP)
theorem AttFr.rest {h : H} {lo : Nat} {a : Att} {vp vc vx vl vk : V} (f : AttFr h lo a vp vc vx vl vk) : AttR h lo a vp vc vl vk := ⟨f.path, f.comms, f.larges, f.clus⟩
def znr (o : O) : Prop := (∀ l : List Nat, o ≠ .grow 1 (l.map cP).flatten) ∧ ∀ sz cs, sz ≠ 1 -> sz ≤ 3 -> o ≠ .grow sz cs
theorem ziv (r : List V) : znr (.row r) := ⟨fun _ => by simp, fun _ _ _ _ => by simp⟩
theorem AttR.turn {h h' : H} {lo : Nat} {a : Att} {vp vc vl vk : V} (f : AttR h lo a vp vc vl vk) {o : O} (ho : znr o) (hn : h.next ≤ h'.next) (k : ∀ i, i < h.next -> h.get i ≠ some o -> h'.get i = h.get i) : AttR h' lo a vp vc vl vk := by
 obtain ⟨⟨es, f1, f2, f3⟩, f4, f5, f6⟩ := f
 exact ⟨⟨es, f1.turn hn k (ho.2 _ _ (by decide) (by decide)), f2, fun i s hi => by obtain ⟨w, e, g⟩ := f3 i s hi; exact ⟨w, e, g.turn hn k (ho.1 _)⟩⟩, f4.turn hn k (ho.1 _), f5.turn hn k (ho.2 _ _ (by decide) (by decide)), f6.turn hn k (ho.1 _)⟩
def zpb (a : Att) (l : List Nat) : Att := ⟨a.origin, a.path, a.next, a.hasMed, a.med, a.hasPref, a.pref, a.atomic, a.aggAS, a.aggId, a.comms, l, a.larges, a.hasOrig, a.orig, a.clus⟩
def ExAt (h : H) (lo : Nat) (v : V) (l : List Nat) : Prop := Sls h.get 1 v (l.map cX) ∧ ((l = [] ∧ (v = .nilsl ∨ ∃ k, lo ≤ k ∧ v = .sl k 0 0 0 (some 0))) ∨ ∃ (j n : Nat) (cs : List V), lo ≤ j ∧ j < h.next ∧ v = .sl j n 0 l.length none ∧ h.get j = some (.grow 1 cs) ∧ cs.length = n)
theorem ExAt.keep {h h' : H} {lo : Nat} {v : V} {l : List Nat} (e : ExAt h lo v l) {r : List V} (hn : h.next ≤ h'.next) (k : ∀ i, i < h.next -> h.get i ≠ some (.row r) -> h'.get i = h.get i) : ExAt h' lo v l := by
 obtain ⟨s, e1 | ⟨j, n, cs, a, b, c, d, f⟩⟩ := e
 ·refine ⟨?_, .inl e1⟩
  obtain ⟨rfl, rfl | ⟨k2, _, rfl⟩⟩ := e1
  ·exact ⟨.inl ⟨rfl, .inl rfl⟩, by simp, rfl, by simp⟩
  ·exact ⟨.inr ⟨_, _, _, _, rfl⟩, by simp, by simp [zaz], by simp⟩
 ·have hk : h'.get j = h.get j := k j b (by rw [d]; simp)
  refine ⟨⟨s.kind, s.size, ?_, s.bound⟩, .inr ⟨j, n, cs, a, by omega, c, hk.trans d, f⟩⟩
  have hr := s.read
  rw [c, zaz] at hr ⊢
  unfold zaf at hr ⊢
  rw [hk]; exact hr
theorem ExAt.ge {h h' : H} {lo : Nat} {v : V} {l : List Nat} (e : ExAt h lo v l) (g : Ge h h') : ExAt h' lo v l := e.keep (r := []) g.1 fun i hi _ => g.2 i hi
theorem AttR.ge {h h' : H} {lo : Nat} {a : Att} {vp vc vl vk : V} (f : AttR h lo a vp vc vl vk) (g : Ge h h') : AttR h' lo a vp vc vl vk := f.turn (ziv []) g.1 fun i hi _ => g.2 i hi
theorem AttR.le {h : H} {lo lo' : Nat} {a : Att} {vp vc vl vk : V} (f : AttR h lo a vp vc vl vk) (hl : lo' ≤ lo) : AttR h lo' a vp vc vl vk := ⟨f.1.le hl, f.2.1.le hl, f.2.2.1.le hl, f.2.2.2.le hl⟩
theorem ExAt.le {h : H} {lo lo' : Nat} {v : V} {l : List Nat} (e : ExAt h lo v l) (hl : lo' ≤ lo) : ExAt h lo' v l :=
 ⟨e.1, e.2.imp (fun ⟨a, b⟩ => ⟨a, b.imp id fun ⟨k, c, d⟩ => ⟨k, by omega, d⟩⟩) fun ⟨j, n, cs, a, b⟩ => ⟨j, n, cs, by omega, b⟩⟩
theorem AttR.at {h : H} {lo : Nat} {a : Att} {vp vc vx vl vk : V} (f : AttR h lo a vp vc vl vk) (z : AttSz a) {l : List Nat} (e : Sls h.get 1 vx (l.map cX)) : AttAt h.get (zpb a l) vp vc vx vl vk :=
 ⟨f.1.at z.path z.segs, f.2.1.sls (zdq _) (by have := z.comms; simp; omega), e, f.2.2.1.sls (zgT _) (by have := z.larges; simp; omega), f.2.2.2.sls (zdq _) (by have := z.clus; simp; omega)⟩
end Go.Am

namespace Go.Am
open Go.Proofs

set_option maxRecDepth 100000
end Go.Am

namespace Go.Am
open Go.Proofs

set_option maxRecDepth 100000
end Go.Am

namespace Go.Am
open Go.Proofs

set_option maxRecDepth 100000
def zb9 {α : Type} (f : α -> V) (ks : List α) : List (V × V) := ks.map fun k => (f k, .agg [])
def insD {α : Type} [DecidableEq α] (ks : List α) (c : α) : List α := if c ∈ ks then ks else ks ++ [c]
def ddL {α : Type} [DecidableEq α] (l : List α) : List α := l.foldl insD []
structure KeyF {α : Type} [DecidableEq α] (kd : KD) (f : α -> V) : Prop where
 plain : (∃ k, kd = .int k) ∨ kd = .str
 ok : ∀ a, zbQ kd (f a) = true
 eq : ∀ a b, zed (f a) (f b) = decide (a = b)
section
variable {α : Type} [DecidableEq α] {kd : KD} {f : α -> V}
theorem zdC (K : KeyF kd f) (c k : α) (r : List (V × V)) (i : Nat) : zbY kd (f c) ((f k, .agg []) :: r) i = if c = k then some (some (i, .agg [])) else zbY kd (f c) r (i + 1) := by
 rcases K.plain with ⟨k', rfl⟩ | rfl
 ·simp only [zbY, K.ok, if_true, K.eq, decide_eq_true_eq]
 ·simp only [zbY, K.ok, if_true, K.eq, decide_eq_true_eq]
theorem zhe (K : KeyF kd f) {c : α} : ∀ (ks : List α) (i : Nat), c ∉ ks -> zbY kd (f c) (zb9 f ks) i = some none
 | [], _, _ => rfl
 | k :: ks, i, h => by
  show zbY kd (f c) ((f k, .agg []) :: zb9 f ks) i = _
  rw [zdC K, if_neg (fun e => h (by simp [e]))]
  exact zhe K ks (i + 1) fun e => h (by simp [e])
theorem zfZ (K : KeyF kd f) {c : α} : ∀ (ks : List α) (i : Nat), c ∈ ks -> ∃ j, i ≤ j ∧ ks[j - i]? = some c ∧ zbY kd (f c) (zb9 f ks) i = some (some (j, .agg []))
 | [], _, h => by simp at h
 | k :: ks, i, h => by
  show ∃ j, i ≤ j ∧ (k :: ks)[j - i]? = some c ∧ zbY kd (f c) ((f k, .agg []) :: zb9 f ks) i = _
  by_cases e : c = k
  ·subst e
   exact ⟨i, Nat.le_refl _, by simp, by rw [zdC K, if_pos rfl]⟩
  ·obtain ⟨j, h1, h2, h3⟩ := zfZ K ks (i + 1) (by simpa [e] using h)
   refine ⟨j, by omega, ?_, by rw [zdC K, if_neg e]; exact h3⟩
   rw [show j - i = (j - (i + 1)) + 1 by omega]; simpa using h2
theorem zmO (K : KeyF kd f) {g : Nat -> Option O} {m : Nat} {ks : List α} {bs : List Nat} {tk : Nat} (c : α) (hm : g m = some (.mapo (zb9 f ks) bs tk)) : ∃ bs' tk', zck g kd (.map m) (f c) (.agg []) = some (.set m (.mapo (zb9 f (insD ks c)) bs' tk')) := by
 unfold zck insD
 rw [if_pos (K.ok c)]
 simp only [hm]
 by_cases hc : c ∈ ks
 ·obtain ⟨j, _, h2, h3⟩ := zfZ K ks 0 hc
  rw [h3, if_pos hc]
  simp only [Nat.sub_zero] at h2
  refine ⟨bs, tk, ?_⟩
  have : (zb9 f ks).set j (f c, .agg []) = zb9 f ks := by
   unfold zb9
   rw [show (f c, V.agg []) = (fun k => (f k, V.agg [])) c from rfl, <- List.map_set]
   congr 1
   apply List.ext_getElem?
   intro n
   rw [List.getElem?_set]
   split
   ·rename_i e; subst e
    have := (List.getElem?_eq_some_iff.1 h2).1
    rw [if_pos this, h2]
   ·rfl
  simp only [this]
 ·rw [zhe K ks 0 hc, if_neg hc]
  exact ⟨bs ++ [tk], tk + 1, by simp [zb9]⟩
end
theorem zje : KeyF KD.str (fun s : List UInt8 => V.str s) := ⟨.inr rfl, fun _ => rfl, fun a b => by simp only [zed]; exact eqS a b⟩
theorem zjw : KeyF (KD.int .u64) (fun n : Nat => V.int .u64 (n : Nat)) := ⟨.inl ⟨_, rfl⟩, fun _ => rfl, fun a b => by simp only [zed]; exact eqN a b⟩
theorem zf5 {α : Type} [DecidableEq α] : ∀ (l acc : List α), acc.Nodup -> ((l.foldl insD acc).length = acc.length + l.length ↔ (acc ++ l).Nodup) ∧ (l.foldl insD acc).length ≤ acc.length + l.length
 | [], acc, h => by simp [h]
 | a :: l, acc, h => by
  rw [List.foldl_cons]
  by_cases ha : a ∈ acc
  ·have e : insD acc a = acc := if_pos ha
   rw [e]
   obtain ⟨h1, h2⟩ := zf5 l acc h
   refine ⟨⟨fun e => by simp at e; omega, fun e => ?_⟩, by simp; omega⟩
   exact absurd ha (fun hm => by
    have := (List.nodup_append.1 e).2.2 a hm a (by simp)
    exact this rfl)
  ·have e : insD acc a = acc ++ [a] := if_neg ha
   rw [e]
   have hn : (acc ++ [a]).Nodup := List.nodup_append.2 ⟨h, by simp, fun x hx y hy e => by
    rw [List.mem_singleton] at hy; rw [e, hy] at hx; exact ha hx⟩
   obtain ⟨h1, h2⟩ := zf5 l (acc ++ [a]) hn
   simp only [List.length_append, List.length_singleton, List.append_assoc, List.singleton_append] at h1 h2
   exact ⟨⟨fun e => h1.1 (by simp at e; omega), fun e => by rw [h1.2 e]; simp; omega⟩, by simp; omega⟩
theorem zfy {α : Type} [DecidableEq α] (l : List α) : (ddL l).length < l.length ↔ ¬ l.Nodup := by
 obtain ⟨h1, h2⟩ := zf5 l [] List.nodup_nil
 simp at h1 h2
 unfold ddL
 rw [<- h1]
 omega
theorem zgQ {α : Type} [DecidableEq α] (l : List α) {i : Nat} (h : i < l.length) : ddL (l.take (i + 1)) = insD (ddL (l.take i)) l[i] := by
 unfold ddL
 rw [List.take_add_one, List.getElem?_eq_getElem h, List.foldl_append]
 rfl
structure VrsAt (g : Nat -> Option O) (v : V) (l : List Vr) (es : List (List V)) : Prop where
 sls : Sls g 4 v es
 len : es.length = l.length
 at' : ∀ (i : Nat) (x : Vr), l[i]? = some x -> ∃ vi ve, es[i]? = some (vrC x vi ve) ∧ VrAt g x vi ve
theorem VrsAt.ge {a b : H} {v : V} {l : List Vr} {es : List (List V)} (s : VrsAt a.get v l es) (w : a.WF) (g : Ge a b) : VrsAt b.get v l es :=
 ⟨s.sls.ge w g, s.len, fun i x hx => by obtain ⟨vi, ve, e, h⟩ := s.at' i x hx; exact ⟨vi, ve, e, h.ge w g⟩⟩
def zbI (l : List Vr) : Int := if 8 < l.length then 3 else if l.all vrfB = true then (if (l.map Vr.name).Nodup ∧ (l.map Vr.rd).Nodup then 0 else 6) else 2
theorem ziW {h : H} {v : V} {l : List Vr} {es : List (List V)} (hs : VrsAt h.get v l es) (ok : ∀ x ∈ l, VrOk x) : Pure Tryz.prog 17 [v] h (.int .i64 (zbI l)) := by
 refine zan Tryz.func17 S.a5c S.a5e rfl (Nat.le_of_ble_eq_true rfl) fun wf => ?_; simp only [S.a5]
 have hl := hs.sls.len
 have hb := hs.sls.bound
 rw [hs.len] at hl hb
 by_cases h8 : 8 < l.length
 ·have h8' : (8 : Int) < (l.length : Int) := by omega
  simp [hl, h8', zbI, h8]
 have h8' : ¬ (8 : Int) < (l.length : Int) := by omega
 simp [hl, h8']
 obtain ⟨h2, hh2⟩ : ∃ h2, h2 = (h.push (.mapo [] [] 0)).push (.mapo [] [] 0) := ⟨_, rfl⟩
 have g2 : Ge h h2 := by rw [hh2]; exact ((Ge.refl _).push _).push _
 have w2 : h2.WF := by rw [hh2]; exact (wf.push _).push _
 have n2 : h2.next = h.next + 2 := by rw [hh2]; simp
 have m1 : h2.get h.next = some (.mapo (zb9 (fun s : List UInt8 => V.str s) []) [] 0) := by rw [hh2]; simp [zb9]
 have m2 : h2.get (h.next + 1) = some (.mapo (zb9 (fun n : Nat => V.int .u64 (n : Nat)) []) [] 0) := by rw [hh2]; simp [zb9]
 rw [<- hh2]
 have hl2 := (hs.sls.ge wf g2).len
 rw [hs.len] at hl2
 simp [hl2]
 refine zaJ (fun i t h' => ∃ bs tk bs2 tk2, (t 0 = v ∧ t 3 = .map h.next ∧ t 4 = .map (h.next + 1) ∧ t 12 = v ∧ t 13 = .int .i64 (l.length : Nat) ∧ t 14 = .int .i64 (i : Nat)) ∧ (Ge h h' ∧ h'.WF ∧ h2.next ≤ h'.next) ∧
  h'.get h.next = some (.mapo (zb9 (fun s : List UInt8 => V.str s) (ddL ((l.map Vr.name).take i))) bs tk) ∧ h'.get (h.next + 1) = some (.mapo (zb9 (fun n : Nat => V.int .u64 (n : Nat)) (ddL ((l.map Vr.rd).take i))) bs2 tk2) ∧ (l.take i).all vrfB = true) l.length ⟨[], 0, [], 0, by simp, ⟨g2, w2, Nat.le_refl _⟩, by simpa [ddL] using m1, by simpa [ddL] using m2, by simp⟩ ?_
 rintro i t h' hi ⟨bs, tk, bs2, tk2, ⟨t0, t3, t4, t12, t13, t14⟩, ⟨gb, wb, nb⟩, k1, k2, ha⟩ K hK
 by_cases hlt : i < l.length
 ·obtain ⟨vi, ve, e1, e2⟩ := hs.at' i l[i] (List.getElem?_eq_getElem hlt)
  have hie : i < es.length := by rw [hs.len]; exact hlt
  obtain ⟨p, q, o, cs, f1, f2, f3, f4, f5, _⟩ := hs.sls.atG wf hie
  rw [List.getElem?_eq_getElem hie, Option.some.injEq] at e1
  rw [e1] at f5
  have f3' := f3 h' gb
  have hw := zaL hlt hb
  have o1 := e2.imp.one
  have o2 := e2.exp.one
  obtain ⟨x, hx⟩ : ∃ x, x = l[i] := ⟨_, rfl⟩
  rw [<- hx] at e2 f5
  have okx := ok x (by rw [hx]; exact List.getElem_mem hlt)
  obtain ⟨h3, hh3⟩ : ∃ h3, h3 = h'.push (.row (vrC x vi ve)) := ⟨_, rfl⟩
  have g3 : Ge h' h3 := by rw [hh3]; exact (Ge.refl _).push _
  have w3 : h3.WF := by rw [hh3]; exact wb.push _
  have z3 : (h'.push (.row [.str [], .int .u64 0, .nilsl, .nilsl])).set h'.next (.row (vrC x vi ve)) = h3 := by rw [hh3]; exact zdr _ _ _ rfl
  have c3 : zaf h3.get h'.next 4 = some (vrC x vi ve) := by rw [hh3]; simp [vrC]
  have vc1 := znC (e2.ge wf (gb.trans g3)) okx
  have k13 := (g3.2 _ (by omega)).trans k1
  have k23 := (g3.2 _ (by omega)).trans k2
  simp only [vrC] at f5 z3 c3 vc1
  simp [t12, t13, t14, hlt, f1, f3', f4, f5, o1, o2]
  rw [z3]
  refine vc1 _ ?_
  cases hv : vrfB x with
  | false =>
   have hall := zeh hlt (f := vrfB) (by rw [<- hx]; exact hv)
   have hch : zbI l = 2 := by unfold zbI; rw [if_neg h8, hall]; simp
   simp [hch, gb.trans g3]
  | true =>
   obtain ⟨b3, tk3, s3⟩ := zmO zje x.name k13
   try simp only at s3
   obtain ⟨h4, hh4⟩ : ∃ h4, h4 = h3.set h.next (.mapo (zb9 (fun s : List UInt8 => V.str s) (insD (ddL ((l.map Vr.name).take i)) x.name)) b3 tk3) := ⟨_, rfl⟩
   have n3 : h3.next = h'.next + 1 := by rw [hh3]; simp
   have k24 : h4.get (h.next + 1) = some (.mapo (zb9 (fun n : Nat => V.int .u64 (n : Nat)) (ddL ((l.map Vr.rd).take i))) bs2 tk2) := by rw [hh4, H.get_set, if_neg (by omega)]; exact k23
   have c4 : zaf h4.get h'.next 4 = some (vrC x vi ve) := by
    have : zaf h4.get h'.next 4 = zaf h3.get h'.next 4 := by unfold zaf; rw [hh4, H.get_set, if_neg (by omega)]
    rw [this]; exact c3
   obtain ⟨b4, tk4, s4⟩ := zmO zjw x.rd k24
   try simp only at s4
   simp only [vrC] at c4
   have ne0 : ¬ h'.next = h.next := by omega
   simp [t3, t4, c3, s3, ne0]
   rw [<- hh4]
   simp [s4, t14, hw]
   refine hK _ _ hlt ⟨b3, tk3, b4, tk4, by simp [t0, t3, t4, t12, t13], ⟨⟨by rw [hh4]; simp; have := gb.1; omega, fun y hy => ?_⟩, ?_, by rw [hh4]; simp; omega⟩, ?_, ?_, zcg hlt ha (by rw [<- hx]; exact hv)⟩
   ·rw [H.get_set, if_neg (by omega), hh4, H.get_set, if_neg (by omega), g3.2 y (by omega)]; exact gb.2 y hy
   ·rw [hh4]; exact (w3.set (by omega) _).set (by simp; omega) _
   ·rw [H.get_set, if_neg (by omega), hh4, H.get_set, if_pos rfl, zgQ _ (by simpa using hlt)]; simp [<- hx]
   ·rw [H.get_set, if_pos rfl, zgQ _ (by simpa using hlt)]; simp [<- hx]
 ·have hi2 : i = l.length := by omega
  subst hi2
  rw [List.take_of_length_le (by simp)] at k1 k2
  rw [List.take_length] at ha
  have hlv : lenV 1 h'.get v = some (.int .i64 (l.length : Nat)) := by have := (hs.sls.ge wf gb).len; rwa [hs.len] at this
  have e1 : lenV 2 h'.get (.map h.next) = some (.int .i64 ((ddL (l.map Vr.name)).length : Nat)) := by simp [lenV, k1, zb9]
  have e2 : lenV 2 h'.get (.map (h.next + 1)) = some (.int .i64 ((ddL (l.map Vr.rd)).length : Nat)) := by simp [lenV, k2, zb9]
  have d1 := zfy (l.map Vr.name)
  have d2 := zfy (l.map Vr.rd)
  rw [List.length_map] at d1 d2
  have hch : zbI l = if (l.map Vr.name).Nodup ∧ (l.map Vr.rd).Nodup then 0 else 6 := by unfold zbI; rw [if_neg h8, if_pos ha]
  simp [t0, t3, t13, t14, e1, hlv]
  by_cases n1 : (l.map Vr.name).Nodup
  ·have l1 : ¬ (ddL (l.map Vr.name)).length < l.length := fun e => d1.1 e n1
   by_cases n2 : (l.map Vr.rd).Nodup
   ·have l2 : ¬ (ddL (l.map Vr.rd)).length < l.length := fun e => d2.1 e n2
    rw [hch, if_pos ⟨n1, n2⟩]
    simp [l1, t4, t0, e2, hlv, l2, gb]
   ·have l2 : (ddL (l.map Vr.rd)).length < l.length := d2.2 n2
    rw [hch, if_neg (fun e => n2 e.2)]
    simp [l1, t4, t0, e2, hlv, l2, gb]
  ·have l1 : (ddL (l.map Vr.name)).length < l.length := d1.2 n1
   rw [hch, if_neg (fun e => n1 e.1)]
   simp [l1, gb]
end Go.Am

namespace Go.Am
open Go.Proofs

set_option maxRecDepth 100000
end Go.Am

namespace Go.Am
open Go.Proofs
set_option maxRecDepth 100000
theorem ziS : zfl (Fr.runF8 Fr.q.tab 1000000 100 16 [] ⟨0, .nil⟩) = true := by kernel_rfl
theorem zgF (h : H) : Pure Tryz.prog 16 [] h (.bool true) := zhF Fr.q.tab_ok ziS h
end Go.Am

namespace Go.Am
open Go.Proofs

set_option maxRecDepth 100000
theorem zjL {h : H} {s : List UInt8} (hl : s.length ≤ 9223372036854775807) : Pure Tryz.prog 55 [.str s] h (.bool (zbZ s)) := by
 refine zan Tryz.func55 S.a28c S.a28e rfl (Nat.le_of_ble_eq_true rfl) fun wf => ?_; simp only [S.a28]
 cases s with
 | nil => simp [zbZ]
 | cons c r =>
  have i0 : ¬ (r.length : Int) + 1 < 1 := by omega
  by_cases h1 : r.length ≤ 15
  ·have i1 : ¬ (16 : Int) < (r.length : Int) + 1 := by omega
   by_cases h2 : 97 ≤ c.toNat
   ·have i2 : ¬ (c.toNat : Int) < 97 := by omega
    by_cases h3 : c.toNat ≤ 122
    ·have i3 : ¬ (122 : Int) < (c.toNat : Int) := by omega
     have j2 : ¬ c.toNat < 97 := by omega
     have j3 : ¬ 122 < c.toNat := by omega
     simp [i0, i1, i2, i3]
     obtain ⟨s, hs⟩ : ∃ s, s = c :: r := ⟨_, rfl⟩
     have hsl : s.length ≤ 16 := by rw [hs]; simp; omega
     have hn : zbZ s = s.all fun c => decide (c ∈ csN) := by rw [hs]; simp [zbZ, h1, h2]
     rw [<- hs]
     refine zaJ (fun i t h' => (t 0 = .str s ∧ t 3 = .int .i64 (i : Nat)) ∧ h' = h ∧ (s.take i).all (fun c => decide (c ∈ csN)) = true) s.length ⟨by simp, rfl, by simp⟩ ?_
     rintro i t h' hi ⟨⟨t0, t3⟩, rfl, ha⟩ K hK
     by_cases hlt : i < s.length
     ·have hw := zaL hlt (by omega)
      have g1 : s[i]? = some s[i] := List.getElem?_eq_getElem hlt
      obtain ⟨b, hb⟩ : ∃ b : Nat, b = s[i].toNat := ⟨_, rfl⟩
      have hmem := zh7 s[i]
      rw [<- hb] at hmem
      have bad : s[i] ∉ csN -> zbZ s = false := fun hx => by
       rw [hn]
       exact Bool.eq_false_iff.2 fun e => hx (by simpa using List.all_eq_true.1 e s[i] (List.getElem_mem hlt))
      have nxt : s[i] ∈ csN -> (s.take (i + 1)).all (fun c => decide (c ∈ csN)) = true := fun hx => by
       rw [List.take_add_one, g1, List.all_append, ha]
       simp [hx]
      have hr : b < 45 ∨ b = 45 ∨ (46 ≤ b ∧ b ≤ 47) ∨ (48 ≤ b ∧ b ≤ 57) ∨ (58 ≤ b ∧ b ≤ 96) ∨ (97 ≤ b ∧ b ≤ 122) ∨ 123 ≤ b := by omega
      rcases hr with hr | hr | hr | hr | hr | hr | hr
      ·have n1 : ¬ (97 : Int) ≤ (b : Int) := by omega
       have n3 : ¬ (48 : Int) ≤ (b : Int) := by omega
       have n5 : ((b : Int) == 45) = false := beq_eq_false_iff_ne.2 (by omega)
       have hx : s[i] ∉ csN := fun e => by have := hmem.1 e; omega
       simp [t0, t3, hlt, <- hb, n1, n3, n5, bad hx]
      ·have n1 : ¬ (97 : Int) ≤ (b : Int) := by omega
       have n3 : ¬ (48 : Int) ≤ (b : Int) := by omega
       have n5 : ((b : Int) == 45) = true := beq_iff_eq.2 (by omega)
       have hx : s[i] ∈ csN := hmem.2 (by omega)
       simp [t0, t3, hlt, <- hb, n1, n3, n5, hw]
       exact hK _ _ hlt ⟨by simp [t0], rfl, nxt hx⟩
      ·have n1 : ¬ (97 : Int) ≤ (b : Int) := by omega
       have n3 : ¬ (48 : Int) ≤ (b : Int) := by omega
       have n5 : ((b : Int) == 45) = false := beq_eq_false_iff_ne.2 (by omega)
       have hx : s[i] ∉ csN := fun e => by have := hmem.1 e; omega
       simp [t0, t3, hlt, <- hb, n1, n3, n5, bad hx]
      ·have n1 : ¬ (97 : Int) ≤ (b : Int) := by omega
       have n3 : (48 : Int) ≤ (b : Int) := by omega
       have n4 : (b : Int) ≤ 57 := by omega
       have hx : s[i] ∈ csN := hmem.2 (by omega)
       simp [t0, t3, hlt, <- hb, n1, n3, n4, hw]
       exact hK _ _ hlt ⟨by simp [t0], rfl, nxt hx⟩
      ·have n1 : ¬ (97 : Int) ≤ (b : Int) := by omega
       have n3 : (48 : Int) ≤ (b : Int) := by omega
       have n4 : ¬ (b : Int) ≤ 57 := by omega
       have n5 : ((b : Int) == 45) = false := beq_eq_false_iff_ne.2 (by omega)
       have hx : s[i] ∉ csN := fun e => by have := hmem.1 e; omega
       simp [t0, t3, hlt, <- hb, n1, n3, n4, n5, bad hx]
      ·have n1 : (97 : Int) ≤ (b : Int) := by omega
       have n2 : (b : Int) ≤ 122 := by omega
       have hx : s[i] ∈ csN := hmem.2 (by omega)
       simp [t0, t3, hlt, <- hb, n1, n2, hw]
       exact hK _ _ hlt ⟨by simp [t0], rfl, nxt hx⟩
      ·have n1 : (97 : Int) ≤ (b : Int) := by omega
       have n2 : ¬ (b : Int) ≤ 122 := by omega
       have n3 : (48 : Int) ≤ (b : Int) := by omega
       have n4 : ¬ (b : Int) ≤ 57 := by omega
       have n5 : ((b : Int) == 45) = false := beq_eq_false_iff_ne.2 (by omega)
       have hx : s[i] ∉ csN := fun e => by have := hmem.1 e; omega
       simp [t0, t3, hlt, <- hb, n1, n2, n3, n4, n5, bad hx]
     ·have : i = s.length := by omega
      subst this
      rw [List.take_length] at ha
      simp [t0, t3, hn, ha]
    ·have i3 : (122 : Int) < (c.toNat : Int) := by omega
     have j3 : 122 < c.toNat := by omega
     have j2 : ¬ c.toNat < 97 := by omega
     have hn : zbZ (c :: r) = false := by
      have : c ∉ csN := fun hx => by have := (zh7 c).1 hx; omega
      simp [zbZ, this]
     simp [i0, i1, i2, i3, hn]
   ·have i2 : (c.toNat : Int) < 97 := by omega
    have j2 : c.toNat < 97 := by omega
    simp [i0, i1, h1, h2, i2, zbZ]
  ·have i1 : (16 : Int) < (r.length : Int) + 1 := by omega
   simp [i0, i1, h1, zbZ]
theorem zjV {h : H} {v : V} {l : List Nat} (hs : Sls h.get 1 v (l.map cX)) (hl : l.length ≤ 1000) : Pure Tryz.prog 97 [v] h (.bool (adjB oN l && decide (l.length ≤ 64))) := by
 refine zan Tryz.func97 S.a49c S.a49e rfl (Nat.le_of_ble_eq_true rfl) fun wf => ?_; simp only [S.a49]
 have hlen := hs.len
 simp at hlen
 simp
 refine zaJ (fun i t h' => (t 0 = v ∧ t 3 = .int .i64 ((i + 1 : Nat) : Int)) ∧ h' = h ∧ adjB oN (l.take (i + 1)) = true) l.length ⟨by simp, rfl, by cases l <;> simp [adjB]⟩ ?_
 rintro i t h' hi ⟨⟨t0, t3⟩, rfl, ha⟩ K hK
 obtain ⟨k, hk⟩ : ∃ k, k = i + 1 := ⟨_, rfl⟩
 rw [<- hk] at t3
 by_cases hlt : i + 1 < l.length
 ·have hw : IntKind.i64.wrap (((i + 1 : Nat) : Int) + 1) = ((i + 1 + 1 : Nat) : Int) := by rw [zas (by omega) (by omega)]; omega
  have wm : IntKind.i64.wrap (((i + 1 : Nat) : Int) - 1) = (i : Int) := by rw [zas (by omega) (by omega)]; omega
  have hkl : k < l.length := by omega
  rw [<- hk] at wm hw
  simp [t0, t3, hlen, hkl]
  obtain ⟨p, qq, o, cs, e1, e2, e3⟩ := hs.at1 (f := fun x : Nat => V.int .u64 x) (show i + 1 < l.length by omega)
  obtain ⟨p', qq', o', cs', f1, f2, f3⟩ := hs.at1 (f := fun x : Nat => V.int .u64 x) (show i < l.length by omega)
  have e1' := e1 .i64
  have f1' := f1 .i64
  rw [<- hk] at e1'
  refine zcD ?_
  simp [t0, t3, wm, e1', e2, e3, f1', f2, f3]
  by_cases hc : cmpI (l[i] : Nat) (l[i + 1]'(by omega) : Nat) < 0
  ·have hc' : ¬ (l[i + 1]'(by omega)) ≤ l[i] := by
    unfold cmpI at hc
    split at hc
    ·omega
    ·split at hc <;> omega
   simp [hc', t3, hw]
   exact hK _ _ (by omega) ⟨by simp [t0, hk], rfl, zb6 (i := i + 1) ha (by omega) (fun _ => hc)⟩
  ·have hc' : (l[i + 1]'(by omega)) ≤ l[i] := by
    unfold cmpI at hc
    split at hc
    ·omega
    ·omega
   have := zb2 (c := oN) (i := i + 1) (by omega) hlt hc
   simp [hc', this]
 ·have hkl : ¬ k < l.length := by omega
  rw [List.take_of_length_le (by omega)] at ha
  have z64 : ((l.length : Int) ≤ 64) = (l.length ≤ 64) := propext (by omega)
  simp [t0, t3, hlen, hkl, ha, z64]
end Go.Am

namespace Go.Am
open Go.Proofs

set_option maxRecDepth 100000
theorem zjD {h : H} {x : Nat} : Pure Tryz.prog 37 [.int .u64 (x : Nat)] h (.bool (isTg x)) := by
 refine zan Tryz.func37 S.a17c S.a17e rfl (Nat.le_of_ble_eq_true rfl) fun wf => ?_; simp only [S.a17]
 have e : ((x : Int) / 281474976710656 == 2) = isTg x := by unfold isTg; rw [eqI, decide_eq_decide]; omega
 simp [zmW, e]
theorem zkz {h : H} {v : V} {l : List Nat} (hs : Sls h.get 1 v (l.map cX)) (hl : l.length ≤ 1000) : Pure Tryz.prog 56 [v] h (.bool (zbV l)) := by
 refine zan Tryz.func56 S.a29c S.a29e rfl (Nat.le_of_ble_eq_true rfl) fun wf => ?_; simp only [S.a29]
 have hlen := hs.len
 have hb := hs.bound
 simp at hlen hb
 simp
 refine zaJ (fun i t h' => (t 0 = v ∧ t 3 = .int .i64 (i : Nat)) ∧ h' = h ∧ (l.take i).all isTg = true) l.length ⟨by simp, rfl, by simp⟩ ?_
 rintro i t h' hi ⟨⟨t0, t3⟩, rfl, ha⟩ K hK
 by_cases hlt : i < l.length
 ·obtain ⟨p, qq, o, cs, e1, e2, e3⟩ := hs.at1 (f := fun x : Nat => V.int .u64 x) hlt
  have hw := zaL hlt hb
  simp [t0, t3, hlen, hlt, e1, e2, e3]
  refine zjD _ ?_
  cases hx : isTg l[i] with
  | false =>
   have hr : zbV l = false := by
    unfold zbV
    have : l.all isTg = false := Bool.eq_false_iff.2 fun e => by have := List.all_eq_true.1 e l[i] (List.getElem_mem hlt); rw [hx] at this; cases this
    rw [this, Bool.and_false]
   simp [hr]
  | true =>
   simp [t3, hw]
   refine hK _ _ hlt ⟨by simp [t0], rfl, ?_⟩
   rw [List.take_add_one, List.getElem?_eq_getElem hlt, List.all_append, ha]
   simp [hx]
 ·have hi2 : i = l.length := by omega
  subst hi2
  rw [List.take_length] at ha
  simp [t0, t3, hlen]
  refine zjV hs hl _ ?_
  have hr : zbV l = (adjB oN l && decide (l.length ≤ 64)) := by
   unfold zbV risB
   rw [ha]
   cases adjB oN l <;> simp
  simp [hr]
theorem zlW {h : H} {v : Vr} {vi ve : V} (VA : VrAt h.get v vi ve) (ok : VrOk v) : Pure Tryz.prog 30 [.agg (vrC v vi ve)] h (.bool (vrfB v)) := by
 refine zan Tryz.func30 S.a14c S.a14e rfl (Nat.le_of_ble_eq_true rfl) fun wf => ?_; simp only [S.a14]
 have o6 := VA.imp.one
 have o7 := VA.exp.one
 obtain ⟨h2, hh2⟩ : ∃ h2, h2 = h.push (.row (vrC v vi ve)) := ⟨_, rfl⟩
 have g2 : Ge h h2 := by rw [hh2]; exact (Ge.refl _).push _
 have c2 : zaf h2.get h.next 4 = some (vrC v vi ve) := by rw [hh2]; simp [vrC]
 have V2 := VA.ge wf g2
 simp only [vrC] at hh2 c2
 simp [vrC, o6, o7]
 rw [<- hh2]
 refine zjL ok.name _ ?_
 have hb : vrfB v = (zbZ v.name && zbV v.imp && zbV v.exp) := rfl
 cases h1 : zbZ v.name with
 | false => rw [hb, h1]; simp [g2]
 | true =>
  simp [c2]
  refine zkz V2.imp ok.imp.1 _ ?_
  cases h3 : zbV v.imp with
  | false => rw [hb, h1, h3]; simp [g2]
  | true =>
   simp [c2]
   refine zkz V2.exp ok.exp.1 _ ?_
   rw [hb, h1, h3]
   simp [g2]
end Go.Am

namespace Go.Am
open Go.Proofs

set_option maxRecDepth 100000
def cutV (v : Vr) : Vr := ⟨v.name, v.rd, v.imp.take 70, v.exp.take 70⟩
structure VrFr (h : H) (lo : Nat) (v : Vr) (vi ve : V) : Prop where
 imp : Fc h lo 1 vi (v.imp.map cX)
 exp : Fc h lo 1 ve (v.exp.map cX)
theorem zmb {h : H} {v : Vr} {vi ve : V} (VA : VrAt h.get v vi ve) (ci : zce vi) (ce : zce ve) {Q : V -> H -> Prop} (q : ∀ wi we h', Ge h h' -> h'.WF -> VrFr h' h.next (cutV v) wi we -> Q (.agg (vrC (cutV v) wi we)) h') : Acalls Tryz.prog 6 [.agg (vrC v vi ve)] h Q := by
 refine zaD Tryz.func6 S.a1c S.a1e (Nat.le_of_ble_eq_true rfl) fun wf => ?_; simp only [S.a1]
 have o6 := VA.imp.one
 have o7 := VA.exp.one
 obtain ⟨h2, hh2⟩ : ∃ h2, h2 = (h.push (.row (vrC v vi ve))).push (.row [.str [], .int .u64 0, .nilsl, .nilsl]) := ⟨_, rfl⟩
 have g2 : Ge h h2 := by rw [hh2]; exact ((Ge.refl _).push _).push _
 have w2 : h2.WF := by rw [hh2]; exact (wf.push _).push _
 have n2 : h2.next = h.next + 2 := by rw [hh2]; simp
 have x1 : h2.get h.next = some (.row (vrC v vi ve)) := by rw [hh2]; simp
 have x2 : h2.get (h.next + 1) = some (.row [.str [], .int .u64 0, .nilsl, .nilsl]) := by rw [hh2]; simp
 have V2 := VA.ge wf g2
 have l1 := V2.imp.lenG w2 (n := v.imp.length) (by simp)
 obtain ⟨vi', k1, e1, s1, t1, _⟩ := zkw 70 V2.imp ci
 replace e1 : (if (70 : Int) < (v.imp.length : Int) then (70 : Int) else (v.imp.length : Int)) = (k1 : Int) := e1
 obtain ⟨u1, d1, a1, gl1, ge1, wd1⟩ := zih (bytes := 8) t1 (ze4 _) (by decide) (by simp; omega)
 have r1 : (h2.app d1).get h.next = some (.row (vrC v vi ve)) := (ge1.2 _ (by omega)).trans x1
 obtain ⟨h3, hh3⟩ : ∃ h3, h3 = (h2.app d1).set h.next (.row [.str v.name, .int .u64 (v.rd : Nat), u1, ve]) := ⟨_, rfl⟩
 have p1 := gl1.one
 have nn1 := ge1.1
 have g3 : Ge h h3 := by rw [hh3]; exact (g2.trans ge1).set (by omega) _
 have w3 : h3.WF := by rw [hh3]; exact (wd1 w2).set (by omega) _
 have m3 : h3.next = (h2.app d1).next := by rw [hh3]; simp
 have x3 : h3.get h.next = some (.row [.str v.name, .int .u64 (v.rd : Nat), u1, ve]) := by rw [hh3]; simp
 have y3 : h3.get (h.next + 1) = some (.row [.str [], .int .u64 0, .nilsl, .nilsl]) := by rw [hh3, H.get_set, if_neg (by omega), ge1.2 _ (by omega)]; exact x2
 have V3 := VA.ge wf g3
 have l2 := V3.exp.lenG w3 (n := v.exp.length) (by simp)
 obtain ⟨ve', k2, e2, s2, t2, _⟩ := zkw 70 V3.exp ce
 replace e2 : (if (70 : Int) < (v.exp.length : Int) then (70 : Int) else (v.exp.length : Int)) = (k2 : Int) := e2
 obtain ⟨u2, d2, a2, gl2, ge2, wd2⟩ := zih (bytes := 8) t2 (ze4 _) (by decide) (by simp; omega)
 have r2 : (h3.app d2).get h.next = some (.row [.str v.name, .int .u64 (v.rd : Nat), u1, ve]) := (ge2.2 _ (by omega)).trans x3
 obtain ⟨h4, hh4⟩ : ∃ h4, h4 = (h3.app d2).set h.next (.row [.str v.name, .int .u64 (v.rd : Nat), u1, u2]) := ⟨_, rfl⟩
 have p2 := gl2.one
 have nn2 := ge2.1
 have x4 : h4.get h.next = some (.row [.str v.name, .int .u64 (v.rd : Nat), u1, u2]) := by rw [hh4]; simp
 have y4 : (h3.app d2).get (h.next + 1) = some (.row [.str [], .int .u64 0, .nilsl, .nilsl]) := by rw [ge2.2 _ (by omega)]; exact y3
 have c2 : zaf h2.get h.next 4 = some (vrC v vi ve) := (zak (n := 4) x1 rfl).trans rfl
 have c3 : zaf h3.get h.next 4 = some [.str v.name, .int .u64 (v.rd : Nat), u1, ve] := (zak (n := 4) x3 rfl).trans rfl
 have c4 : zaf h4.get h.next 4 = some [.str v.name, .int .u64 (v.rd : Nat), u1, u2] := (zak (n := 4) x4 rfl).trans rfl
 have n01 : ¬ h.next = h.next + 1 := by omega
 simp only [vrC] at hh2 c2 r1
 simp [vrC, o6, o7]
 rw [<- hh2]
 simp [l1, e1, s1, a1, r1, zaR p1, zaT p1]
 rw [<- hh3]
 simp [l2, e2, s2, a2, r2, zaR p2, zaT p2]
 rw [<- hh4]
 simp [y4, p1, p2]
 obtain ⟨hF, hhF⟩ : ∃ hF, hF = h4.set (h.next + 1) (.row [.str v.name, .int .u64 (v.rd : Nat), u1, u2]) := ⟨_, rfl⟩
 have m4 : h4.next = (h3.app d2).next := by rw [hh4]; simp
 have g4 : Ge h h4 := by rw [hh4]; exact (g3.trans ge2).set (by omega) _
 have gF : Ge h hF := by rw [hhF]; exact g4.set (by omega) _
 have w4 : h4.WF := by rw [hh4]; exact (wd2 w3).set (by omega) _
 have wF : hF.WF := by rw [hhF]; exact w4.set (by omega) _
 have nF : hF.next = h4.next := by rw [hhF]; simp
 have kF : ∀ x, h.next + 2 ≤ x -> hF.get x = (h3.app d2).get x := fun x hx => by rw [hhF, H.get_set, if_neg (by omega), hh4, H.get_set, if_neg (by omega)]
 rw [<- hhF]
 refine q u1 u2 hF gF wF ⟨?_, ?_⟩
 ·refine (gl1.fr.keep (by omega) fun i hi hl => ?_).le (by omega)
  have := gl1.lo i hi
  rw [kF i (by omega), ge2.2 i (by omega), hh3, H.get_set, if_neg (by omega)]
 ·refine (gl2.fr.keep (by omega) fun i hi hl => ?_).le (by omega)
  have := gl2.lo i hi
  exact kF i (by omega)
end Go.Am

namespace Go.Am
open Go.Proofs

set_option maxRecDepth 100000
theorem VrsAt.atP {g : Nat -> Option O} {v : V} {l : List Vr} {es : List (List V)} (s : VrsAt g v l es) {i : Nat} (hi : i < l.length) :
  ∃ p q o cs vi ve, (∀ kd, zaH 4 v (.int kd (i : Int)) = some (.ptr p q o)) ∧ zaf g p q = some cs ∧ o + 4 ≤ cs.length ∧ (cs.drop o).take 4 = vrC l[i] vi ve ∧ cs[o]? = some (.str l[i].name) ∧ cs[o + 1]? = some (.int .u64 (l[i].rd : Nat)) ∧ VrAt g l[i] vi ve := by
 obtain ⟨vi, ve, e1, e2⟩ := s.at' i l[i] (List.getElem?_eq_getElem hi)
 have hie : i < es.length := by rw [s.len]; exact hi
 obtain ⟨p, q, o, cs, f1, f2, f3, f4, f5⟩ := s.sls.at hie
 rw [List.getElem?_eq_getElem hie, Option.some.injEq] at e1
 have a0 := f5 0 (by omega)
 have a1 := f5 1 (by omega)
 rw [e1] at f4
 simp only [e1] at a0 a1
 exact ⟨p, q, o, cs, vi, ve, f1, f2, f3, f4, by simpa [vrC] using a0, by simpa [vrC] using a1, e2⟩
def zh8 (l : List Vr) (n : Nat) : Prop := ∀ i k (hi : i < l.length) (hk : k < i), i < n -> l[k].name ≠ l[i].name ∧ l[k].rd ≠ l[i].rd
theorem zdA (l : List Vr) : ((l.map Vr.name).Nodup ∧ (l.map Vr.rd).Nodup) ↔ zh8 l l.length := by
 unfold List.Nodup zh8
 rw [List.pairwise_map, List.pairwise_map, List.pairwise_iff_getElem, List.pairwise_iff_getElem]
 constructor
 ·exact fun h i k hi hk _ => ⟨h.1 k i (by omega) hi hk, h.2 k i (by omega) hi hk⟩
 ·exact fun h => ⟨fun k i _ hi hk => (h i k hi hk hi).1, fun k i _ hi hk => (h i k hi hk hi).2⟩
theorem ziQ {h : H} {v : V} {l : List Vr} {es : List (List V)} (hs : VrsAt h.get v l es) (ok : ∀ x ∈ l, VrOk x) : Pure Tryz.prog 18 [v] h (.int .i64 (zbI l)) := by
 refine zan Tryz.func18 S.a6c S.a6e rfl (Nat.le_of_ble_eq_true rfl) fun wf => ?_; simp only [S.a6]
 have hl := hs.sls.len
 have hb := hs.sls.bound
 rw [hs.len] at hl hb
 by_cases h8 : 8 < l.length
 ·have h8' : (8 : Int) < (l.length : Int) := by omega
  simp [hl, h8', zbI, h8]
 have h8' : ¬ (8 : Int) < (l.length : Int) := by omega
 simp [hl, h8']
 refine zaJ (fun i t h' => (t 0 = v ∧ t 3 = .int .i64 (i : Nat)) ∧ h = h' ∧ (l.take i).all vrfB = true) l.length ⟨by simp, rfl, by simp⟩ ?_
 rintro i t h' hi ⟨⟨t0, t3⟩, rfl, ha⟩ K hK
 by_cases hlt : i < l.length
 ·obtain ⟨p, q, o, cs, vi, ve, f1, f2, f3, f4, _, _, e2⟩ := hs.atP hlt
  have hw := zaL hlt hb
  have vc1 := zlW e2 (ok l[i] (List.getElem_mem hlt))
  simp only [vrC] at f4 vc1
  simp [t0, t3, hl, hlt, f1, f2, f3, f4]
  refine vc1 _ ?_
  cases hv : vrfB l[i] with
  | false =>
   have hall := zeh hlt (f := vrfB) hv
   have hch : zbI l = 2 := by unfold zbI; rw [if_neg h8, hall]; simp
   simp [hch]
  | true =>
   simp [t3, hw]
   exact hK _ _ hlt ⟨by simp [t0], rfl, zcg hlt ha hv⟩
 have hi2 : i = l.length := by omega
 subst hi2
 rw [List.take_length] at ha
 have hch : zbI l = if (l.map Vr.name).Nodup ∧ (l.map Vr.rd).Nodup then 0 else 6 := by unfold zbI; rw [if_neg h8, if_pos ha]
 simp [t0, t3, hl]
 clear hK K
 refine zaJ (fun i t h' => (t 0 = v ∧ t 4 = .int .i64 (i : Nat)) ∧ h = h' ∧ zh8 l i) l.length ⟨by simp [t0], rfl, fun _ _ _ _ hn => by omega⟩ ?_
 clear t0 t3
 rintro i t h' hi ⟨⟨t0, t4⟩, rfl, hd⟩ K hK
 by_cases hlt : i < l.length
 ·simp [t0, t4, hl, hlt]
  refine zaJ (fun k t h' => (t 0 = v ∧ t 4 = .int .i64 (i : Nat) ∧ t 5 = .int .i64 (k : Nat)) ∧ h = h' ∧ ∀ m (hm : m < k) (hm2 : m < l.length), l[m].name ≠ l[i].name ∧ l[m].rd ≠ l[i].rd) i ⟨by simp [t0, t4], rfl, fun _ hm => by omega⟩ ?_
  clear t0 t4
  rintro k t h' hk ⟨⟨t0, t4, t5⟩, rfl, hm⟩ K2 hK2
  have hw := zaL hlt hb
  by_cases hkl : k < i
  ·have hk2 : k < l.length := by omega
   obtain ⟨p, q, o, cs, _, _, f1, f2, f3, _, f5, f6, _⟩ := hs.atP hk2
   obtain ⟨p', q', o', cs', _, _, f1', f2', f3', _, f5', f6', _⟩ := hs.atP hlt
   have hw2 := zaL hkl (by omega : i < 9223372036854775808)
   simp [t4, t5, hkl]
   refine zcD ?_
   by_cases e1 : l[k].name = l[i].name
   ·have hch6 : zbI l = 6 := by rw [hch, if_neg]; rw [zdA]; exact fun hh => (hh i k hlt hkl hlt).1 e1
    simp [t0, t4, t5, f1, f2, f5, f1', f2', f5', e1, hch6]
   ·have b1 : (l[k].name == l[i].name) = false := by simpa using e1
    by_cases e2 : l[k].rd = l[i].rd
    ·have hch6 : zbI l = 6 := by rw [hch, if_neg]; rw [zdA]; exact fun hh => (hh i k hlt hkl hlt).2 e2
     simp [t0, t4, t5, f1, f2, f5, f6, f1', f2', f5', f6', b1, e2, hch6]
    ·have e2' : ((l[k].rd : Int) == (l[i].rd : Int)) = false := by simpa using (by omega : ¬ (l[k].rd : Int) = (l[i].rd : Int))
     simp [t0, t4, t5, f1, f2, f5, f6, f1', f2', f5', f6', b1, e2', hw2]
     refine hK2 _ _ hkl ⟨by simp [t0, t4], rfl, fun m hmk hm2 => ?_⟩
     by_cases hmk2 : m = k
     ·subst hmk2; exact ⟨e1, e2⟩
     ·exact hm m (by omega) hm2
  ·have hki : k = i := by omega
   subst hki
   simp [t4, t5, hw]
   refine hK _ _ hlt ⟨by simp [t0], rfl, fun a b ha hb hn => ?_⟩
   by_cases hak : a = k
   ·subst hak; exact hm b hb (by omega)
   ·exact hd a b ha hb (by omega)
 have hi3 : i = l.length := by omega
 subst hi3
 have hch0 : zbI l = 0 := by rw [hch, if_pos ((zdA l).2 hd)]
 simp [t0, t4, hl, hch0]
end Go.Am

namespace Go.Am
open Go.Proofs Go.ChangeShapes Go.WideShapes

set_option maxRecDepth 100000
def vrL : List Dl := [.lf .str, .lf (.int .u64), .sl 8 [.lf (.int .u64)], .sl 8 [.lf (.int .u64)]]
structure VrIn (g : Nat -> Option O) (v : Vr) (vi ve : V) : Prop where
 name : v.name.length ≤ maxLen
 rd : v.rd < 18446744073709551616
 imp : NAt g 8 18446744073709551616 .u64 vi v.imp
 exp : NAt g 8 18446744073709551616 .u64 ve v.exp
theorem VrIn.mono {g g' : Nat -> Option O} {v : Vr} {vi ve : V} (x : VrIn g v vi ve) (m : ∀ i o, g i = some o -> g' i = some o) : VrIn g' v vi ve := ⟨x.name, x.rd, x.imp.mono m, x.exp.mono m⟩
theorem zoV {g : Nat -> Option O} {vs : List V} (h : Dls.ok g vrL vs) : ∃ (vi ve : V) (v : Vr), vs = vrC v vi ve ∧ VrIn g v vi ve := by
 obtain ⟨v1, r1, rfl, ⟨s, rfl, hs⟩, v2, r2, rfl, h2, v3, r3, rfl, h3, v4, r4, rfl, h4, rfl⟩ := h
 obtain ⟨n2, rfl, f2⟩ := zkp ziH h2
 obtain ⟨l3, m3⟩ := zkk ziH h3
 obtain ⟨l4, m4⟩ := zkk ziH h4
 exact ⟨v3, v4, ⟨s, n2, l3, l4⟩, rfl, hs, f2, m3, m4⟩
theorem zls {g : Nat -> Option O} {v : Vr} {vi ve : V} (x : VrIn g v vi ve) : VrOk (cutV v) := by
 have l1 : (cutV v).imp.length ≤ 70 := by unfold cutV; simp; omega
 have l2 : (cutV v).exp.length ≤ 70 := by unfold cutV; simp; omega
 exact ⟨x.name, ⟨by omega, fun y hy => x.imp.fit y (List.mem_of_mem_take hy)⟩, ⟨by omega, fun y hy => x.exp.fit y (List.mem_of_mem_take hy)⟩⟩
theorem VrFr.at {h : H} {lo : Nat} {v : Vr} {vi ve : V} (f : VrFr h lo (cutV v) vi ve) : VrAt h.get (cutV v) vi ve := ⟨f.imp.sls (zfu _) (by unfold cutV; simp; omega), f.exp.sls (zfu _) (by unfold cutV; simp; omega)⟩
theorem VrFr.le {h : H} {lo lo' : Nat} {v : Vr} {vi ve : V} (f : VrFr h lo v vi ve) (hl : lo' ≤ lo) : VrFr h lo' v vi ve := ⟨f.imp.le hl, f.exp.le hl⟩
structure VrsIn (g : Nat -> Option O) (v : V) (l : List Vr) (es : List (List V)) : Prop where
 sls : Sls g 4 v es
 len : es.length = l.length
 at' : ∀ (i : Nat) (x : Vr), l[i]? = some x -> ∃ vi ve, es[i]? = some (vrC x vi ve) ∧ VrIn g x vi ve
def vrsL : Dl := .sl 72 vrL
theorem zpm {g : Nat -> Option O} {v : V} (h : Dl.ok g vrsL v) : ∃ l es, VrsIn g v l es := by
 obtain ⟨ess, s, _, _, q⟩ := h
 have : ∀ (ess : List (List V)), (∀ es ∈ ess, Dls.ok g vrL es) -> ∃ l : List Vr, ess.length = l.length ∧ ∀ (i : Nat) (x : Vr), l[i]? = some x -> ∃ vi ve, ess[i]? = some (vrC x vi ve) ∧ VrIn g x vi ve := by
  intro ess
  induction ess with
  | nil => exact fun _ => ⟨[], rfl, by simp⟩
  | cons e r ih =>
   intro hq
   obtain ⟨l, a, b⟩ := ih fun x hx => hq x (List.mem_cons_of_mem _ hx)
   obtain ⟨vi, ve, x, rfl, hx⟩ := zoV (hq e (by simp))
   refine ⟨x :: l, by simp [a], fun i y hy => ?_⟩
   cases i with
   | zero => simp at hy; subst hy; exact ⟨vi, ve, rfl, hx⟩
   | succ i => simpa using b i y (by simpa using hy)
 obtain ⟨l, a, b⟩ := this ess q
 exact ⟨l, ess, s, a, b⟩
theorem znS {h : H} {v : V} {l : List Vr} {es : List (List V)} (hs : VrsIn h.get v l es) : Pure Tryz.prog 4 [v] h (.bool true) := by
 refine zan Tryz.func4 S.a0c S.a0e rfl (Nat.le_of_ble_eq_true rfl) fun wf => ?_; simp only [S.a0]
 have hl := hs.sls.len
 have hb := hs.sls.bound
 rw [hs.len] at hl hb
 obtain ⟨n, hn⟩ : ∃ n, n = min l.length 12 := ⟨_, rfl⟩
 simp
 refine zaJ (fun i t h' => ∃ w fs, (t 0 = v ∧ t 3 = w ∧ t 4 = .int .i64 (i : Nat)) ∧ (Ge h h' ∧ h'.WF) ∧ Gl h' h.next 4 w fs ∧ fs.length = i ∧ ∀ (k : Nat) (x : Vr), k < i -> l[k]? = some x -> ∃ wi we, fs[k]? = some (vrC (cutV x) wi we) ∧ VrFr h' h.next (cutV x) wi we) n ⟨.nilsl, [], by simp, ⟨Ge.refl _, wf⟩, Gl.nil _ _ _, rfl, fun _ _ hk => by omega⟩ ?_
 rintro i t h' hi ⟨w, fs, ⟨t0, t3, t4⟩, ⟨gb, wb⟩, gl, fl, fe⟩ K hK
 have hl' := (hs.sls.ge wf gb).len
 rw [hs.len] at hl'
 have f4 : ∀ e ∈ fs, e.length = 4 := fun e he => by
  obtain ⟨k, hk, rfl⟩ := List.mem_iff_getElem.1 he
  have hkl : k < l.length := by omega
  obtain ⟨wi, we, a, _⟩ := fe k l[k] (by omega) (List.getElem?_eq_getElem hkl)
  rw [List.getElem?_eq_getElem hk, Option.some.injEq] at a
  rw [a]; rfl
 by_cases hlt : i < n
 ·have hlt1 : i < l.length := by omega
  have hlt2 : (i : Int) < 12 := by omega
  obtain ⟨vi, ve, e1, e2⟩ := hs.at' i l[i] (List.getElem?_eq_getElem hlt1)
  have hie : i < es.length := by rw [hs.len]; exact hlt1
  obtain ⟨p, q, o, cs, f1, f2, f3, f4', f5, _⟩ := hs.sls.atG wf hie
  rw [List.getElem?_eq_getElem hie, Option.some.injEq] at e1
  rw [e1] at f5
  have f3' := f3 h' gb
  have hw := zaL hlt (by omega : n < 9223372036854775808)
  obtain ⟨x, hx⟩ : ∃ x, x = l[i] := ⟨_, rfl⟩
  rw [<- hx] at e2 f5
  have vo := fun Q q => zmb (Q := Q) (VrAt.ge ⟨e2.imp.sls, e2.exp.sls⟩ wf gb) e2.imp.cap e2.exp.cap q
  simp only [vrC] at f5 vo
  simp [t0, t3, t4, hl', hlt1, hlt2, f1, f3', f4', f5]
  refine vo _ fun wi we h3 g3 w3 fr => ?_
  have o1 := fr.imp.one
  have o2 := fr.exp.one
  have gl4 : Gl h3 h.next 4 w fs := gl.keep g3.1 fun y hy => g3.2 y (gl.lo y hy).2
  obtain ⟨v', d, ea, gl5, n5, k5, w5, _⟩ := zjr (bytes := 72) (vrC (cutV x) wi we) gl4 (by have := gb.1; have := g3.1; omega) f4 rfl (by simp [vrC, o1, o2]) (by decide) (by omega) (by omega)
  obtain ⟨h5, hh5⟩ : ∃ h5, h5 = (h3.push (.row (vrC (cutV x) wi we))).app d := ⟨_, rfl⟩
  rw [<- hh5] at gl5 n5 k5 w5
  have r2 : zaB 1 [V.str [], .int .u64 0, .nilsl, .nilsl] = [.str [], .int .u64 0, .nilsl, .nilsl] := rfl
  simp only [vrC] at ea hh5
  simp [o1, o2, ea, <- hh5, t4, hw]
  have gh5 : Ge h h5 := ⟨by have := gb.1; have := g3.1; omega, fun y hy => by
   rw [k5 y (fun hv => by have := (gl4.lo y hv).1; omega) (by have := gb.1; have := g3.1; omega), g3.2 y (by have := gb.1; omega)]; exact gb.2 y hy⟩
  have kf : ∀ {y : V} {ys : List (List V)}, Fc h3 h.next 1 y ys -> Fc h5 h.next 1 y ys := fun {y ys} f => by
   rcases f with f | ⟨hne, f | ⟨f1, j, f2, f3, f4, f5⟩⟩
   ·exact .inl f
   ·exact .inr ⟨hne, .inl f⟩
   ·refine .inr ⟨hne, .inr ⟨f1, j, f2, by omega, f4, ?_⟩⟩
    rw [k5 j (fun hv => ?_) f3]; exact f5
    rcases gl4 with ⟨_, e⟩ | ⟨_, j2, g1, g2, e, g4⟩
    ·rw [e] at hv; simp [V.ids] at hv
    ·rw [e] at hv; simp [V.ids] at hv
     subst hv
     rw [f5] at g4
     cases g4
  refine hK _ _ hlt ⟨v', fs ++ [vrC (cutV x) wi we], by simp [t0], ⟨gh5, w5 w3⟩, gl5, by simp [fl], fun k y hk hky => ?_⟩
  by_cases hki : k = i
  ·subst hki
   rw [List.getElem?_eq_getElem hlt1, Option.some.injEq, <- hx] at hky
   subst hky
   have fr' := fr.le gb.1
   exact ⟨wi, we, by rw [<- fl, List.getElem?_append_right (Nat.le_refl _)]; simp, kf fr'.imp, kf fr'.exp⟩
  ·obtain ⟨ui, ue, e6, f6⟩ := fe k y (by omega) hky
   exact ⟨ui, ue, by rw [List.getElem?_append_left (by omega)]; exact e6, kf (f6.imp.ge g3), kf (f6.exp.ge g3)⟩
 have hi2 : i = n := by omega
 have hex : ¬ ((i : Int) < (l.length : Int) ∧ (i : Int) < 12) := by omega
 have V1 : VrsAt h'.get w ((l.take n).map cutV) fs := by
  refine ⟨gl.sls f4 (by omega), by simp; omega, fun k x hk => ?_⟩
  rw [List.getElem?_map] at hk
  cases hk2 : (l.take n)[k]? with
  | none => rw [hk2] at hk; cases hk
  | some y =>
   rw [hk2] at hk
   cases hk
   rw [List.getElem?_take] at hk2
   split at hk2
   ·obtain ⟨wi, we, a, b⟩ := fe k y (by omega) hk2
    exact ⟨wi, we, a, b.at⟩
   ·cases hk2
 have ok : ∀ x ∈ (l.take n).map cutV, VrOk x := fun x hx => by
  obtain ⟨y, hy, rfl⟩ := List.mem_map.1 hx
  obtain ⟨k, hk, rfl⟩ := List.mem_iff_getElem.1 (List.mem_of_mem_take hy)
  obtain ⟨_, _, _, b⟩ := hs.at' k l[k] (List.getElem?_eq_getElem hk)
  exact zls b
 have c1 := ziW V1 ok
 have c2 := ziQ V1 ok
 by_cases hlt1 : i < l.length
 ·have hlt2 : ¬ (i : Int) < 12 := by omega
  simp [t0, t3, t4, hl', hlt1, hlt2]
  refine c1 _ ?_
  simp [t3]
  refine c2 _ ?_
  simp
  refine zgF h' _ ?_
  simp [gb]
 ·simp [t0, t3, t4, hl', hlt1]
  refine c1 _ ?_
  simp [t3]
  refine c2 _ ?_
  simp
  refine zgF h' _ ?_
  simp [gb]
end Go.Am
