/-
 VA1, VA2, VA3, VCX, VA4, VA5, VA6, VA7, VA8, VWm, VR0, VR1, VR2, VR3, VR4, VR5, VR6, VM1, VM3, VM2, VMD, in one text.
-/
import Derived.Test.YtjahfjcfjnnnjaaGreatDoorMMA
import Derived.Test.YtjahfjcfjnnnjaaGreatDoorMMB
import Derived.Test.YtjahfjcfjnnnjaaGreatDoorMAm40
import Derived.Test.YtjahfjcfjnnnjaaGreatDoorMMC
import Derived.Test.YtjahfjcfjnnnjaaGreatDoorMAm21
import Derived.Test.YtjahfjcfjnnnjaaGreatDoorMAm36
import Derived.Test.YtjahfjcfjnnnjaaGreatDoorMQwTab
import Derived.KernelRfl
namespace Go.Am
open Go.Proofs

structure Src where
 kind : Int
 peer : List UInt8
 asn : Nat
 sid : Nat
 addr : List UInt8
 vrf : List UInt8
 deriving DecidableEq
structure Pth where
 n : Nl
 att : Att
 src : Src
 stale : Bool
 deriving DecidableEq
def zaf (p : Pth) (vp vc vx vl vk : V) : List V := [.int .i64 p.n.p.fam, .int .u64 (p.n.p.rd : Nat), .str p.n.p.addr, .int .i64 p.n.p.len, .int .u32 (p.n.id : Nat), .int .u32 (p.n.label : Nat),
 .int .i64 p.att.origin, vp, .str p.att.next, .bool p.att.hasMed, .int .u32 (p.att.med : Nat), .bool p.att.hasPref, .int .u32 (p.att.pref : Nat), .bool p.att.atomic, .int .u32 (p.att.aggAS : Nat), .int .u32 (p.att.aggId : Nat), vc, vx, vl, .bool p.att.hasOrig, .int .u32 (p.att.orig : Nat), vk,
 .int .i64 p.src.kind, .str p.src.peer, .int .u32 (p.src.asn : Nat), .int .u32 (p.src.sid : Nat), .str p.src.addr, .str p.src.vrf, .bool p.stale]
def zbs (p : Pth) : Bool := mayN p.n && attB p.att && (if p.src.kind = 1 then decide (p.src.peer = []) else decide (2 ≤ p.src.kind) && decide (p.src.kind ≤ 5) && zco p.src.peer)

set_option maxRecDepth 100000
theorem zkv {h : H} {s : List UInt8} (hl : s.length ≤ 9223372036854775807) : Pure Tryz.prog 115 [.str s] h (.bool (zco s)) := by
 refine zak Tryz.func115 S.a86c S.a86e rfl (Nat.le_of_ble_eq_true rfl) fun wf => ?_; simp only [S.a86]
 simp
 refine zne (cs := csN) (by decide) (by decide) hl _ ?_
 cases s with
 | nil => simp [zco]
 | cons c r =>
  have e1 : ((c :: r) == []) = false := rfl
  by_cases h1 : r.length ≤ 15
  ·have i1 : (r.length : Int) + 1 ≤ 16 := by omega
   have hd : ((c :: r).dropWhile fun c => decide (c ∈ csN)).isEmpty = (c :: r).all fun c => decide (c ∈ csN) := by
    rw [Bool.eq_iff_iff, List.isEmpty_iff, zkw]
   obtain ⟨w, hw⟩ : ∃ w, w = (c :: r).dropWhile fun c => decide (c ∈ csN) := ⟨_, rfl⟩
   rw [<- hw] at hd ⊢
   obtain ⟨q, hq⟩ : ∃ q, q = (c :: r).all fun c => decide (c ∈ csN) := ⟨_, rfl⟩
   have hn : zco (c :: r) = (decide (97 ≤ c.toNat) && q) := by simp only [zco, <- hq]; simp [h1]
   rw [<- hq] at hd
   rw [hn]
   have hwe : (w == []) = q := by rw [<- hd]; cases w <;> rfl
   cases q with
   | false => simp [e1, i1, hwe]
   | true =>
    by_cases h2 : 97 ≤ c.toNat
    ·have i2 : (97 : Int) ≤ (c.toNat : Int) := by omega
     simp [e1, i1, h2, i2, hwe]
    ·have i2 : ¬ (97 : Int) ≤ (c.toNat : Int) := by omega
     simp [e1, i1, h2, i2, hwe]
  ·have i1 : ¬ (r.length : Int) + 1 ≤ 16 := by omega
   simp [e1, i1, h1, zco]
theorem zn1 {h : H} {p : Pth} {vp vc vx vl vk : V} (A : AttAt h.get p.att vp vc vx vl vk) (hn : p.src.peer.length ≤ 9223372036854775807) : Pure Tryz.prog 77 [.agg (zaf p vp vc vx vl vk)] h (.bool (zbs p)) := by
 refine zak Tryz.func77 S.a53c S.a53e rfl (Nat.le_of_ble_eq_true rfl) fun wf => ?_; simp only [S.a53]
 obtain ⟨es, P⟩ := A.path
 have o1 := P.sls.one
 have o2 := A.comms.one
 have o3 := A.exts.one
 have o4 := A.larges.one
 have o5 := A.clus.one
 obtain ⟨h2, hh2⟩ : ∃ h2, h2 = h.push (.row (zaf p vp vc vx vl vk)) := ⟨_, rfl⟩
 have g2 : Ge h h2 := by rw [hh2]; exact (Ge.refl _).push _
 have c1 : zad h2.get h.next 29 = some (zaf p vp vc vx vl vk) := by rw [hh2]; simp [zaf]
 have A2 := A.ge wf g2
 have nc : ∀ g : H, Pure Tryz.prog 113 [.agg (nlC p.n)] g (.int .i64 (if mayN p.n = true then 0 else 2)) := fun g => zjV
 have ac : Pure Tryz.prog 114 [.agg (attC p.att vp vc vx vl vk)] h2 (.int .i64 (if attB p.att = true then 0 else 2)) := zkr A2
 simp only [zaf] at hh2 c1
 simp only [nlC] at nc
 simp only [attC] at ac
 simp [zaf, o1, o2, o3, o4, o5]
 rw [<- hh2]
 refine nc h2 _ ?_
 cases k1 : mayN p.n with
 | false => simp [zbs, k1, g2]
 | true =>
  simp [c1]
  refine ac _ ?_
  cases k2 : attB p.att with
  | false => simp [zbs, k1, k2, g2]
  | true =>
   simp [c1]
   by_cases k3 : p.src.kind = 1
   ·have hp : zbs p = decide (p.src.peer = []) := by simp [zbs, k1, k2, k3]
    rw [hp]
    simp [k3, c1, g2]
    cases p.src.peer <;> simp
   ·have hp : zbs p = (decide (2 ≤ p.src.kind) && decide (p.src.kind ≤ 5) && zco p.src.peer) := by simp [zbs, k1, k2, k3]
    rw [hp]
    by_cases k5 : 2 ≤ p.src.kind ∧ p.src.kind ≤ 5
    ·rw [decide_eq_true k5.1, decide_eq_true k5.2]
     have nm := zkv (h := h2) hn
     rcases (by omega : p.src.kind = 2 ∨ p.src.kind = 3 ∨ p.src.kind = 4 ∨ p.src.kind = 5) with e | e | e | e
     all_goals
      simp [e, c1]
      refine nm _ ?_
      simp [g2]
    ·have hf : (decide (2 ≤ p.src.kind) && decide (p.src.kind ≤ 5)) = false := by
      by_cases e : 2 ≤ p.src.kind
      ·have e2 : ¬ p.src.kind ≤ 5 := by omega
       simp [e, e2]
      ·simp [e]
     rw [hf]
     have q2 : (p.src.kind == 2) = false := by rw [eqI]; simp; omega
     have q3 : (p.src.kind == 3) = false := by rw [eqI]; simp; omega
     have q4 : (p.src.kind == 4) = false := by rw [eqI]; simp; omega
     have q5 : (p.src.kind == 5) = false := by rw [eqI]; simp; omega
     have q1 : (p.src.kind == 1) = false := by rw [eqI]; simp; omega
     simp [q1, q2, q3, q4, q5, g2]
end Go.Am

namespace Go.Am
open Go.Proofs

set_option maxRecDepth 100000
theorem zh0 (i n o : Nat) : (V.ptr i n o).solid = true := rfl
theorem zh6 (i n o : Nat) : (V.ptr i n o).cells = [.ptr i n o] := rfl
theorem zjI (i n o l : Nat) (c : Option Nat) : (V.sl i n o l c).solid = true := rfl
theorem zoD {h : H} {Q : V -> H -> Prop} (q : Q (.ptr (h.next + 1) 2 0) ((h.push (.row [.bool true, .nilsl, .int .i64 0])).push (.row [.ptr h.next 3 0, .int .i64 0]))) : Acalls Tryz.prog 49 [] h Q := by
 refine zam Tryz.func49 S.a32c S.a32e (Nat.le_of_ble_eq_true rfl) fun wf => ?_; simp only [S.a32]
 simp
 refine (show Acalls Tryz.prog 75 [] h _ from ?_)
 clear wf
 refine zam Tryz.func75 S.a51c S.a51e (Nat.le_of_ble_eq_true rfl) fun wf => ?_; simp only [S.a51]
 simp
 exact q
structure Tb0 (h : H) (tb tr : Nat) : Prop where
 tb : h.get tb = some (.row [.ptr tr 3 0, .int .i64 0])
 tr : h.get tr = some (.row [.bool true, .nilsl, .int .i64 0])
theorem zlH {h : H} {tb tr : Nat} (T : Tb0 h tb tr) : Pure Tryz.prog 76 [.ptr tb 2 0] h (.bool false) := by
 refine zak Tryz.func76 S.a52c S.a52e rfl (Nat.le_of_ble_eq_true rfl) fun wf => ?_; simp only [S.a52]
 have c1 : zad h.get tb 2 = some [.ptr tr 3 0, .int .i64 0] := (zae (n := 2) T.tb rfl).trans rfl
 simp [c1, eqV]
theorem zh9 {h : H} {tr : Nat} {a b : V} (T : h.get tr = some (.row [.bool true, a, b])) : Pure Tryz.prog 123 [.ptr tr 3 0] h (.bool false) := by
 refine zak Tryz.func123 S.a91c S.a91e rfl (Nat.le_of_ble_eq_true rfl) fun wf => ?_; simp only [S.a91]
 have c1 : zad h.get tr 3 = some [.bool true, a, b] := (zae (n := 3) T rfl).trans rfl
 simp [c1, eqV]
theorem zgR {h : H} {tr : Nat} {p : Pfx} {b : V} (T : h.get tr = some (.row [.bool true, .nilsl, b])) : Pure Tryz.prog 124 [.ptr tr 3 0, .agg (pfxC p)] h (.tup [.int .i64 0, .bool false]) := by
 refine zak Tryz.func124 S.a92c S.a92e rfl (Nat.le_of_ble_eq_true rfl) fun wf => ?_; simp only [S.a92]
 have hlt := wf.lt T
 have ne : ¬ tr = h.next := by omega
 have c1 : zad h.get tr 3 = some [.bool true, .nilsl, b] := (zae (n := 3) T rfl).trans rfl
 simp [pfxC, ne, c1]
 refine zap (fun i t h' => (t 0 = .ptr tr 3 0 ∧ t 12 = .int .i64 0 ∧ t 13 = .int .i64 0) ∧ h' = h.push (.row (pfxC p))) 0 ⟨by simp, rfl⟩ ?_
 rintro i t h' hi ⟨⟨t0, t12, t13⟩, rfl⟩ K hK
 simp [t0, t12, t13, ne, c1]
theorem zmq {h : H} {tr : Nat} {p : Pfx} {b f : V} (T : h.get tr = some (.row [.bool true, .nilsl, b])) : Pure Tryz.prog 116 [.ptr tr 3 0, .agg (pfxC p), f] h (.tup []) := by
 refine zak Tryz.func116 S.a87c S.a87e rfl (Nat.le_of_ble_eq_true rfl) fun wf => ?_; simp only [S.a87]
 have hlt := wf.lt T
 obtain ⟨h2, hh2⟩ : ∃ h2, h2 = h.push (.row (pfxC p)) := ⟨_, rfl⟩
 have g2 : Ge h h2 := by rw [hh2]; exact (Ge.refl _).push _
 have T2 : h2.get tr = some (.row [.bool true, .nilsl, b]) := (g2.2 _ hlt).trans T
 have c2 : zad h2.get h.next 4 = some (pfxC p) := by rw [hh2]; simp [pfxC]
 have pc : Pure Tryz.prog 67 [.agg (pfxC p)] h2 (.int .i64 (if mayP p = true then 0 else 2)) := ze9
 have rc : Pure Tryz.prog 124 [.ptr tr 3 0, .agg (pfxC p)] h2 (.tup [.int .i64 0, .bool false]) := zgR T2
 simp only [pfxC] at hh2 c2 pc rc
 simp [pfxC]
 rw [<- hh2]
 refine zh9 T2 _ ?_
 simp [c2]
 refine pc _ ?_
 cases mayP p with
 | false => simp [g2]
 | true =>
  simp [c2]
  refine rc _ ?_
  simp [g2]
theorem zlQ {h : H} {tr : Nat} {p : Pfx} {b : V} (T : h.get tr = some (.row [.bool true, .nilsl, b])) : Pure Tryz.prog 78 [.ptr tr 3 0, .agg (pfxC p)] h (.tup [.nilsl, .bool false]) := by
 refine zak Tryz.func78 S.a54c S.a54e rfl (Nat.le_of_ble_eq_true rfl) fun wf => ?_; simp only [S.a54]
 have hlt := wf.lt T
 obtain ⟨h2, hh2⟩ : ∃ h2, h2 = (h.push (.row (pfxC p))).push (.row [.nilptr]) := ⟨_, rfl⟩
 have g2 : Ge h h2 := by rw [hh2]; exact ((Ge.refl _).push _).push _
 have T2 : h2.get tr = some (.row [.bool true, .nilsl, b]) := (g2.2 _ hlt).trans T
 have c2 : zad h2.get h.next 4 = some (pfxC p) := by rw [hh2]; simp [pfxC]
 have c3 : zad h2.get (h.next + 1) 1 = some [.nilptr] := by rw [hh2]; simp
 have wc : ∀ f, Pure Tryz.prog 116 [.ptr tr 3 0, .agg (pfxC p), f] h2 (.tup []) := fun f => zmq T2
 simp only [pfxC] at hh2 c2 wc
 simp [pfxC]
 rw [<- hh2]
 refine wc _ _ ?_
 simp [c3, eqV, g2]
theorem zpT {h : H} {p : Pth} {vp vc vx vl vk : V} (o1 : vp.one = true) (o2 : vc.one = true) (o3 : vx.one = true) (o4 : vl.one = true) (o5 : vk.one = true) : Pure Tryz.prog 80 [.agg (zaf p vp vc vx vl vk)] h (.agg [.str p.src.peer, .int .u32 (p.n.id : Nat)]) := by
 refine zak Tryz.func80 S.a56c S.a56e rfl (Nat.le_of_ble_eq_true rfl) fun wf => ?_; simp only [S.a56]
 simp [zaf, o1, o2, o3, o4, o5]
 exact ((Ge.refl _).push _).push _ |>.set (by simp) _
theorem ziZ {h : H} {s : List UInt8} {i : Nat} : Pure Tryz.prog 79 [.nilsl, .agg [.str s, .int .u32 (i : Nat)]] h (.tup [.int .i64 0, .bool false]) := by
 refine zak Tryz.func79 S.a55c S.a55e rfl (Nat.le_of_ble_eq_true rfl) fun wf => ?_; simp only [S.a55]
 simp
 refine (show Pure Tryz.prog 118 [.nilsl, .agg [.str s, .int .u32 (i : Nat)], .func (.func 119) [] []] (h.push (.row [.str s, .int .u32 (i : Nat)])) (.tup [.int .i64 0, .bool false]) from ?_) _ (by simp)
 clear wf
 refine zak Tryz.func118 S.a88c S.a88e rfl (Nat.le_of_ble_eq_true rfl) fun wf => ?_; simp only [S.a88]
 simp
 refine zap (fun _ t h' => (t 0 = .nilsl ∧ t 2 = .func (.func 119) [] [] ∧ t 8 = .int .i64 0 ∧ t 9 = .int .i64 0 ∧ t 10 = .int .i64 0) ∧ h' = (h.push (.row [.str s, .int .u32 (i : Nat)])).push (.row [.str s, .int .u32 (i : Nat)])) 0 ⟨by simp, rfl⟩ ?_
 rintro k t h' hk ⟨⟨t0, t2, t8, t9, t10⟩, rfl⟩ K hK
 simp [t9, t10]
 refine zbJ (wf.push _) ?_
 simp [t8, t9]
theorem zlD {h : H} {p : Pfx} {v : V} (ho : v.one = true) {Q : V -> H -> Prop} (q : Q (.tup [.ptr (h.next + 1) 8 0, .bool true]) ((h.push (.row (pfxC p))).push (.row (pfxC p ++ [.bool true, v, .nilptr, .nilptr])))) : Acalls Tryz.prog 125 [.nilptr, .agg (pfxC p), v] h Q := by
 refine zam Tryz.func125 S.a93c S.a93e (Nat.le_of_ble_eq_true rfl) fun wf => ?_; simp only [S.a93]
 simp only [pfxC, List.cons_append, List.nil_append] at q
 simp [pfxC, eqV, zaz ho, zaA ho, ho]
 exact q
theorem zkZ {h : H} {tr : Nat} {p : Pfx} {v : V} (T : h.get tr = some (.row [.bool true, .nilsl, .int .i64 0])) (hp : mayP p = true) (ho : v.one = true) {Q : V -> H -> Prop}
  (q : ∀ h', h'.WF -> h.next ≤ h'.next -> (∀ x, x ≠ tr -> x < h.next -> h'.get x = h.get x) -> Q (.int .i64 0) h') : Acalls Tryz.prog 81 [.ptr tr 3 0, .agg (pfxC p), v] h Q := by
 refine zam Tryz.func81 S.a57c S.a57e (Nat.le_of_ble_eq_true rfl) fun wf => ?_; simp only [S.a57]
 have hlt := wf.lt T
 obtain ⟨h2, hh2⟩ : ∃ h2, h2 = h.push (.row (pfxC p)) := ⟨_, rfl⟩
 have g2 : Ge h h2 := by rw [hh2]; exact (Ge.refl _).push _
 have w2 : h2.WF := by rw [hh2]; exact wf.push _
 have n2 : h2.next = h.next + 1 := by rw [hh2]; simp
 have T2 : h2.get tr = some (.row [.bool true, .nilsl, .int .i64 0]) := (g2.2 _ hlt).trans T
 have b2 : h2.get h.next = some (.row (pfxC p)) := by rw [hh2]; simp
 have c2 : zad h2.get h.next 4 = some (pfxC p) := (zae (n := 4) b2 rfl).trans rfl
 have pc : Pure Tryz.prog 67 [.agg (pfxC p)] h2 (.int .i64 (if mayP p = true then 0 else 2)) := ze9
 have rc : Pure Tryz.prog 124 [.ptr tr 3 0, .agg (pfxC p)] h2 (.tup [.int .i64 0, .bool false]) := zgR T2
 have c3 : zad h2.get tr 3 = some [.bool true, .nilsl, .int .i64 0] := (zae (n := 3) T2 rfl).trans rfl
 rw [hp] at pc
 simp only [pfxC] at hh2 c2 pc rc
 simp [pfxC]
 rw [<- hh2]
 refine zh9 T2 _ ?_
 simp [c2]
 refine pc _ ?_
 simp [c2]
 refine rc _ ?_
 have ap : zaK (h2.push (.row [.int .i64 0, .int .u64 0, .nilptr])).get (h2.next + 1) 3 24 .nilsl (.sl h2.next 3 0 1 (some 1)) = some (.sl (h2.next + 1) (1 * 3) 0 1 none, .push (.grow 3 [.int .i64 0, .int .u64 0, .nilptr])) :=
  zbG (by simp [zaG]) (by decide) rfl (by decide) (by decide) (by decide)
 have e1 : ¬ tr = h2.next := by omega
 have e2 : ¬ tr = h2.next + 1 := by omega
 have rp : zaH 1 [V.int .i64 0, V.int .u64 0, V.nilptr] = [.int .i64 0, .int .u64 0, .nilptr] := rfl
 have on : V.nilptr.one = true := rfl
 simp [on, c3, T2, ap, e1, e2, zjI]
 obtain ⟨h3, hh3⟩ : ∃ h3, h3 = ((h2.push (.row [.int .i64 0, .int .u64 0, .nilptr])).push (.grow 3 [.int .i64 0, .int .u64 0, .nilptr])).set tr (.row [.bool true, .sl (h2.next + 1) 3 0 1 none, .int .i64 0]) := ⟨_, rfl⟩
 have n3 : h3.next = h.next + 3 := by rw [hh3]; simp; omega
 have w3 : h3.WF := by rw [hh3]; exact ((w2.push _).push _).set (by simp; omega) _
 have t3 : h3.get tr = some (.row [.bool true, .sl (h2.next + 1) 3 0 1 none, .int .i64 0]) := by rw [hh3]; simp
 have q3 : h3.get (h2.next + 1) = some (.grow 3 [.int .i64 0, .int .u64 0, .nilptr]) := by rw [hh3, H.get_set, if_neg (by omega)]; simp
 have b3 : h3.get h.next = some (.row (pfxC p)) := by rw [hh3, H.get_set, if_neg (by omega), H.get_push, if_neg (by simp; omega), H.get_push, if_neg (by omega)]; exact b2
 have k3 : ∀ x, x ≠ tr -> x < h.next -> h3.get x = h.get x := fun x hx hl => by rw [hh3, H.get_set, if_neg hx, H.get_push, if_neg (by simp; omega), H.get_push, if_neg (by omega), g2.2 x hl]
 rw [<- hh3]
 have c4 : zad h3.get tr 3 = some [.bool true, .sl (h2.next + 1) 3 0 1 none, .int .i64 0] := (zae (n := 3) t3 rfl).trans rfl
 have c5 : zad h3.get h.next 4 = some (pfxC p) := (zae (n := 4) b3 rfl).trans rfl
 have cp : zgm h3.get 3 .slz (.sl (h2.next + 1) 3 0 1 none) = some (.int .i64 0, .keep) := by
  unfold zgm
  rw [show zaO h3.get 3 (.sl (h2.next + 1) 3 0 1 none) = some (1, [.int .i64 0, .int .u64 0, .nilptr]) by rw [zaG, if_neg (by omega), zae (n := 3) q3 rfl]; rfl]
 have wr1 : IntKind.i64.wrap 1 = 1 := by decide
 simp only [pfxC] at c5
 refine zar ?_
 have s1 : zaB 3 (some (.int .i64 1)) none none (.sl (h2.next + 1) 3 0 1 none) = some .slz := rfl
 have s2 : zaB 3 (some (.int .i64 0)) none none (.sl (h2.next + 1) 3 0 1 none) = some (.sl (h2.next + 1) 3 0 1 none) := rfl
 simp [c4, wr1, cp, s1, s2]
 refine zar ?_
 simp [c4, c5, on, q3]
 obtain ⟨h4, hh4⟩ : ∃ h4, h4 = h3.set (h2.next + 1) (.grow 3 [.int .i64 p.fam, .int .u64 (p.rd : Nat), .nilptr]) := ⟨_, rfl⟩
 have n4 : h4.next = h.next + 3 := by rw [hh4]; simp; omega
 have w4 : h4.WF := by rw [hh4]; exact w3.set (by omega) _
 have t4 : h4.get tr = some (.row [.bool true, .sl (h2.next + 1) 3 0 1 none, .int .i64 0]) := by rw [hh4, H.get_set, if_neg e2]; exact t3
 have q4 : h4.get (h2.next + 1) = some (.grow 3 [.int .i64 p.fam, .int .u64 (p.rd : Nat), .nilptr]) := by rw [hh4]; simp
 have b4 : h4.get h.next = some (.row (pfxC p)) := by rw [hh4, H.get_set, if_neg (by omega)]; exact b3
 have k4 : ∀ x, x ≠ tr -> x < h.next -> h4.get x = h.get x := fun x hx hl => by rw [hh4, H.get_set, if_neg (by omega)]; exact k3 x hx hl
 rw [<- hh4]
 have c6 : zad h4.get tr 3 = some [.bool true, .sl (h2.next + 1) 3 0 1 none, .int .i64 0] := (zae (n := 3) t4 rfl).trans rfl
 have c7 : zad h4.get h.next 4 = some (pfxC p) := (zae (n := 4) b4 rfl).trans rfl
 have c8 : zad h4.get (h2.next + 1) 3 = some [.int .i64 p.fam, .int .u64 (p.rd : Nat), .nilptr] := (zae (n := 3) q4 rfl).trans rfl
 obtain ⟨h5, hh5⟩ : ∃ h5, h5 = (h4.push (.row (pfxC p))).push (.row (pfxC p ++ [.bool true, v, .nilptr, .nilptr])) := ⟨_, rfl⟩
 have g5 : Ge h4 h5 := by rw [hh5]; exact ((Ge.refl _).push _).push _
 have w5 : h5.WF := by rw [hh5]; exact (w4.push _).push _
 have q5 : h5.get (h2.next + 1) = some (.grow 3 [.int .i64 p.fam, .int .u64 (p.rd : Nat), .nilptr]) := (g5.2 _ (by omega)).trans q4
 have t5 : h5.get tr = some (.row [.bool true, .sl (h2.next + 1) 3 0 1 none, .int .i64 0]) := (g5.2 _ (by omega)).trans t4
 have sc : ∀ Q : V -> H -> Prop, Q (.tup [.ptr (h4.next + 1) 8 0, .bool true]) h5 -> Acalls Tryz.prog 125 [.nilptr, .agg (pfxC p), v] h4 Q := fun Q q => zlD ho (by rw [<- hh5]; exact q)
 simp only [pfxC] at c7 sc
 refine zbO [tr] [0, 0, 0, 2, 0, 0, 0, 0, 0, 0, 0, 0, 0, 0, 0, 1, 0, 0, 0, 0, 0, 0, 0] rfl (by rfl) ?_
 simp [c6, c7, c8, I.foot, zbf]
 refine zbd (v := .tup [.ptr (h4.next + 1) 8 0, .bool true]) (h' := h5) (fun Q q => by simpa using sc Q q) (by decide) (fun _ => fun k hk => ?_) ?_
 ·rw [List.mem_singleton] at hk
  subst hk
  exact g5.2 _ (by omega)
 have c9 : zad h5.get tr 3 = some [.bool true, .sl (h2.next + 1) 3 0 1 none, .int .i64 0] := (zae (n := 3) t5 rfl).trans rfl
 simp [c9, q5, e2, t5, wr1]
 refine q _ ((w5.set (by have := g5.1; omega) _).set (by have := g5.1; simp; omega) _) (by have := g5.1; simp; omega) fun x hx hl => ?_
 rw [H.get_set, if_neg hx, H.get_set, if_neg (by omega), g5.2 x (by omega)]
 exact k4 x hx hl
theorem zl8 {h : H} {tb tr : Nat} {p : Pth} {vp vc vx vl vk : V} (T : Tb0 h tb tr) (hne : tb ≠ tr) (A : AttAt h.get p.att vp vc vx vl vk) (hn : p.src.peer.length ≤ 9223372036854775807) {Q : V -> H -> Prop}
  (q : ∀ h', h'.WF -> h.next ≤ h'.next -> (∀ x, x ≠ tb -> x ≠ tr -> x < h.next -> h'.get x = h.get x) -> Q (.int .i64 (if zbs p = true then 0 else 2)) h') : Acalls Tryz.prog 50 [.ptr tb 2 0, .agg (zaf p vp vc vx vl vk)] h Q := by
 refine zam Tryz.func50 S.a33c S.a33e (Nat.le_of_ble_eq_true rfl) fun wf => ?_; simp only [S.a33]
 have hlb := wf.lt T.tb
 have hlr := wf.lt T.tr
 obtain ⟨es, P⟩ := A.path
 have o1 := P.sls.one
 have o2 := A.comms.one
 have o3 := A.exts.one
 have o4 := A.larges.one
 have o5 := A.clus.one
 obtain ⟨h2, hh2⟩ : ∃ h2, h2 = h.push (.row (zaf p vp vc vx vl vk)) := ⟨_, rfl⟩
 have g2 : Ge h h2 := by rw [hh2]; exact (Ge.refl _).push _
 have w2 : h2.WF := by rw [hh2]; exact wf.push _
 have n2 : h2.next = h.next + 1 := by rw [hh2]; simp
 have b2 : h2.get h.next = some (.row (zaf p vp vc vx vl vk)) := by rw [hh2]; simp
 have c2 : zad h2.get h.next 29 = some (zaf p vp vc vx vl vk) := (zae (n := 29) b2 rfl).trans rfl
 have T2 : Tb0 h2 tb tr := ⟨(g2.2 _ hlb).trans T.tb, (g2.2 _ hlr).trans T.tr⟩
 have A2 := A.ge wf g2
 have mc : Pure Tryz.prog 77 [.agg (zaf p vp vc vx vl vk)] h2 (.bool (zbs p)) := zn1 A2 hn
 simp only [zaf] at hh2 c2 mc
 simp [zaf, o1, o2, o3, o4, o5]
 rw [<- hh2]
 refine zlH T2 _ ?_
 simp [c2]
 refine mc _ ?_
 cases hm : zbs p with
 | false =>
  rw [hm] at q
  simp
  exact q h2 w2 (by omega) fun x _ _ hl => g2.2 x hl
 | true =>
  rw [hm] at q
  have hm' := hm
  simp only [zbs, Bool.and_eq_true] at hm'
  have hz := zdI hm'.1.2
  have hp : mayP p.n.p = true := by
   have := hm'.1.1
   simp only [mayN, Bool.and_eq_true] at this
   exact this.1.1
  have cc : ∀ Q : V -> H -> Prop, (∀ wp wc wx wl wk h', Ge h2 h' -> h'.WF -> AttFr h' h2.next p.att wp wc wx wl wk -> Q (.agg (attC p.att wp wc wx wl wk)) h') -> Acalls Tryz.prog 51 [.agg (attC p.att vp vc vx vl vk)] h2 Q := fun Q q => zin A2 hz q
  simp only [attC] at cc
  simp [c2]
  refine cc _ fun wp wc wx wl wk h3 g3 w3 f3 => ?_
  obtain ⟨u1, u2, u3, u4, u5⟩ := f3.one
  have b3 : h3.get h.next = some (.row (zaf p vp vc vx vl vk)) := (g3.2 _ (by omega)).trans b2
  simp only [zaf] at b3
  simp [b3, u1, u2, u3, u4, u5]
  obtain ⟨h4, hh4⟩ : ∃ h4, h4 = h3.set h.next (.row (zaf p wp wc wx wl wk)) := ⟨_, rfl⟩
  have k4 : ∀ x, x ≠ h.next -> h4.get x = h3.get x := fun x hx => by rw [hh4, H.get_set, if_neg hx]
  have n4 : h4.next = h3.next := by rw [hh4]; simp
  have l3 := g3.1
  have w4 : h4.WF := by rw [hh4]; exact w3.set (by omega) _
  have b4 : h4.get h.next = some (.row (zaf p wp wc wx wl wk)) := by rw [hh4]; simp
  have T4 : Tb0 h4 tb tr := ⟨by rw [k4 _ (by omega), g3.2 _ (by omega)]; exact T2.tb, by rw [k4 _ (by omega), g3.2 _ (by omega)]; exact T2.tr⟩
  have kb : ∀ x, x < h.next -> h4.get x = h.get x := fun x hx => by rw [k4 x (by omega), g3.2 x (by omega), g2.2 x hx]
  have c4 : zad h4.get h.next 29 = some (zaf p wp wc wx wl wk) := (zae (n := 29) b4 rfl).trans rfl
  have ct4 : zad h4.get tb 2 = some [.ptr tr 3 0, .int .i64 0] := (zae (n := 2) T4.tb rfl).trans rfl
  simp only [zaf] at hh4 c4
  rw [<- hh4]
  have gc : Pure Tryz.prog 78 [.ptr tr 3 0, .agg (pfxC p.n.p)] h4 (.tup [.nilsl, .bool false]) := zlQ T4.tr
  have oc : Pure Tryz.prog 80 [.agg (zaf p wp wc wx wl wk)] h4 (.agg [.str p.src.peer, .int .u32 (p.n.id : Nat)]) := zpT u1 u2 u3 u4 u5
  simp only [pfxC] at gc
  simp only [zaf] at oc
  refine zar ?_
  simp [ct4, c4]
  refine za6 (v := .tup [.nilsl, .bool false]) (h' := h4) (fun Q q => by simpa using gc Q q) ?_
  simp [c4]
  refine oc _ ?_
  simp
  refine ziZ _ ?_
  simp [ct4]
  refine zar ?_
  have s1 : zaB 29 none (some (.int .i64 0)) (some (.int .i64 0)) .nilsl = some .nilsl := rfl
  have s2 : zaB 29 (some (.int .i64 0)) none none .nilsl = some .nilsl := rfl
  have ap1 : zaK (h4.push (.row (zaf p wp wc wx wl wk))).get (h4.next + 1) 29 304 .nilsl (.sl h4.next 29 0 1 (some 1)) = some (.sl (h4.next + 1) (1 * 29) 0 1 none, .push (.grow 29 (zaf p wp wc wx wl wk))) :=
   zbG (by simp [zaG, zaf]) (by decide) (by simp [zaf, u1, u2, u3, u4, u5]) (by decide) (by decide) (by decide)
  have ap2 : ∀ g n, zaK g n 29 304 (.sl (h4.next + 1) 29 0 1 none) .nilsl = some (.sl (h4.next + 1) 29 0 1 none, .keep) := fun g n => rfl
  simp only [zaf] at ap1
  have e1 : ¬ tb = h4.next + 1 := by omega
  have e2 : ¬ tb = h4.next := by omega
  have wr1 : IntKind.i64.wrap 1 = 1 := by decide
  simp [s1, s2, c4, u1, u2, u3, u4, u5, ap1, ap2, e1, e2, ct4, T4.tb, wr1]
  obtain ⟨h6, hh6⟩ : ∃ h6, h6 = ((h4.push (.row (zaf p wp wc wx wl wk))).push (.grow 29 (zaf p wp wc wx wl wk))).set tb (.row [.ptr tr 3 0, .int .i64 1]) := ⟨_, rfl⟩
  have n6 : h6.next = h4.next + 2 := by rw [hh6]; simp
  have w6 : h6.WF := by rw [hh6]; exact ((w4.push _).push _).set (by simp; omega) _
  have k6 : ∀ x, x ≠ tb -> x < h4.next -> h6.get x = h4.get x := fun x hx hl => by rw [hh6, H.get_set, if_neg hx, H.get_push, if_neg (by simp; omega), H.get_push, if_neg (by omega)]
  have ct6 : zad h6.get tb 2 = some [.ptr tr 3 0, .int .i64 1] := (zae (n := 2) (show h6.get tb = some (.row [.ptr tr 3 0, .int .i64 1]) by rw [hh6]; simp) rfl).trans rfl
  have c6 : zad h6.get h.next 29 = some (zaf p wp wc wx wl wk) := (zae (n := 29) ((k6 _ (by omega) (by omega)).trans b4) rfl).trans rfl
  have sc : ∀ Q : V -> H -> Prop, (∀ h', h'.WF -> h6.next ≤ h'.next -> (∀ x, x ≠ tr -> x < h6.next -> h'.get x = h6.get x) -> Q (.int .i64 0) h') -> Acalls Tryz.prog 81 [.ptr tr 3 0, .agg (pfxC p.n.p), .sl (h4.next + 1) 29 0 1 none] h6 Q := fun Q q =>
   zkZ ((k6 _ (fun e => hne e.symm) (by omega)).trans T4.tr) hp rfl q
  simp only [zaf] at hh6 c6
  simp only [pfxC] at sc
  rw [<- hh6]
  refine zar ?_
  simp [ct6, c6]
  refine ⟨fun v h' => v = .int .i64 0 ∧ h'.WF ∧ h6.next ≤ h'.next ∧ ∀ x, x ≠ tr -> x < h6.next -> h'.get x = h6.get x, ⟨.int .i64 0, h6, rfl, w6, Nat.le_refl _, fun _ _ _ => rfl⟩, sc _ fun h' a b c => ⟨rfl, a, b, c⟩, ?_⟩
  rintro _ h' ⟨rfl, a, b, c⟩
  simp
  simp only [if_true] at q
  exact q h' a (by omega) fun x h1 h2 hl => by rw [c x h2 (by omega), k6 x h1 (by omega)]; exact kb x hl
theorem zhM {h : H} {p : Pth} {vp vc vx vl vk : V} (A : AttAt h.get p.att vp vc vx vl vk) (hn : p.src.peer.length ≤ 9223372036854775807) : Pure Tryz.prog 26 [.agg (zaf p vp vc vx vl vk)] h (.bool (zbs p)) := by
 refine zak Tryz.func26 S.a15c S.a15e rfl (Nat.le_of_ble_eq_true rfl) fun wf => ?_; simp only [S.a15]
 obtain ⟨es, P⟩ := A.path
 have o1 := P.sls.one
 have o2 := A.comms.one
 have o3 := A.exts.one
 have o4 := A.larges.one
 have o5 := A.clus.one
 obtain ⟨h2, hh2⟩ : ∃ h2, h2 = h.push (.row (zaf p vp vc vx vl vk)) := ⟨_, rfl⟩
 have g2 : Ge h h2 := by rw [hh2]; exact (Ge.refl _).push _
 have n2 : h2.next = h.next + 1 := by rw [hh2]; simp
 have c2 : zad h2.get h.next 29 = some (zaf p vp vc vx vl vk) := by rw [hh2]; simp [zaf]
 obtain ⟨h3, hh3⟩ : ∃ h3, h3 = (h2.push (.row [.bool true, .nilsl, .int .i64 0])).push (.row [.ptr h2.next 3 0, .int .i64 0]) := ⟨_, rfl⟩
 have g3 : Ge h2 h3 := by rw [hh3]; exact ((Ge.refl _).push _).push _
 have A3 := A.ge wf (g2.trans g3)
 have T3 : Tb0 h3 (h2.next + 1) h2.next := ⟨by rw [hh3]; simp, by rw [hh3]; simp⟩
 have c3 : zad h3.get h.next 29 = some (zaf p vp vc vx vl vk) := by rw [g3.cells (by omega)]; exact c2
 have pc : ∀ Q : V -> H -> Prop, (∀ h', h'.WF -> h3.next ≤ h'.next -> (∀ x, x ≠ h2.next + 1 -> x ≠ h2.next -> x < h3.next -> h'.get x = h3.get x) -> Q (.int .i64 (if zbs p = true then 0 else 2)) h') -> Acalls Tryz.prog 50 [.ptr (h2.next + 1) 2 0, .agg (zaf p vp vc vx vl vk)] h3 Q := fun Q q =>
  zl8 T3 (by omega) A3 hn q
 simp only [zaf] at hh2 c3 pc
 simp [zaf, o1, o2, o3, o4, o5]
 rw [<- hh2]
 refine zbO [h.next] [1, 2, 0, 0, 0] rfl (by rfl) ?_
 simp
 refine zbd (v := .ptr (h2.next + 1) 2 0) (h' := h3) (fun Q q => zoD (by rw [<- hh3]; exact q)) (by decide) (fun _ => fun k hk => ?_) ?_
 ·rw [List.mem_singleton] at hk
  subst hk
  exact g3.2 _ (by omega)
 simp [c3, I.foot, zbf]
 refine ⟨by decide, fun v h' => v = .int .i64 (if zbs p = true then 0 else 2) ∧ Ge h h', ⟨.int .i64 (if zbs p = true then 0 else 2), h3, rfl, g2.trans g3⟩, pc _ fun h' _ b c => ⟨rfl, ⟨by have := g2.1; have := g3.1; omega, fun x hx => by rw [c x (by have := g2.1; omega) (by have := g2.1; omega) (by have := g2.1; have := g3.1; omega), g3.2 x (by have := g2.1; omega), g2.2 x hx]⟩⟩, ?_⟩
 rintro _ h' ⟨rfl, gh⟩
 cases hm : zbs p <;> simp [gh]
end Go.Am

namespace Go.Am
open Go.Proofs

set_option maxRecDepth 100000
def isTg (x : Nat) : Bool := decide (x / 281474976710656 = 2)
theorem zqo (n : Nat) : ((n : Nat) : Int).fdiv (2 ^ min 48 IntKind.u64.bits) = (n : Int) / 281474976710656 := Int.fdiv_eq_ediv_of_nonneg _ (by decide)
theorem zka {h : H} {x : Nat} : Pure Tryz.prog 36 [.int .u64 (x : Nat)] h (.bool (isTg x)) := by
 refine zak Tryz.func36 S.a25c S.a25e rfl (Nat.le_of_ble_eq_true rfl) fun wf => ?_; simp only [S.a25]
 have e : ((x : Int) / 281474976710656 == 2) = isTg x := by unfold isTg; rw [eqI, decide_eq_decide]; omega
 simp [zqo, e]
theorem znI {h : H} {v : V} {l : List Nat} {c : Nat} (hs : Sls h.get 1 v (l.map cX)) {Q : V -> H -> Prop} (q : ∀ k : Int, decide (0 ≤ k) = decide (c ∈ l) -> Q (.int .i64 k) h) : Acalls Tryz.prog 69 [v, .int .u64 (c : Nat)] h Q := by
 refine zam Tryz.func69 S.a47c S.a47e (Nat.le_of_ble_eq_true rfl) fun wf => ?_; simp only [S.a47]
 have hlen := hs.len
 have hb := hs.bound
 simp at hlen hb
 simp [hlen]
 refine zap (fun i t h' => (t 0 = v ∧ t 1 = .int .u64 (c : Nat) ∧ t 6 = v ∧ t 7 = .int .i64 (l.length : Nat) ∧ t 8 = .int .i64 (i : Nat)) ∧ h' = h ∧ c ∉ l.take i) l.length ⟨by simp, rfl, by simp⟩ ?_
 rintro i t h' hi ⟨⟨t0, t1, t6, t7, t8⟩, rfl, hn⟩ K hK
 by_cases hlt : i < l.length
 ·obtain ⟨p, qq, o, cs, e1, e2, e3⟩ := hs.at1 (f := fun x : Nat => V.int .u64 x) hlt
  have hw := zaC hlt hb
  by_cases hx : c = l[i]
  ·have b1 : ((c : Int) == (l[i] : Int)) = true := beq_iff_eq.2 (by omega)
   have hm : c ∈ l := by rw [hx]; exact List.getElem_mem hlt
   simp [t0, t1, t7, t8, hlt, e1, e2, e3, b1]
   exact q _ (by simp [hm])
  ·have b1 : ((c : Int) == (l[i] : Int)) = false := beq_eq_false_iff_ne.2 (by omega)
   simp [t0, t1, t7, t8, hlt, e1, e2, e3, b1, hw]
   refine hK _ _ hlt ⟨by simp [t0, t1, t6, t7], rfl, ?_⟩
   rw [List.take_add_one, List.getElem?_eq_getElem hlt, List.mem_append]
   simp [hn, hx]
 ·have : i = l.length := by omega
  subst this
  rw [List.take_length] at hn
  simp [t7, t8]
  exact q _ (by simp [hn])
theorem zn4 {h : H} {v : V} {l : List Nat} {c : Nat} (hs : Sls h.get 1 v (l.map cX)) : Pure Tryz.prog 42 [v, .int .u64 (c : Nat)] h (.bool (decide (c ∈ l))) := by
 refine zak Tryz.func42 S.a29c S.a29e rfl (Nat.le_of_ble_eq_true rfl) fun wf => ?_; simp only [S.a29]
 simp
 refine znI hs fun k hk => ?_
 simp [<- hk]
theorem zop {h : H} {v : V} {l : List Nat} {g : FuncId} {first cap : List V} {f : Nat -> Bool} (hs : Sls h.get 1 v (l.map cX)) (hf : ∀ x ∈ l, Pure Tryz.prog g (first ++ [.int .u64 (x : Nat)] ++ cap) h (.bool (f x))) {Q : V -> H -> Prop} (q : ∀ k : Int, decide (0 ≤ k) = l.any f -> Q (.int .i64 k) h) : Acalls Tryz.prog 68 [v, .func (.func g) first cap] h Q := by
 refine zam Tryz.func68 S.a46c S.a46e (Nat.le_of_ble_eq_true rfl) fun wf => ?_; simp only [S.a46]
 have hlen := hs.len
 have hb := hs.bound
 simp at hlen hb
 simp [hlen]
 refine zap (fun i t h' => (t 0 = v ∧ t 1 = .func (.func g) first cap ∧ t 6 = v ∧ t 7 = .int .i64 (l.length : Nat) ∧ t 8 = .int .i64 (i : Nat)) ∧ h' = h ∧ (l.take i).any f = false) l.length ⟨by simp, rfl, by simp⟩ ?_
 rintro i t h' hi ⟨⟨t0, t1, t6, t7, t8⟩, rfl, hn⟩ K hK
 by_cases hlt : i < l.length
 ·obtain ⟨p, qq, o, cs, e1, e2, e3⟩ := hs.at1 (f := fun x : Nat => V.int .u64 x) hlt
  have hw := zaC hlt hb
  have hc := hf _ (List.getElem_mem hlt)
  simp only [List.append_assoc, List.singleton_append] at hc
  simp [t0, t1, t7, t8, hlt, e1, e2, e3]
  refine hc _ ?_
  cases hx : f l[i] with
  | true =>
   have hm : l.any f = true := List.any_eq_true.2 ⟨_, List.getElem_mem hlt, hx⟩
   simp
   exact q _ (by simp [hm])
  | false =>
   simp [t8, hw]
   refine hK _ _ hlt ⟨by simp [t0, t1, t6, t7], rfl, ?_⟩
   rw [List.take_add_one, List.getElem?_eq_getElem hlt, List.any_append, hn]
   simp [hx]
 ·have : i = l.length := by omega
  subst this
  rw [List.take_length] at hn
  simp [t7, t8]
  exact q _ (by simp [hn])
theorem zkb {h : H} {v : V} {l : List Nat} {g : FuncId} {first cap : List V} {f : Nat -> Bool} (hs : Sls h.get 1 v (l.map cX)) (hf : ∀ x ∈ l, Pure Tryz.prog g (first ++ [.int .u64 (x : Nat)] ++ cap) h (.bool (f x))) : Pure Tryz.prog 40 [v, .func (.func g) first cap] h (.bool (l.any f)) := by
 refine zak Tryz.func40 S.a27c S.a27e rfl (Nat.le_of_ble_eq_true rfl) fun wf => ?_; simp only [S.a27]
 simp
 refine zop hs hf fun k hk => ?_
 simp [<- hk]
def zcy (l : List Nat) : Bool := risB oN l && l.all isTg
theorem zot {α : Type} (f : α -> Bool) (l : List α) : (!l.any fun x => !f x) = l.all f := by
 induction l with
 | nil => rfl
 | cons a l ih => simp only [List.any_cons, List.all_cons, Bool.not_or, Bool.not_not, ih]
theorem ziJ {h : H} {v : V} {l : List Nat} (hs : Sls h.get 1 v (l.map cX)) (hf : ∀ x ∈ l, x < 18446744073709551616) (hl : l.length ≤ 1000) : Pure Tryz.prog 48 [v] h (.bool (zcy l)) := by
 refine zak Tryz.func48 S.a31c S.a31e rfl (Nat.le_of_ble_eq_true rfl) fun wf => ?_; simp only [S.a31]
 simp
 refine zkY hs hf hl _ ?_
 by_cases hr : l.length ≤ 64 ∧ adjB oN l = true
 ·have e1 : risB oN l = true := by simp [risB, hr]
  rw [zh7 hr.1 hr.2]
  simp
  refine zkb (g := 74) (first := []) (cap := []) (f := fun x => !isTg x) hs (fun x _ => ?_) _ ?_
  ·show Pure Tryz.prog 74 [.int .u64 (x : Nat)] h _
   clear wf
   refine zak Tryz.func74 S.a50c S.a50e rfl (Nat.le_of_ble_eq_true rfl) fun wf => ?_; simp only [S.a50]
   simp
   refine zka _ ?_
   simp
  ·simp [zcy, e1]
   rw [<- zot isTg l, Bool.not_not]
 ·have e1 : risB oN l = false := by
   unfold risB
   cases e : adjB oN l with
   | false => rfl
   | true => simp [e] at hr; simp; omega
  have e2 : encR oN bX l = .tup [.str [], .int .i64 2] := if_neg hr
  rw [e2]
  simp [zcy, e1]
theorem zk9 {h : H} {v w : V} {l m : List Nat} (hs : Sls h.get 1 v (l.map cX)) (hw : Sls h.get 1 w (m.map cX)) : Pure Tryz.prog 22 [v, w] h (.bool (l.any fun x => decide (x ∈ m))) := by
 refine zak Tryz.func22 S.a12c S.a12e rfl (Nat.le_of_ble_eq_true rfl) fun wf => ?_; simp only [S.a12]
 have o1 := hw.one
 simp [zl6 o1]
 obtain ⟨h2, hh2⟩ : ∃ h2, h2 = h.push (.row [w]) := ⟨_, rfl⟩
 have g2 : Ge h h2 := by rw [hh2]; exact (Ge.refl _).push _
 have c2 : zad h2.get h.next 1 = some [w] := by rw [hh2]; simp
 rw [<- hh2]
 refine zkb (g := 41) (first := []) (cap := [.ptr h.next 1 0]) (f := fun x => decide (x ∈ m)) (hs.ge wf g2) (fun x _ => ?_) _ ?_
 ·show Pure Tryz.prog 41 [.int .u64 (x : Nat), .ptr h.next 1 0] h2 _
  have wf' := wf
  clear wf
  refine zak Tryz.func41 S.a28c S.a28e rfl (Nat.le_of_ble_eq_true rfl) fun wf => ?_; simp only [S.a28]
  simp [c2]
  refine zn4 (hw.ge wf' g2) _ ?_
  simp
 ·simp [g2]
theorem zfC {h : H} {a : Att} {vp vc vx vl vk : V} (A : AttAt h.get a vp vc vx vl vk) (hl : a.exts.length * 8 ≤ 140737488355328) {Q : V -> H -> Prop} (q : ∀ w h', Ge h h' -> h'.WF -> Gl h' h.next 1 w ((a.exts.filter isTg).map cX) -> Q w h') : Acalls Tryz.prog 14 [.agg (attC a vp vc vx vl vk)] h Q := by
 refine zam Tryz.func14 S.a9c S.a9e (Nat.le_of_ble_eq_true rfl) fun wf => ?_; simp only [S.a9]
 obtain ⟨es, P⟩ := A.path
 have o1 := P.sls.one
 have o2 := A.comms.one
 have o3 := A.exts.one
 have o4 := A.larges.one
 have o5 := A.clus.one
 obtain ⟨h2, hh2⟩ : ∃ h2, h2 = h.push (.row (attC a vp vc vx vl vk)) := ⟨_, rfl⟩
 have g2 : Ge h h2 := by rw [hh2]; exact (Ge.refl _).push _
 have w2 : h2.WF := by rw [hh2]; exact wf.push _
 have n2 : h2.next = h.next + 1 := by rw [hh2]; simp
 have c2 : zad h2.get h.next 16 = some (attC a vp vc vx vl vk) := by rw [hh2]; simp [attC]
 have hlen := (A.exts.ge wf g2).len
 have hb := A.exts.bound
 simp at hlen hb
 simp only [attC] at hh2 c2
 simp [attC, o1, o2, o3, o4, o5]
 rw [<- hh2]
 simp [hlen]
 refine zap (fun i t h' => ∃ w, (t 3 = w ∧ t 7 = vx ∧ t 8 = .int .i64 (a.exts.length : Nat) ∧ t 9 = .int .i64 (i : Nat)) ∧ (Ge h2 h' ∧ h'.WF) ∧ Gl h' h2.next 1 w (((a.exts.take i).filter isTg).map cX)) a.exts.length ⟨.nilsl, by simp, ⟨Ge.refl _, w2⟩, by simpa using Gl.nil h2 h2.next 1⟩ ?_
 rintro i t h' hi ⟨w, ⟨t3, t7, t8, t9⟩, ⟨gb, wb⟩, gl⟩ K hK
 by_cases hlt : i < a.exts.length
 ·obtain ⟨p, qq, o, cs, e1, e2, e3⟩ := (A.exts.ge wf (g2.trans gb)).at1 (f := fun x : Nat => V.int .u64 x) hlt
  have hw := zaC hlt hb
  simp [t7, t8, t9, hlt, e1, e2, e3]
  refine zka _ ?_
  have hfl : (a.exts.take (i + 1)).filter isTg = (a.exts.take i).filter isTg ++ if isTg a.exts[i] = true then [a.exts[i]] else [] := by
   rw [List.take_add_one, List.getElem?_eq_getElem hlt, List.filter_append]
   simp only [Option.toList_some, List.filter_cons, List.filter_nil]
  cases hx : isTg a.exts[i] with
  | false =>
   simp [t9, hw]
   refine hK _ _ hlt ⟨w, by simp [t3, t7, t8], ⟨gb, wb⟩, ?_⟩
   rw [hfl, hx]; simpa using gl
  | true =>
   have hll : ((a.exts.take i).filter isTg).length ≤ i := by have := List.length_filter_le isTg (a.exts.take i); simp at this; omega
   obtain ⟨v', d, ea, gl2, n3, k3, w3, _⟩ := zdZ (bytes := 8) (cX a.exts[i]) gl (by have := gb.1; omega) (za0 _) rfl rfl (by decide) (by simp; omega) (by simp; omega)
   obtain ⟨h3, hh3⟩ : ∃ h3, h3 = (h'.push (.row (cX a.exts[i]))).app d := ⟨_, rfl⟩
   rw [<- hh3] at gl2 n3 k3 w3
   simp only [cX] at ea hh3
   simp [t3, t9, ea, <- hh3, hw]
   refine hK _ _ hlt ⟨v', by simp [t7, t8], ⟨⟨by have := gb.1; omega, fun x hx => ?_⟩, w3 wb⟩, ?_⟩
   ·rw [k3 x (fun hv => by have := (gl.lo x hv).1; omega) (by have := gb.1; omega)]; exact gb.2 x hx
   ·rw [hfl, hx]; simpa using gl2
 ·have hi2 : i = a.exts.length := by omega
  subst hi2
  rw [List.take_length] at gl
  simp [t3, t8, t9]
  refine q w h' (g2.trans gb) wb ?_
  rcases gl with h1 | ⟨h1, j, h3, h4⟩
  ·exact .inl h1
  ·exact .inr ⟨h1, j, by omega, h4⟩
theorem zaW (g : H) (a b : O) {k : Nat} (hk : k = g.next) : (g.push a).set k b = g.push b := by
 subst hk
 refine H.ext' rfl fun j => ?_
 simp only [H.get_set, H.get_push]
 split <;> rfl
structure Vr where
 name : List UInt8
 rd : Nat
 imp : List Nat
 exp : List Nat
 deriving DecidableEq
def vrC (v : Vr) (vi ve : V) : List V := [.str v.name, .int .u64 (v.rd : Nat), vi, ve]
structure VrAt (g : Nat -> Option O) (v : Vr) (vi ve : V) : Prop where
 imp : Sls g 1 vi (v.imp.map cX)
 exp : Sls g 1 ve (v.exp.map cX)
structure VrOk (v : Vr) : Prop where
 name : v.name.length ≤ 9223372036854775807
 imp : v.imp.length ≤ 1000 ∧ ∀ x ∈ v.imp, x < 18446744073709551616
 exp : v.exp.length ≤ 1000 ∧ ∀ x ∈ v.exp, x < 18446744073709551616
theorem VrAt.ge {a b : H} {v : Vr} {vi ve : V} (s : VrAt a.get v vi ve) (w : a.WF) (g : Ge a b) : VrAt b.get v vi ve := ⟨s.imp.ge w g, s.exp.ge w g⟩
def vrfB (v : Vr) : Bool := zco v.name && zcy v.imp && zcy v.exp
def zfJ (s : List UInt8) : Pth := ⟨⟨⟨1, 0, [0, 0, 0, 0], 0⟩, 0, 0⟩, att0, ⟨2, s, 0, 0, [], []⟩, false⟩
theorem zjL (s : List UInt8) : zbs (zfJ s) = zco s := by
 have h1 : mayN (zfJ s).n = true := (show mayN ⟨⟨1, 0, [0, 0, 0, 0], 0⟩, 0, 0⟩ = true by decide)
 have h2 : attB (zfJ s).att = true := (show attB att0 = true by decide)
 unfold zbs
 rw [h1, h2]
 simp [zfJ]
theorem zmS {h : H} {v : Vr} {vi ve : V} (V1 : VrAt h.get v vi ve) (ok : VrOk v) : Pure Tryz.prog 25 [.agg (vrC v vi ve)] h (.bool (vrfB v)) := by
 refine zak Tryz.func25 S.a14c S.a14e rfl (Nat.le_of_ble_eq_true rfl) fun wf => ?_; simp only [S.a14]
 have o1 := V1.imp.one
 have o2 := V1.exp.one
 obtain ⟨h2, hh2⟩ : ∃ h2, h2 = (h.push (.row (vrC v vi ve))).push (.row [.int .i64 1, .int .u64 0, .str [0, 0, 0, 0], .int .i64 0, .int .u32 0, .int .u32 0, .int .i64 0, .nilsl, .str [], .bool false, .int .u32 0, .bool false, .int .u32 0, .bool false, .int .u32 0, .int .u32 0, .nilsl, .nilsl, .nilsl, .bool false, .int .u32 0, .nilsl, .int .i64 2, .str v.name, .int .u32 0, .int .u32 0, .str [], .str [], .bool false]) := ⟨_, rfl⟩
 have g2 : Ge h h2 := by rw [hh2]; exact ((Ge.refl _).push _).push _
 have c2 : zad h2.get h.next 4 = some (vrC v vi ve) := by rw [hh2]; simp [vrC]
 have n0 : ∀ sz, Sls h2.get sz .nilsl [] := fun sz => ⟨.inl ⟨rfl, .inl rfl⟩, by simp, rfl, by simp⟩
 have A0 : AttAt h2.get att0 .nilsl .nilsl .nilsl .nilsl .nilsl := ⟨⟨[], n0 _, rfl, fun i s h => by simp [att0] at h⟩, n0 _, n0 _, n0 _, n0 _⟩
 have mc := zhM (p := zfJ v.name) A0 ok.name
 rw [zjL] at mc
 simp only [vrC] at hh2 c2
 simp [zaf, zfJ, att0] at mc
 simp [vrC, o1, o2]
 have z2 : ((h.push (.row [.str v.name, .int .u64 (v.rd : Nat), vi, ve])).push (.row [.int .i64 0, .int .u64 0, .str [], .int .i64 0, .int .u32 0, .int .u32 0, .int .i64 0, .nilsl, .str [], .bool false, .int .u32 0, .bool false, .int .u32 0, .bool false, .int .u32 0, .int .u32 0, .nilsl, .nilsl, .nilsl, .bool false, .int .u32 0, .nilsl, .int .i64 0, .str [], .int .u32 0, .int .u32 0, .str [], .str [], .bool false])).set (h.next + 1) (.row [.int .i64 1, .int .u64 0, .str [0, 0, 0, 0], .int .i64 0, .int .u32 0, .int .u32 0, .int .i64 0, .nilsl, .str [], .bool false, .int .u32 0, .bool false, .int .u32 0, .bool false, .int .u32 0, .int .u32 0, .nilsl, .nilsl, .nilsl, .bool false, .int .u32 0, .nilsl, .int .i64 2, .str v.name, .int .u32 0, .int .u32 0, .str [], .str [], .bool false]) = h2 := by
  rw [hh2]
  exact zaW _ _ _ (by simp)
 rw [z2]
 refine mc _ ?_
 cases k1 : zco v.name with
 | false => simp [vrfB, k1, g2]
 | true =>
  simp [c2]
  refine ziJ (V1.imp.ge wf g2) ok.imp.2 ok.imp.1 _ ?_
  cases k2 : zcy v.imp with
  | false => simp [vrfB, k1, k2, g2]
  | true =>
   simp [c2]
   refine ziJ (V1.exp.ge wf g2) ok.exp.2 ok.exp.1 _ ?_
   simp [vrfB, k1, k2, g2]
end Go.Am

namespace Go.Am
open Go.Proofs

set_option maxRecDepth 100000
theorem zgF {h : H} {j : Nat} {l : List Nat} (hg : h.get j = some (.grow 1 (l.map cX).flatten)) (hl : l.length ≤ 140737488355328) (hne : l ≠ []) {Q : V -> H -> Prop}
  (q : ∀ v' h', (∀ i, i ≠ j -> h'.get i = h.get i) -> h'.next = h.next -> h'.WF -> Sls h'.get 1 v' ((zav l).map cX) -> zcc v' -> (∃ cs : List V, h'.get j = some (.grow 1 cs) ∧ cs.length = l.length) -> v' = .sl j l.length 0 (zav l).length none -> Q v' h') : Acalls Tryz.prog 29 [.sl j (l.length) 0 l.length none] h Q := by
 refine zam Tryz.func29 S.a18c S.a18e (Nat.le_of_ble_eq_true rfl) fun wf => ?_; simp only [S.a18]
 have hlt := wf.lt hg
 have s0 := zlz zex hg (by omega)
 simp only [Nat.mul_one] at s0
 have hpos : 0 < l.length := List.length_pos_iff.2 hne
 have hf0 : (l.map cX).flatten.length = l.length := by rw [zaP (zb3 zex l)]; simp
 by_cases h2 : l.length < 2
 ·have e1 : zav l = l := by
   match l, hpos, h2 with
   | [a], _, _ => rfl
  have h2' : (l.length : Int) < 2 := by omega
  simp [h2']
  exact q _ _ (fun _ _ => rfl) rfl wf (by rw [e1]; exact s0) trivial ⟨_, hg, hf0⟩ (by rw [e1])
 have h2' : ¬ (l.length : Int) < 2 := by omega
 simp [h2']
 refine zap (fun i t h' => (t 0 = .sl j (l.length) 0 l.length none ∧ t 3 = .int .i64 ((i + 1 : Nat) : Int)) ∧ h' = h ∧ i + 1 ≤ l.length ∧ zav (l.take (i + 1)) = l.take (i + 1)) (l.length - 1) ⟨by simp, rfl, by omega, by
  match l, hpos with
  | a :: r, _ => rfl⟩ ?_
 rintro i t h' hi ⟨⟨t0, t3⟩, rfl, hil, hci⟩ K hK
 obtain ⟨m, hm⟩ : ∃ m, m = i + 1 := ⟨_, rfl⟩
 rw [<- hm] at t3 hci hil
 by_cases hlt2 : m < l.length
 ·have hltI : (m : Int) < (l.length : Int) := by omega
  obtain ⟨p, qq, o, cs, e1, e2, e3⟩ := s0.at1 (f := fun x : Nat => V.int .u64 x) (k := m) hlt2
  obtain ⟨p', qq', o', cs', b1, b2, b3⟩ := s0.at1 (f := fun x : Nat => V.int .u64 x) (k := m - 1) (by omega)
  have wm : IntKind.i64.wrap ((m : Int) - 1) = ((m - 1 : Nat) : Int) := by rw [zai (by omega) (by omega)]; omega
  simp [t0, t3, hlt2]
  refine zar ?_
  simp [t0, t3, e1, e2, e3, wm, b1, b2, b3]
  by_cases hx : l[m] = l[m - 1]
  ·have esl : zaB 1 (some (.int .i64 (m : Int))) none none (.sl j (l.length) 0 l.length none) = some (.sl j (l.length) (m) (l.length - m) none) := by
    simp only [zaB, zbe, zbp hil]
    rw [if_pos hlt2, Nat.zero_add, Nat.mul_one]
   simp [hx, t0, t3, esl]
   refine zlE (id := 2) (fun t h2 => ∃ cur, cur = zav l ++ l.drop (zav l).length ∧ (t 0 = .sl j (l.length) 0 l.length none ∧ t 3 = .int .i64 ((zav l).length : Nat)) ∧ (zav l).length < l.length ∧ h2 = h'.set j (.grow 1 (cur.map cX).flatten)) (fun R hR => ?_) ?_
   ·refine zap (fun k2 t h2 => ∃ cur tt, tt = (zav (l.take (m + 1 + k2))).length ∧ cur = zav (l.take (m + 1 + k2)) ++ l.drop tt ∧ tt < m + 1 + k2 ∧ m + 1 + k2 ≤ l.length ∧ (t 0 = .sl j (l.length) 0 l.length none ∧ t 3 = .int .i64 (tt : Nat) ∧ t 4 = .sl j (l.length) (m) (l.length - m) none ∧ t 5 = .int .i64 ((k2 + 1 : Nat) : Int)) ∧ h2 = h'.set j (.grow 1 (cur.map cX).flatten)) (l.length - m - 1) ?_ ?_
    ·have ec : zav (l.take (m + 1)) = l.take m := by rw [zcC l (by omega) hlt2, if_pos hx.symm, hci]
     refine ⟨l, m, by rw [Nat.add_zero, ec, List.length_take]; omega, by rw [Nat.add_zero, ec, List.take_append_drop], by omega, by omega, by simp [t0, t3], ?_⟩
     exact (H.ext' rfl fun i => by rw [H.get_set]; split <;> simp_all)
    ·rintro k2 t h2 hk2 ⟨cur, tt, htt, hcur, htm, hml, ⟨u0, u3, u4, u5⟩, rfl⟩ K hK
     obtain ⟨m2, hm2⟩ : ∃ m2, m2 = m + 1 + k2 := ⟨_, rfl⟩
     rw [<- hm2] at htt hcur htm hml
     have hcl : cur.length = l.length := by rw [hcur, List.length_append, List.length_drop, <- htt]; omega
     obtain ⟨h2, hh2⟩ : ∃ h2, h2 = h'.set j (.grow 1 (cur.map cX).flatten) := ⟨_, rfl⟩
     have hgj : h2.get j = some (.grow 1 (cur.map cX).flatten) := by rw [hh2]; simp
     rw [<- hh2]
     by_cases hlt3 : m2 < l.length
     ·have cA : ∀ x (hx1 : x < cur.length), tt ≤ x -> cur[x]'hx1 = l[x]'(by omega) := fun x hx1 hx2 => by
       subst hcur
       rw [List.getElem_append_right (by omega), List.getElem_drop]
       congr 1; omega
      have sp := zg0 zex hgj (by omega) m (by omega)
      rw [hcl] at sp
      simp only [Nat.mul_one] at sp
      obtain ⟨p, qq, o, cs, e1, e2, e3⟩ := sp.at1 (f := fun x : Nat => V.int .u64 x) (k := k2 + 1) (by simp; omega)
      obtain ⟨p', qq', o', cs', b1, b2, b3⟩ := sp.at1 (f := fun x : Nat => V.int .u64 x) (k := k2) (by simp; omega)
      have e4' : cs[o]? = some (.int .u64 (l[m2] : Nat)) := by
       rw [e3]; simp only [List.getElem_drop]
       rw [cA _ (by omega) (by omega)]; simp only [show m + (k2 + 1) = m2 by omega]
      have b4' : cs'[o']? = some (.int .u64 (l[m2 - 1] : Nat)) := by
       rw [b3]; simp only [List.getElem_drop]
       rw [cA _ (by omega) (by omega)]; simp only [show m + k2 = m2 - 1 by omega]
      have e1' := e1 .i64
      have b1' := b1 .i64
      have hc1 : ((k2 + 1 : Nat) : Int) < ((l.length - m : Nat) : Int) := by omega
      have w1 : IntKind.i64.wrap (((k2 + 1 : Nat) : Int) - 1) = (k2 : Int) := by rw [zai (by omega) (by omega)]; omega
      have w2 : IntKind.i64.wrap (((k2 + 1 : Nat) : Int) + 1) = ((k2 + 1 + 1 : Nat) : Int) := by rw [zai (by omega) (by omega)]; omega
      obtain ⟨k3, hk3⟩ : ∃ k3, k3 = k2 + 1 := ⟨_, rfl⟩
      rw [<- hk3] at u5 hc1 w1 w2 e1'
      obtain ⟨ln, hln⟩ : ∃ ln, ln = l.length - m := ⟨_, rfl⟩
      rw [<- hln] at u4 hc1 e1' b1'
      have hc2 : k3 < ln := by omega
      simp [u4, u5, hc2]
      refine zar ?_
      clear e3 b3
      simp [u4, u5, e1', e2, e4', w1, b1', b2, b4']
      by_cases hy : l[m2] = l[m2 - 1]
      ·simp [hy, u5, w2]
       refine hK _ _ (by omega) ⟨cur, tt, ?_, ?_, by omega, by omega, ?_, by rw [hh2]⟩
       ·rw [show m + 1 + (k2 + 1) = m2 + 1 by omega, zcC l (by omega) hlt3, if_pos hy.symm, htt]
       ·rw [show m + 1 + (k2 + 1) = m2 + 1 by omega, zcC l (by omega) hlt3, if_pos hy.symm, hcur]
       ·simp [u0, u3, u4, hk3, hln]
      ·have hy2 : ((l[m2] : Int) != (l[m2 - 1] : Int)) = true := bne_iff_ne.2 (by omega)
       have htl : tt < l.length := by omega
       have hcs : (V.int .u64 (l[m2] : Nat)).cells = cX l[m2] := rfl
       have hso : (V.int .u64 (l[m2] : Nat)).solid = true := rfl
       have hnl : (cX l[m2]).length = 1 := rfl
       have hfl : (cur.map cX).flatten.length = l.length := by rw [zaP (zb3 zex cur)]; simp [hcl]
       have hput : O.put (.grow 1 (cur.map cX).flatten) (tt) (cX l[m2]) = some (.grow 1 ((cur.set tt l[m2]).map cX).flatten) := by
        simp only [O.put, hfl, hnl]
        rw [if_pos (by omega), <- zjN zex cur tt _ (by omega), Nat.mul_one]
       have w3 : IntKind.i64.wrap ((tt : Int) + 1) = ((tt + 1 : Nat) : Int) := by rw [zai (by omega) (by omega)]; omega
       have hst : zch h2.get 1 (.ptr j (l.length) (tt)) (.int .u64 (l[m2] : Nat)) = some (.set j (.grow 1 ((cur.set tt l[m2]).map cX).flatten)) := by
        rw [zaI, hcs, hso, hnl, hgj]
        simp only [Bool.true_and, beq_self_eq_true, if_true, Option.bind_some]
        rw [if_pos (by simp only [O.len, O.cells]; exact hfl), hput]; rfl
       simp [-zaI, hy2, u0, u3, u4, u5, e1', e2, e4', htl, hst, w3, w2]
       have hset : zav (l.take (m + 1 + (k2 + 1))) = zav (l.take m2) ++ [l[m2]] := by
        rw [show m + 1 + (k2 + 1) = m2 + 1 by omega, zcC l (by omega) hlt3, if_neg (fun e => hy e.symm)]
       refine hK _ _ (by omega) ⟨cur.set tt l[m2], tt + 1, ?_, ?_, by omega, by omega, ?_, by rw [hh2, H.set_set, List.map_set]⟩
       ·rw [hset, List.length_append, <- htt]; rfl
       ·rw [hset, hcur, List.set_append_right _ _ (by omega), <- htt, Nat.sub_self, List.drop_eq_getElem_cons htl, List.set_cons_zero, List.append_assoc]; rfl
       ·simp [u0, u4, hk3, hln]
     ·have hml2 : m2 = l.length := by omega
      have hle : l.take m2 = l := List.take_of_length_le (by omega)
      rw [hle] at htt hcur
      have hc1 : ¬ ((k2 + 1 : Nat) : Int) < ((l.length - m : Nat) : Int) := by omega
      obtain ⟨k3, hk3⟩ : ∃ k3, k3 = k2 + 1 := ⟨_, rfl⟩
      obtain ⟨ln, hln⟩ : ∃ ln, ln = l.length - m := ⟨_, rfl⟩
      rw [<- hk3] at u5 hc1
      rw [<- hln] at u4 hc1
      have hc2 : ¬ k3 < ln := by omega
      simp [u4, u5, hc2]
      refine hR _ _ ⟨cur, by rw [hcur, htt], by simp [u0, u3, htt], by rw [htt] at htm; omega, hh2⟩
   ·rintro t h2 ⟨cur, hcur, ⟨u0, u3⟩, htl, rfl⟩
    obtain ⟨tt, htt⟩ : ∃ tt, tt = (zav l).length := ⟨_, rfl⟩
    rw [<- htt] at hcur u3 htl
    have hcl : cur.length = l.length := by rw [hcur, List.length_append, List.length_drop, <- htt]; omega
    have hfl : (cur.map cX).flatten.length = l.length := by rw [zaP (zb3 zex cur)]; simp [hcl]
    have s1 : zaB 1 (some (.int .i64 (tt : Int))) none none (.sl j (l.length) 0 l.length none) = some (.sl j (l.length) (tt) (l.length - tt) none) := by
     simp only [zaB, zbe, zbp (show tt ≤ l.length by omega)]
     rw [if_pos htl, Nat.zero_add, Nat.mul_one]
    have s2 : zaB 1 none (some (.int .i64 (tt : Int))) none (.sl j (l.length) 0 l.length none) = some (.sl j (l.length) 0 tt none) := by
     simp only [zaB, zbe, zbp (show tt ≤ l.length by omega)]
     rw [if_pos hpos]; simp
    obtain ⟨h2, hh2⟩ : ∃ h2, h2 = h'.set j (.grow 1 (cur.map cX).flatten) := ⟨_, rfl⟩
    have hgj : h2.get j = some (.grow 1 (cur.map cX).flatten) := by rw [hh2]; simp
    rw [<- hh2]
    obtain ⟨zs, hzs⟩ : ∃ zs, zs = zaH (l.length - tt) [V.int .u64 0] := ⟨_, rfl⟩
    have hzl : zs.length = (l.length - tt) := by rw [hzs]; unfold zaH; simp
    obtain ⟨pc, hpc⟩ : ∃ pc, pc = zaL (cur.map cX).flatten (tt) zs := ⟨_, rfl⟩
    have hclr : zb6 h2.get [V.int .u64 0] (.sl j (l.length) (tt) (l.length - tt) none) = some (.set j (.grow 1 pc)) := by
     rw [hpc]
     unfold zb6
     simp only
     rw [if_neg (by omega), hgj]
     simp only [zib]
     rw [if_pos hfl, ziq, <- hzs, if_pos (by rw [hzl, hfl]; omega)]; rfl
    simp [u0, u3, s1, s2, hclr]
    have w2 : h2.WF := by rw [hh2]; exact wf.set hlt _
    have hpl : pc.length = l.length := by rw [hpc, znG _ _ _ (by rw [hzl, hfl]; omega), hfl]
    have hct : cur.take tt = zav l := by rw [hcur, List.take_append_of_le_length (by omega), List.take_of_length_le (by omega)]
    have hpt : pc.take (tt) = ((zav l).map cX).flatten := by
     rw [hpc]
     unfold zaL
     rw [List.append_assoc, List.take_append_of_le_length (by rw [List.length_take, hfl]; omega), List.take_take, Nat.min_self, <- Nat.mul_one tt, <- zd4 (zb3 zex cur), <- List.map_take, hct]
    refine q _ _ (fun i hi => by rw [H.get_set, if_neg hi, hh2, H.get_set, if_neg hi]) (by rw [hh2]; simp) (w2.set (by rw [hh2]; simpa using hlt) _) ⟨.inr ⟨j, l.length, 0, none, by simp [htt]⟩, zb3 zex _, ?_, by simp; omega⟩ trivial ⟨pc, by simp, hpl⟩ (by rw [htt])
    rw [zaG]
    split
    ·rename_i h0
     have : zav l = [] := List.eq_nil_of_length_eq_zero (by omega)
     rw [this]; rfl
    ·rw [zae (by rw [H.get_set, if_pos rfl]) (by rw [zib]; exact hpl)]
     simp only [zeh, Nat.zero_add, List.drop_zero]
     rw [if_pos (by rw [hpl]; omega), Nat.mul_one, hpt]
     simp [htt]
  ·have hx2 : ((l[m] : Int) == (l[m - 1] : Int)) = false := beq_eq_false_iff_ne.2 (by omega)
   have w1 : IntKind.i64.wrap ((m : Int) + 1) = ((m + 1 : Nat) : Int) := by rw [zai (by omega) (by omega)]; omega
   simp [hx2, t3, w1]
   refine hK _ _ (by omega) ⟨?_, rfl, by omega, ?_⟩
   ·first | (simp [t0, hm]; done) | (simp [t0]; omega)
   rw [<- hm, zcC l (by omega) hlt2, if_neg (fun e => hx e.symm), hci, List.take_add_one, List.getElem?_eq_getElem hlt2]; rfl
 ·have hmm : m = l.length := by omega
  have hle : l.take m = l := List.take_of_length_le (by omega)
  rw [hle] at hci
  simp [t0, t3, hlt2]
  exact q _ _ (fun _ _ => rfl) rfl wf (by rw [hci]; exact s0) trivial ⟨_, hg, hf0⟩ (by rw [hci])
end Go.Am

namespace Go.Am
open Go.Proofs

set_option maxRecDepth 100000
theorem Fc.appends {h : H} {lo sz : Nat} (bytes : Nat) {v x : V} {es xs : List (List V)} (f : Fc h lo sz v es) (hlo : lo ≤ h.next) (hs : ∀ a ∈ es, a.length = sz) (hx : Sls h.get sz x xs) (h1 : ∀ e ∈ xs, e.all V.one = true) (hsz : sz ≠ 0)
  (hb : (es.length + xs.length) * bytes ≤ 140737488355328) (hb2 : es.length + xs.length ≤ 9223372036854775807) :
  ∃ v' d, zaK h.get h.next sz bytes v x = some (v', d) ∧ Fc (h.app d) lo sz v' (es ++ xs) ∧ h.next ≤ (h.app d).next ∧ (∀ i, i ∉ v.ids -> i < h.next -> (h.app d).get i = h.get i) ∧ (h.WF -> (h.app d).WF) ∧ (∀ i, i < h.next -> (es = [] ∨ h.get i ≠ some (.grow sz es.flatten)) -> (h.app d).get i = h.get i) := by
 have fromGl : Gl h lo sz v es -> ∃ v' d, zaK h.get h.next sz bytes v x = some (v', d) ∧ Fc (h.app d) lo sz v' (es ++ xs) ∧ h.next ≤ (h.app d).next ∧ (∀ i, i ∉ v.ids -> i < h.next -> (h.app d).get i = h.get i) ∧ (h.WF -> (h.app d).WF) ∧ (∀ i, i < h.next -> (es = [] ∨ h.get i ≠ some (.grow sz es.flatten)) -> (h.app d).get i = h.get i) := fun g => by
  obtain ⟨v', d, ea, gl, hn, hk, hw, hid⟩ := g.appends (bytes := bytes) hlo hs hx h1 hsz hb hb2
  refine ⟨v', d, ea, gl.fr, hn, hk, hw, fun i hi ho => hk i (fun hv => ?_) hi⟩
  rcases g with ⟨e1, e2⟩ | ⟨hne, j, g1, g2, e2, g3⟩
  ·rw [e2] at hv; simp [V.ids] at hv
  ·rw [e2] at hv; simp [V.ids] at hv
   subst hv
   rcases ho with ho | ho
   ·exact hne ho
   ·exact ho g3
 rcases f with ⟨rfl, rfl | ⟨k, hk, rfl⟩⟩ | ⟨_, g⟩
 ·exact fromGl (Gl.nil _ _ _)
 ·by_cases h0 : xs.length = 0
  ·have e0 : xs = [] := List.eq_nil_of_length_eq_zero h0
   subst e0
   have a0 := zfc (next := h.next) (bytes := bytes) (k := k) hx.read
   exact ⟨_, _, a0, .inl ⟨rfl, .inr ⟨k, hk, rfl⟩⟩, Nat.le_refl _, fun _ _ _ => rfl, id, fun _ _ _ => rfl⟩
  ·have hne : xs ≠ [] := fun e => h0 (by rw [e]; rfl)
   have ones : xs.flatten.all V.one = true := by rw [List.all_flatten]; exact List.all_eq_true.2 h1
   have a0 := zfh (next := h.next) (bytes := bytes) (k := k) hx.read h0 ones hsz (by simpa using hb) (by simp at hb2; omega)
   refine ⟨_, _, a0, ?_, by simp, fun i _ hi => ?_, fun w => w.push _, fun i hi _ => ?_⟩
   ·refine .inr ⟨by simpa using hne, .inr ⟨by simpa using hne, h.next, hlo, by simp, ?_, by simp⟩⟩
    rw [List.nil_append, zaP hx.size]
   ·rw [zcQ, H.get_push, if_neg (by omega)]
   ·rw [zcQ, H.get_push, if_neg (by omega)]
 ·exact fromGl g
theorem zml {h : H} {v : V} (hv : v = .nilsl ∨ ∃ k, v = .sl k 0 0 0 (some 0)) : Pure Tryz.prog 28 [v] h (.tup []) := by
 refine zak Tryz.func28 S.a17c S.a17e rfl (Nat.le_of_ble_eq_true rfl) fun wf => ?_; simp only [S.a17]
 have hl : ∀ g, lenV 1 g v = some (.int .i64 0) := fun g => by rcases hv with rfl | ⟨_, rfl⟩ <;> rfl
 obtain ⟨k, hk, hbl⟩ := zgS (h := h) (n := 0) (by omega)
 have wu : IntKind.u64.wrap 0 = 0 := by decide
 have w1 : IntKind.i64.wrap 1 = 1 := by decide
 have w0 : IntKind.i64.wrap 0 = 0 := by decide
 simp [wu, hl]
 refine hbl _ _ ?_
 simp
 refine (show Pure Tryz.prog 53 [v, .int .i64 0, .int .i64 0, .int .i64 (k : Nat)] h (.tup []) from ?_) _ ?_
 ·refine zak Tryz.func53 S.a36c S.a36e rfl (Nat.le_of_ble_eq_true rfl) fun wf => ?_; simp only [S.a36]
  simp
  refine zap (fun i t h' => (t 0 = v ∧ t 1 = .int .i64 0 ∧ t 2 = .int .i64 0) ∧ h' = h) 0 ⟨by simp, rfl⟩ ?_
  rintro i t h' hi ⟨⟨t0, t1, t2⟩, rfl⟩ K hK
  simp [t0, t1, t2, w0]
  refine (show Pure Tryz.prog 86 [v, .int .i64 0, .int .i64 0] h' (.tup []) from ?_) _ ?_
  ·refine zak Tryz.func86 S.a62c S.a62e rfl (Nat.le_of_ble_eq_true rfl) fun wf => ?_; simp only [S.a62]
   simp [w1]
   refine zap (fun i t g => (t 2 = .int .i64 0 ∧ t 6 = .int .i64 1) ∧ g = h') 0 ⟨by simp, rfl⟩ ?_
   rintro i t g hi ⟨⟨t2, t6⟩, rfl⟩ K hK
   simp [t2, t6]
  ·simp
 ·simp
theorem zlf {h : H} {v : V} (hv : v = .nilsl ∨ ∃ k, v = .sl k 0 0 0 (some 0)) {Q : V -> H -> Prop} (q : Q v h) : Acalls Tryz.prog 29 [v] h Q := by
 refine zam Tryz.func29 S.a18c S.a18e (Nat.le_of_ble_eq_true rfl) fun wf => ?_; simp only [S.a18]
 have hl : ∀ g, lenV 1 g v = some (.int .i64 0) := fun g => by rcases hv with rfl | ⟨_, rfl⟩ <;> rfl
 simp [hl]
 exact q
def famT (f : Int) : Int := if f = 1 then 4 else if f = 2 then 5 else if f = 4 then 1 else if f = 5 then 2 else 0
def zaQ (p : Pth) (rd label : Nat) (name : List UInt8) : Pth := ⟨⟨⟨famT p.n.p.fam, rd, p.n.p.addr, p.n.p.len⟩, p.n.id, label⟩, p.att, ⟨p.src.kind, p.src.peer, p.src.asn, p.src.sid, p.src.addr, name⟩, p.stale⟩
def zaD : List V := [.int .i64 0, .int .u64 0, .str [], .int .i64 0, .int .u32 0, .int .u32 0, .int .i64 0, .nilsl, .str [], .bool false, .int .u32 0, .bool false, .int .u32 0, .bool false, .int .u32 0, .int .u32 0, .nilsl, .nilsl, .nilsl, .bool false, .int .u32 0, .nilsl, .int .i64 0, .str [], .int .u32 0, .int .u32 0, .str [], .str [], .bool false]
theorem zm7 {h : H} {Q : V -> H -> Prop} (q : Q (.agg [.int .i64 0, .int .i64 4, .int .i64 5, .int .i64 0, .int .i64 1, .int .i64 2]) h) : Acalls Tryz.prog 52 [] h Q := by
 refine (show Pure Tryz.prog 52 [] h (.agg [.int .i64 0, .int .i64 4, .int .i64 5, .int .i64 0, .int .i64 1, .int .i64 2]) from ?_) _ q
 refine zak Tryz.func52 S.a35c S.a35e rfl (Nat.le_of_ble_eq_true rfl) fun wf => ?_; simp only [S.a35]
 simp
theorem zkt {h : H} {p : Pth} {vp vc vx vl vk : V} (A : AttAt h.get p.att vp vc vx vl vk) (z : AttSz p.att) (hf : 0 ≤ p.n.p.fam ∧ p.n.p.fam < 6) {rd label : Nat} {name : List UInt8} {Q : V -> H -> Prop}
  (q : ∀ wp wc wx wl wk h', Ge h h' -> h'.WF -> AttFr h' h.next p.att wp wc wx wl wk -> Q (.agg (zaf (zaQ p rd label name) wp wc wx wl wk)) h') : Acalls Tryz.prog 27 [.agg (zaf p vp vc vx vl vk), .int .u64 (rd : Nat), .int .u32 (label : Nat), .str name] h Q := by
 refine zam Tryz.func27 S.a16c S.a16e (Nat.le_of_ble_eq_true rfl) fun wf => ?_; simp only [S.a16]
 obtain ⟨es, P⟩ := A.path
 have o1 := P.sls.one
 have o2 := A.comms.one
 have o3 := A.exts.one
 have o4 := A.larges.one
 have o5 := A.clus.one
 obtain ⟨h2, hh2⟩ : ∃ h2, h2 = ((h.push (.row (zaf p vp vc vx vl vk))).push (.row zaD)).push (.row (zaf p vp vc vx vl vk)) := ⟨_, rfl⟩
 have g2 : Ge h h2 := by rw [hh2]; exact (((Ge.refl _).push _).push _).push _
 have w2 : h2.WF := by rw [hh2]; exact ((wf.push _).push _).push _
 have n2 : h2.next = h.next + 3 := by rw [hh2]; simp
 have b0 : h2.get h.next = some (.row (zaf p vp vc vx vl vk)) := by rw [hh2]; simp
 have b1 : h2.get (h.next + 1) = some (.row zaD) := by rw [hh2]; simp
 have b2 : h2.get (h.next + 2) = some (.row (zaf p vp vc vx vl vk)) := by rw [hh2]; simp
 have A2 := A.ge wf g2
 have cc : ∀ Q : V -> H -> Prop, (∀ wp wc wx wl wk h', Ge h2 h' -> h'.WF -> AttFr h' h2.next p.att wp wc wx wl wk -> Q (.agg (attC p.att wp wc wx wl wk)) h') -> Acalls Tryz.prog 51 [.agg (attC p.att vp vc vx vl vk)] h2 Q := fun Q q => zin A2 z q
 simp only [attC] at cc
 have c0 : zad h2.get h.next 29 = some (zaf p vp vc vx vl vk) := (zae (n := 29) b0 rfl).trans rfl
 simp only [zaf, zaD] at hh2 c0
 have n01 : ¬ h.next = h.next + 1 := by omega
 have n02 : ¬ h.next = h.next + 1 + 1 := by omega
 have n12 : ¬ h.next + 1 = h.next + 1 + 1 := by omega
 simp [zaf, o1, o2, o3, o4, o5, n02]
 have z2 : (((h.push (.row (zaf p vp vc vx vl vk))).push (.row zaD)).push (.row zaD)).set (h.next + 1 + 1) (.row (zaf p vp vc vx vl vk)) = h2 := by
  rw [hh2]
  exact zaW _ _ _ (by simp)
 simp only [zaf, zaD] at z2
 rw [z2]
 refine cc _ fun wp wc wx wl wk h3 g3 w3 f3 => ?_
 obtain ⟨u1, u2, u3, u4, u5⟩ := f3.one
 have l3 := g3.1
 have b30 : h3.get h.next = some (.row (zaf p vp vc vx vl vk)) := (g3.2 _ (by omega)).trans b0
 have b31 : h3.get (h.next + 1) = some (.row zaD) := (g3.2 _ (by omega)).trans b1
 have b32 : h3.get (h.next + 1 + 1) = some (.row (zaf p vp vc vx vl vk)) := (g3.2 _ (by omega)).trans b2
 simp only [zaf, zaD] at b30 b31 b32
 simp [b32, u1, u2, u3, u4, u5]
 obtain ⟨h4, hh4⟩ : ∃ h4, h4 = h3.set (h.next + 1 + 1) (.row (zaf p wp wc wx wl wk)) := ⟨_, rfl⟩
 have k4 : ∀ x, x ≠ h.next + 1 + 1 -> h4.get x = h3.get x := fun x hx => by rw [hh4, H.get_set, if_neg hx]
 have n4 : h4.next = h3.next := by rw [hh4]; simp
 have w4 : h4.WF := by rw [hh4]; exact w3.set (by omega) _
 have b40 : h4.get h.next = some (.row (zaf p vp vc vx vl vk)) := by rw [k4 _ (by omega)]; simpa [zaf] using b30
 have b41 : h4.get (h.next + 1) = some (.row zaD) := by rw [k4 _ (by omega)]; simpa [zaD] using b31
 have b42 : h4.get (h.next + 1 + 1) = some (.row (zaf p wp wc wx wl wk)) := by rw [hh4]; simp
 simp only [zaf] at hh4 b40 b42
 simp only [zaD] at b41
 have c40 : zad h4.get h.next 29 = some (zaf p vp vc vx vl vk) := (zae (n := 29) b40 rfl).trans rfl
 simp only [zaf] at c40
 rw [<- hh4]
 refine zbO [h.next] [1, 0, 0, 2, 0, 0, 0, 0, 0] rfl (by rfl) ?_
 simp
 refine zbd (v := .agg [.int .i64 0, .int .i64 4, .int .i64 5, .int .i64 0, .int .i64 1, .int .i64 2]) (h' := h4) (fun Q q => zm7 q) (by decide) (fun _ => Keep.refl _ _) ?_
 have fx : (if 0 ≤ p.n.p.fam ∧ p.n.p.fam < 6 then [V.int .i64 0, V.int .i64 4, V.int .i64 5, V.int .i64 0, V.int .i64 1, V.int .i64 2][p.n.p.fam.toNat]? else none) = some (.int .i64 (famT p.n.p.fam)) := by
  rw [if_pos hf]
  rcases (by omega : p.n.p.fam = 0 ∨ p.n.p.fam = 1 ∨ p.n.p.fam = 2 ∨ p.n.p.fam = 3 ∨ p.n.p.fam = 4 ∨ p.n.p.fam = 5) with e | e | e | e | e | e <;> rw [e] <;> rfl
 simp [c40, I.foot, zbf, fx, b42, b41, u1, u2, u3, u4, u5]
 obtain ⟨hF, hhF⟩ : ∃ hF, hF = (h4.set (h.next + 1 + 1) (.row (zaf (zaQ p rd label name) wp wc wx wl wk))).set (h.next + 1) (.row (zaf (zaQ p rd label name) wp wc wx wl wk)) := ⟨_, rfl⟩
 have gF : Ge h hF := by
  rw [hhF]
  refine Ge.set (Ge.set ⟨by omega, fun x hx => ?_⟩ (by omega) _) (by omega) _
  rw [k4 x (by omega), g3.2 x (by omega), g2.2 x hx]
 have wF : hF.WF := by rw [hhF]; exact (w4.set (by omega) _).set (by simp; omega) _
 have kF : ∀ x, h2.next ≤ x -> hF.get x = h3.get x := fun x hx => by rw [hhF, H.get_set, if_neg (by omega), H.get_set, if_neg (by omega), k4 x (by omega)]
 have fF : AttFr hF h.next p.att wp wc wx wl wk := (f3.keep3 (Nat.le_refl _) ⟨by rw [hhF]; simp; omega, fun i sz cs hl _ e => by rw [kF i hl]; exact e⟩).le (by omega)
 have hq := q wp wc wx wl wk hF gF wF fF
 rw [hhF] at hq
 simpa [zaf, zaQ] using hq
theorem Fc.turn {h h' : H} {lo sz : Nat} {v : V} {es : List (List V)} {o : O} (f : Fc h lo sz v es) (hn : h.next ≤ h'.next) (k : ∀ i, i < h.next -> h.get i ≠ some o -> h'.get i = h.get i) (ho : o ≠ .grow sz es.flatten) : Fc h' lo sz v es := by
 rcases f with h1 | ⟨hes, h1 | ⟨h1, i, h2, h3, h4, h5⟩⟩
 ·exact .inl h1
 ·exact .inr ⟨hes, .inl h1⟩
 ·refine .inr ⟨hes, .inr ⟨h1, i, h2, by omega, h4, ?_⟩⟩
  rw [k i h3 (fun e => by rw [h5, Option.some.injEq] at e; exact ho e.symm)]; exact h5
theorem zlK {m l : List Nat} (hm : m ≠ []) : O.grow 1 (m.map cX).flatten ≠ O.grow 1 (l.map cP).flatten := by
 intro e
 injection e with _ e
 match m, hm with
 | a :: m, _ =>
  cases l with
  | nil => simp [cX] at e
  | cons b l => simp [cX, cP] at e
def AttR (h : H) (lo : Nat) (a : Att) (vp vc vl vk : V) : Prop := PathFr h lo vp a.path ∧ Fc h lo 1 vc (a.comms.map cP) ∧ Fc h lo 3 vl (a.larges.map cL) ∧ Fc h lo 1 vk (a.clus.map cP)
theorem AttFr.rest {h : H} {lo : Nat} {a : Att} {vp vc vx vl vk : V} (f : AttFr h lo a vp vc vx vl vk) : AttR h lo a vp vc vl vk := ⟨f.path, f.comms, f.larges, f.clus⟩
def znZ (o : O) : Prop := (∀ l : List Nat, o ≠ .grow 1 (l.map cP).flatten) ∧ ∀ sz cs, sz ≠ 1 -> sz ≤ 3 -> o ≠ .grow sz cs
theorem zc8 (r : List V) : znZ (.row r) := ⟨fun _ => by simp, fun _ _ _ _ => by simp⟩
theorem zhR {m : List Nat} (hm : m ≠ []) : znZ (.grow 1 (m.map cX).flatten) := ⟨fun _ => zlK hm, fun _ _ h _ e => by injection e with e _; omega⟩
theorem AttR.turn {h h' : H} {lo : Nat} {a : Att} {vp vc vl vk : V} (f : AttR h lo a vp vc vl vk) {o : O} (ho : znZ o) (hn : h.next ≤ h'.next) (k : ∀ i, i < h.next -> h.get i ≠ some o -> h'.get i = h.get i) : AttR h' lo a vp vc vl vk := by
 obtain ⟨⟨es, f1, f2, f3⟩, f4, f5, f6⟩ := f
 exact ⟨⟨es, f1.turn hn k (ho.2 _ _ (by decide) (by decide)), f2, fun i s hi => by obtain ⟨w, e, g⟩ := f3 i s hi; exact ⟨w, e, g.turn hn k (ho.1 _)⟩⟩, f4.turn hn k (ho.1 _), f5.turn hn k (ho.2 _ _ (by decide) (by decide)), f6.turn hn k (ho.1 _)⟩
def zje (a : Att) (l : List Nat) : Att := ⟨a.origin, a.path, a.next, a.hasMed, a.med, a.hasPref, a.pref, a.atomic, a.aggAS, a.aggId, a.comms, l, a.larges, a.hasOrig, a.orig, a.clus⟩
def upOk (v : Vr) (p : Pth) (label : Nat) : Bool := vrfB v && zbs p && (decide (p.n.p.fam = 1) || decide (p.n.p.fam = 2)) && decide (16 ≤ label) && decide (label ≤ 1048575)
def upX (v : Vr) (p : Pth) : List Nat := zgC oN (p.att.exts ++ v.exp)
def upP (v : Vr) (p : Pth) (label : Nat) : Pth := ⟨⟨⟨famT p.n.p.fam, v.rd, p.n.p.addr, p.n.p.len⟩, p.n.id, label⟩, zje p.att (upX v p), ⟨p.src.kind, p.src.peer, p.src.asn, p.src.sid, p.src.addr, v.name⟩, p.stale⟩
theorem zlN {h : H} {lo : Nat} {v : V} {l : List Nat} (f : Fc h lo 1 v (l.map cX)) (hl : l.length ≤ 900000) {Q : V -> H -> Prop}
  (q : ∀ h', h'.WF -> h'.next = h.next -> (∀ i, i < h.next -> (l = [] ∨ h.get i ≠ some (.grow 1 (l.map cX).flatten)) -> h'.get i = h.get i) -> (∀ i, i < lo -> h'.get i = h.get i) -> ((l = [] ∧ h' = h) ∨ ∃ (j : Nat) (l' : List Nat), lo ≤ j ∧ l ≠ [] ∧ v = .sl j l.length 0 l.length none ∧ h'.get j = some (.grow 1 (l'.map cX).flatten) ∧ l'.Perm l ∧ l'.Pairwise (fun x y => ¬ y < x)) -> Q (.tup []) h') : h.WF -> Acalls Tryz.prog 28 [v] h Q := fun w => by
 rcases f with ⟨e1, e2⟩ | ⟨hne, e | ⟨_, j, j1, j2, j3, j4⟩⟩
 ·have hl0 : l = [] := by simpa using e1
  exact zml (e2.imp id fun ⟨k, _, e⟩ => ⟨k, e⟩) _ (q h w rfl (fun _ _ _ => rfl) (fun _ _ => rfl) (.inl ⟨hl0, rfl⟩))
 ·exact absurd e.1 hne
 ·have hln : l ≠ [] := by simpa using hne
  have hfl : (l.map cX).flatten.length = l.length := by rw [zaP (za0 l)]; simp
  rw [hfl] at j3
  simp only [List.length_map] at j3
  subst j3
  refine zmn j4 hl fun l' hp hs => q _ (w.set j2 _) (by simp) (fun i hi ho => ?_) (fun i hi => by rw [H.get_set, if_neg (by omega)]) (.inr ⟨j, l', j1, hln, rfl, by simp, hp, hs⟩)
  rw [H.get_set, if_neg (fun e => by subst e; rcases ho with ho | ho; exact hln ho; exact ho j4)]
def ExAt (h : H) (lo : Nat) (v : V) (l : List Nat) : Prop := Sls h.get 1 v (l.map cX) ∧ ((l = [] ∧ (v = .nilsl ∨ ∃ k, lo ≤ k ∧ v = .sl k 0 0 0 (some 0))) ∨ ∃ (j n : Nat) (cs : List V), lo ≤ j ∧ j < h.next ∧ v = .sl j n 0 l.length none ∧ h.get j = some (.grow 1 cs) ∧ cs.length = n)
theorem ExAt.keep {h h' : H} {lo : Nat} {v : V} {l : List Nat} (e : ExAt h lo v l) {r : List V} (hn : h.next ≤ h'.next) (k : ∀ i, i < h.next -> h.get i ≠ some (.row r) -> h'.get i = h.get i) : ExAt h' lo v l := by
 obtain ⟨s, e1 | ⟨j, n, cs, a, b, c, d, f⟩⟩ := e
 ·refine ⟨?_, .inl e1⟩
  obtain ⟨rfl, rfl | ⟨k2, _, rfl⟩⟩ := e1
  ·exact ⟨.inl ⟨rfl, .inl rfl⟩, by simp, rfl, by simp⟩
  ·exact ⟨.inr ⟨_, _, _, _, rfl⟩, by simp, by simp [zaG], by simp⟩
 ·have hk : h'.get j = h.get j := k j b (by rw [d]; simp)
  refine ⟨⟨s.kind, s.size, ?_, s.bound⟩, .inr ⟨j, n, cs, a, by omega, c, hk.trans d, f⟩⟩
  have hr := s.read
  rw [c, zaG] at hr ⊢
  unfold zad at hr ⊢
  rw [hk]; exact hr
theorem ExAt.ge {h h' : H} {lo : Nat} {v : V} {l : List Nat} (e : ExAt h lo v l) (g : Ge h h') : ExAt h' lo v l := e.keep (r := []) g.1 fun i hi _ => g.2 i hi
theorem AttR.ge {h h' : H} {lo : Nat} {a : Att} {vp vc vl vk : V} (f : AttR h lo a vp vc vl vk) (g : Ge h h') : AttR h' lo a vp vc vl vk := f.turn (zc8 []) g.1 fun i hi _ => g.2 i hi
theorem AttR.le {h : H} {lo lo' : Nat} {a : Att} {vp vc vl vk : V} (f : AttR h lo a vp vc vl vk) (hl : lo' ≤ lo) : AttR h lo' a vp vc vl vk := ⟨f.1.le hl, f.2.1.le hl, f.2.2.1.le hl, f.2.2.2.le hl⟩
theorem ExAt.le {h : H} {lo lo' : Nat} {v : V} {l : List Nat} (e : ExAt h lo v l) (hl : lo' ≤ lo) : ExAt h lo' v l :=
 ⟨e.1, e.2.imp (fun ⟨a, b⟩ => ⟨a, b.imp id fun ⟨k, c, d⟩ => ⟨k, by omega, d⟩⟩) fun ⟨j, n, cs, a, b⟩ => ⟨j, n, cs, by omega, b⟩⟩
theorem AttR.at {h : H} {lo : Nat} {a : Att} {vp vc vx vl vk : V} (f : AttR h lo a vp vc vl vk) (z : AttSz a) {l : List Nat} (e : Sls h.get 1 vx (l.map cX)) : AttAt h.get (zje a l) vp vc vx vl vk :=
 ⟨f.1.at z.path z.segs, f.2.1.sls (zdb _) (by have := z.comms; simp; omega), e, f.2.2.1.sls (zif _) (by have := z.larges; simp; omega), f.2.2.2.sls (zdb _) (by have := z.clus; simp; omega)⟩
end Go.Am

namespace Go.Am
open Go.Proofs

set_option maxRecDepth 100000
theorem zgn : ∀ (l m : List Nat), (l.foldl (putL oN) m).length ≤ m.length + l.length
 | [], m => by simp
 | a :: l, m => by
  rw [List.foldl_cons]
  have h1 := zgn l (putL oN m a)
  have h2 := zmr (c := oN) m a
  simp only [List.length_cons]; omega
theorem zi4 (x y : Nat) : ¬ y < x ↔ ¬ oN y x < 0 := by rw [zem]
theorem zrF {h : H} {v : Vr} {vi ve : V} {p : Pth} {vp vc vx vl vk : V} (VA : VrAt h.get v vi ve) (ok : VrOk v) (A : AttAt h.get p.att vp vc vx vl vk) (hn : p.src.peer.length ≤ 9223372036854775807) {label : Nat} {Q : V -> H -> Prop}
  (q1 : upOk v p label = false -> ∀ h', Ge h h' -> h'.WF -> Q (.tup [.agg zaD, .int .i64 2]) h')
  (q2 : upOk v p label = true -> 64 < (upX v p).length -> ∀ h', Ge h h' -> h'.WF -> Q (.tup [.agg zaD, .int .i64 7]) h')
  (q3 : upOk v p label = true -> (upX v p).length ≤ 64 -> ∀ wp wc wx wl wk h', Ge h h' -> h'.WF -> AttR h' h.next p.att wp wc wl wk -> ExAt h' h.next wx (upX v p) -> Q (.tup [.agg (zaf (upP v p label) wp wc wx wl wk), .int .i64 0]) h') :
  Acalls Tryz.prog 8 [.agg (vrC v vi ve), .agg (zaf p vp vc vx vl vk), .int .u32 (label : Nat)] h Q := by
 refine zam Tryz.func8 S.a3c S.a3e (Nat.le_of_ble_eq_true rfl) fun wf => ?_; simp only [S.a3]
 obtain ⟨es, P⟩ := A.path
 have o1 := P.sls.one
 have o2 := A.comms.one
 have o3 := A.exts.one
 have o4 := A.larges.one
 have o5 := A.clus.one
 have o6 := VA.imp.one
 have o7 := VA.exp.one
 obtain ⟨h2, hh2⟩ : ∃ h2, h2 = ((h.push (.row (vrC v vi ve))).push (.row (zaf p vp vc vx vl vk))).push (.row zaD) := ⟨_, rfl⟩
 have g2 : Ge h h2 := by rw [hh2]; exact (((Ge.refl _).push _).push _).push _
 have w2 : h2.WF := by rw [hh2]; exact ((wf.push _).push _).push _
 have n2 : h2.next = h.next + 3 := by rw [hh2]; simp
 have b0 : h2.get h.next = some (.row (vrC v vi ve)) := by rw [hh2]; simp [show ¬ h.next = h.next + 1 + 1 by omega]
 have b1 : h2.get (h.next + 1) = some (.row (zaf p vp vc vx vl vk)) := by rw [hh2]; simp
 have b2 : h2.get (h.next + 2) = some (.row zaD) := by rw [hh2]; simp
 have A2 := A.ge wf g2
 have V2 := VA.ge wf g2
 have vc1 := zmS V2 ok
 have mc1 := zhM A2 hn
 have c0 : zad h2.get h.next 4 = some (vrC v vi ve) := (zae (n := 4) b0 rfl).trans rfl
 have c1 : zad h2.get (h.next + 1) 29 = some (zaf p vp vc vx vl vk) := (zae (n := 29) b1 rfl).trans rfl
 have n01 : ¬ h.next = h.next + 1 := by omega
 have n02 : ¬ h.next = h.next + 1 + 1 := by omega
 have n12 : ¬ h.next + 1 = h.next + 1 + 1 := by omega
 simp only [vrC] at vc1 c0
 simp only [zaf] at mc1 c1
 simp only [vrC, zaf, zaD] at hh2
 simp [vrC, zaf, o1, o2, o3, o4, o5, o6, o7, n02]
 rw [<- hh2]
 refine vc1 _ ?_
 obtain ⟨bv, hbv⟩ : ∃ b, b = vrfB v := ⟨_, rfl⟩
 obtain ⟨bm, hbm⟩ : ∃ b, b = zbs p := ⟨_, rfl⟩
 have hu : upOk v p label = (bv && bm && (decide (p.n.p.fam = 1) || decide (p.n.p.fam = 2)) && decide (16 ≤ label) && decide (label ≤ 1048575)) := by rw [hbv, hbm]; rfl
 obtain ⟨u, huu⟩ : ∃ u, u = upOk v p label := ⟨_, rfl⟩
 rw [<- hbv]
 rw [<- hbm] at mc1
 simp
 refine zaU (fun t' h' => (t' 2 = .int .u32 (label : Nat) ∧ t' 3 = .ptr h.next 4 0 ∧ t' 4 = .ptr (h.next + 1) 29 0 ∧ t' 6 = .ptr (h.next + 1 + 1) 29 0 ∧ t' 36 = .bool (!u)) ∧ h' = h2) (fun K' hK' => ?_) ?_
 ·rw [huu, hu] at hK'
  cases bv <;> simp only [Bool.false_and, Bool.true_and, Bool.not_false] at hK' <;> simp [c1] <;> (try (exact hK' _ _ ⟨by simp, rfl⟩))
  refine mc1 _ ?_
  cases bm <;> simp only [Bool.false_and, Bool.true_and, Bool.not_false] at hK' <;> simp [c1, neI] <;> (try (exact hK' _ _ ⟨by simp, rfl⟩))
  by_cases k1 : p.n.p.fam = 1 ∨ p.n.p.fam = 2
  ·have e1 : (decide (p.n.p.fam = 1) || decide (p.n.p.fam = 2)) = true := by simpa using k1
   rw [e1] at hK'
   have e2 : decide ((label : Int) < 16) = !decide (16 ≤ label) := by by_cases e : 16 ≤ label <;> simp [e] <;> omega
   have e3 : decide ((1048575 : Int) < (label : Int)) = !decide (label ≤ 1048575) := by by_cases e : label ≤ 1048575 <;> simp [e] <;> omega
   obtain ⟨d2, hd2⟩ : ∃ d, d = decide (16 ≤ label) := ⟨_, rfl⟩
   obtain ⟨d3, hd3⟩ : ∃ d, d = decide (label ≤ 1048575) := ⟨_, rfl⟩
   rw [<- hd2] at e2 hK'
   rw [<- hd3] at e3 hK'
   rcases k1 with k1 | k1
   ·simp [k1, e2]
    cases d2 <;> simp only [Bool.and_true, Bool.true_and, Bool.false_and, Bool.and_false, Bool.not_false] at hK' <;> simp [e3]
    ·exact hK' _ _ ⟨by simp, rfl⟩
    ·exact hK' _ _ ⟨by simp, rfl⟩
   ·simp [k1, c1, e2]
    cases d2 <;> simp only [Bool.and_true, Bool.true_and, Bool.false_and, Bool.and_false, Bool.not_false] at hK' <;> simp [e3]
    ·exact hK' _ _ ⟨by simp, rfl⟩
    ·exact hK' _ _ ⟨by simp, rfl⟩
  ·have e1 : (decide (p.n.p.fam = 1) || decide (p.n.p.fam = 2)) = false := by simpa using k1
   rw [e1] at hK'
   simp only [Bool.false_and, Bool.not_false] at hK'
   have k1' : ¬ p.n.p.fam = 1 := fun e => k1 (.inl e)
   have k2' : ¬ p.n.p.fam = 2 := fun e => k1 (.inr e)
   simp [k1', k2', c1, neI]
   exact hK' _ _ ⟨by simp, rfl⟩
 rintro t h2' ⟨⟨t2, t3, t4, t6, t36⟩, rfl⟩
 cases u with
 | false =>
  simp only [zaD] at b2
  simp [t36, t6, b2]
  have hq := q1 huu.symm (h2'.set (h.next + 1 + 1) (.row zaD)) (g2.set (by omega) _) (w2.set (by omega) _)
  simpa [zaD] using hq
 | true =>
  have hu2 := huu.symm
  simp only [upOk, Bool.and_eq_true] at hu2
  have hmy := hu2.1.1.1.2
  have hfam := hu2.1.1.2
  simp at hfam
  have hmy2 := hmy
  simp only [zbs, Bool.and_eq_true] at hmy2
  have hz := zdI hmy2.1.2
  have mv : ∀ Q : V -> H -> Prop, (∀ wp wc wx wl wk h', Ge h2' h' -> h'.WF -> AttFr h' h2'.next p.att wp wc wx wl wk -> Q (.agg (zaf (zaQ p v.rd label v.name) wp wc wx wl wk)) h') -> Acalls Tryz.prog 27 [.agg (zaf p vp vc vx vl vk), .int .u64 (v.rd : Nat), .int .u32 (label : Nat), .str v.name] h2' Q := fun Q q => zkt A2 hz (by omega) q
  simp only [zaf, zaQ] at mv
  simp [t36, t2, t3, t4, c0, c1]
  refine mv _ fun wp wc wx wl wk h3 g3 w3 f3 => ?_
  obtain ⟨u1, u2, u3, u4, u5⟩ := f3.one
  have l3 := g3.1
  obtain ⟨h4, hh4⟩ : ∃ h4, h4 = h3.push (.row (zaf (zaQ p v.rd label v.name) wp wc wx wl wk)) := ⟨_, rfl⟩
  have g4 : Ge h3 h4 := by rw [hh4]; exact (Ge.refl _).push _
  have w4 : h4.WF := by rw [hh4]; exact w3.push _
  have n4 : h4.next = h3.next + 1 := by rw [hh4]; simp
  have z4 : (h3.push (.row zaD)).set h3.next (.row (zaf (zaQ p v.rd label v.name) wp wc wx wl wk)) = h4 := by rw [hh4]; exact zaW _ _ _ rfl
  have b40 : h4.get h.next = some (.row (vrC v vi ve)) := by rw [g4.2 _ (by omega), g3.2 _ (by omega)]; exact b0
  have b42 : h4.get (h.next + 1 + 1) = some (.row zaD) := by rw [g4.2 _ (by omega), g3.2 _ (by omega)]; exact b2
  have b43 : h4.get h3.next = some (.row (zaf (zaQ p v.rd label v.name) wp wc wx wl wk)) := by rw [hh4]; simp
  have c40 : zad h4.get h.next 4 = some (vrC v vi ve) := (zae (n := 4) b40 rfl).trans rfl
  have c43 : zad h4.get h3.next 29 = some (zaf (zaQ p v.rd label v.name) wp wc wx wl wk) := (zae (n := 29) b43 rfl).trans rfl
  have x3 : ¬ h.next = h3.next := by omega
  have gh4 : Ge h h4 := g2.trans (g3.trans g4)
  have V4 := VA.ge wf gh4
  have f4 : AttFr h4 h2'.next p.att wp wc wx wl wk := f3.ge w3 g4
  simp only [zaf, zaD, zaQ] at z4
  simp only [vrC] at c40
  simp only [zaf, zaQ] at c43 b43
  simp [u1, u2, u3, u4, u5]
  rw [z4]
  have hx1 := zdI hmy2.1.2
  have hxl : p.att.exts.length ≤ 64 := by
   have := hmy2.1.2
   rw [zdj] at this
   simp only [Bool.and_eq_true, risB, decide_eq_true_eq] at this
   exact this.1.2.2
  obtain ⟨v5, d5, ea, f5, n5, i5, w5, k5⟩ := f4.exts.appends 8 (by omega) (za0 _) V4.exp (zcM _) (by decide) (by have := ok.exp.1; simp; omega) (by have := ok.exp.1; simp; omega)
  -- the list behind the append
  obtain ⟨L, hL⟩ : ∃ L, L = p.att.exts ++ v.exp := ⟨_, rfl⟩
  have hLl : L.length ≤ 2000 := by rw [hL, List.length_append]; have := ok.exp.1; omega
  rw [<- List.map_append, <- hL] at f5
  obtain ⟨g5, hg5⟩ : ∃ g5, g5 = h4.app d5 := ⟨_, rfl⟩
  rw [<- hg5] at f5 n5 i5 w5 k5
  have wg5 := w5 w4
  have hs6 : h2'.next ≤ h3.next := l3
  have kk5 : ∀ i, i < h4.next -> (p.att.exts = [] ∨ h4.get i ≠ some (.grow 1 (p.att.exts.map cX).flatten)) -> g5.get i = h4.get i := fun i hi ho => k5 i hi (by simpa using ho)
  have rowne : ∀ {r cs : List V} {g : H} {i : Nat}, g.get i = some (.row r) -> g.get i ≠ some (.grow 1 cs) := fun e => by rw [e]; simp
  have b53 : g5.get h3.next = some (.row (zaf (zaQ p v.rd label v.name) wp wc wx wl wk)) := by
   have b43' : h4.get h3.next = some (.row (zaf (zaQ p v.rd label v.name) wp wc wx wl wk)) := b43
   rw [kk5 _ (by omega) (.inr (rowne b43'))]; exact b43'
  have b52 : g5.get (h.next + 1 + 1) = some (.row zaD) := by rw [kk5 _ (by omega) (.inr (rowne b42))]; exact b42
  have old5 : ∀ i, i < h.next -> g5.get i = h.get i := fun i hi => by
   rw [<- gh4.2 i hi]
   exact i5 i (fun hv => by have := f4.exts.lo i hv; omega) (by omega)
  have o8 := f5.one
  simp only [zaf, zaQ] at b53
  simp [t3, c40, ea]
  rw [<- hg5]
  simp [b53, zaz o8, zaA o8]
  obtain ⟨h6, hh6⟩ : ∃ h6, h6 = g5.set h3.next (.row (zaf (zaQ p v.rd label v.name) wp wc v5 wl wk)) := ⟨_, rfl⟩
  have n6 : h6.next = g5.next := by rw [hh6]; simp
  have w6 : h6.WF := by rw [hh6]; exact wg5.set (by omega) _
  have k6 : ∀ x, x ≠ h3.next -> h6.get x = g5.get x := fun x hx => by rw [hh6, H.get_set, if_neg hx]
  have b63 : h6.get h3.next = some (.row (zaf (zaQ p v.rd label v.name) wp wc v5 wl wk)) := by rw [hh6]; simp
  have b62 : h6.get (h.next + 1 + 1) = some (.row zaD) := by rw [k6 _ (by omega)]; exact b52
  have f6 : Fc h6 h2'.next 1 v5 (L.map cX) := f5.turn (o := .row (zaf (zaQ p v.rd label v.name) wp wc wx wl wk)) (by omega) (fun i hi ho => k6 i (fun e => by subst e; exact ho (by simpa [zaf, zaQ] using b53))) (by simp)
  simp only [zaf, zaQ] at hh6
  rw [<- hh6]
  refine zlN f6 (by omega) (fun h7 w7 n7 k7 l7 hc => ?_) w6
  have b73 : h7.get h3.next = some (.row (zaf (zaQ p v.rd label v.name) wp wc v5 wl wk)) := (k7 _ (by omega) (.inr (rowne b63))).trans b63
  have b72 : h7.get (h.next + 1 + 1) = some (.row zaD) := (k7 _ (by omega) (.inr (rowne b62))).trans b62
  have c73 : zad h7.get h3.next 29 = some (zaf (zaQ p v.rd label v.name) wp wc v5 wl wk) := (zae (n := 29) b73 rfl).trans rfl
  simp only [zaf, zaQ] at c73
  simp [c73]
  have hX : upX v p = zgC oN L := by rw [hL]; rfl
  -- the other lists stay
  have r5 : AttR g5 h2'.next p.att wp wc wl wk := by
   by_cases he : p.att.exts = []
   ·exact f4.rest.turn (zc8 []) n5 fun i hi _ => kk5 i hi (.inl he)
   ·exact f4.rest.turn (zhR he) n5 fun i hi ho => kk5 i hi (.inr ho)
  have r6 : AttR h6 h2'.next p.att wp wc wl wk := r5.turn (zc8 (zaf (zaQ p v.rd label v.name) wp wc wx wl wk)) (by omega) fun i hi ho => k6 i (fun e => by subst e; exact ho (by simpa [zaf, zaQ] using b53))
  have old7 : ∀ i, i < h.next -> h7.get i = h.get i := fun i hi => by rw [l7 i (by omega), k6 i (by omega), old5 i hi]
  refine (show Acalls Tryz.prog 29 [v5] h7 (fun v8 h8 => h8.WF ∧ h8.next = h7.next ∧ (∀ i, i < h.next -> h8.get i = h.get i) ∧ h8.get h3.next = some (.row (zaf (zaQ p v.rd label v.name) wp wc v5 wl wk)) ∧ h8.get (h.next + 1 + 1) = some (.row zaD) ∧ ExAt h8 h2'.next v8 (upX v p) ∧ AttR h8 h2'.next p.att wp wc wl wk) from ?_).mono ?_
  ·rcases hc with ⟨hL0, rfl⟩ | ⟨j, l', j1, j2, j3, j4, j5, j6⟩
   ·rw [hL0] at f6 hX
    have hvf : v5 = .nilsl ∨ ∃ k, v5 = .sl k 0 0 0 (some 0) := by
     rcases f6 with ⟨_, e⟩ | ⟨e, _⟩
     ·exact e.imp id fun ⟨k, _, e⟩ => ⟨k, e⟩
     ·exact absurd rfl e
    refine zlf hvf ⟨w7, rfl, old7, b73, b72, ?_, r6⟩
    rw [hX]
    exact ⟨f6.sls (by simp) (by simp), .inl ⟨rfl, by
     rcases f6 with ⟨_, e⟩ | ⟨e, _⟩
     ·exact e
     ·exact absurd rfl e⟩⟩
   ·have hll := j5.length_eq
    rw [<- hll] at j3
    subst j3
    have hne : l' ≠ [] := fun e => j2 (by rw [e] at j5; exact j5.symm.eq_nil)
    have hcp : zav l' = upX v p := by
     rw [hX]
     exact zgG zgN znD j5 (j6.imp fun {x y} hxy => (zi4 x y).1 hxy)
    refine zgF j4 (by omega) hne fun v8 h8 a b c d _ ⟨cs, d1, d2⟩ d3 => ⟨c, b, fun i hi => ?_, ?_, ?_, by rw [<- hcp]; exact ⟨d, .inr ⟨j, l'.length, cs, j1, by rw [b]; exact w7.lt j4, d3, d1, d2⟩⟩, ?_⟩
    ·rw [a i (by omega)]; exact old7 i hi
    ·rw [a _ (fun e => by rw [<- e] at j4; rw [b73] at j4; cases j4)]; exact b73
    ·rw [a _ (fun e => by rw [<- e] at j4; rw [b72] at j4; cases j4)]; exact b72
    ·have r7 : AttR h7 h2'.next p.att wp wc wl wk := r6.turn (zhR j2) (by omega) fun i hi ho => k7 i hi (.inr ho)
     exact r7.turn (zhR hne) (by omega) fun i hi ho => a i (fun e => by subst e; exact ho j4)
  rintro v8 h8 ⟨w8, n8, old8, b83, b82, s8, r8⟩
  have o9 := s8.1.one
  have b83' := b83
  obtain ⟨h9, hh9⟩ : ∃ h9, h9 = h8.set h3.next (.row (zaf (upP v p label) wp wc v8 wl wk)) := ⟨_, rfl⟩
  have k9 : ∀ x, x ≠ h3.next -> h9.get x = h8.get x := fun x hx => by rw [hh9, H.get_set, if_neg hx]
  have n9 : h9.next = h8.next := by rw [hh9]; simp
  have w9 : h9.WF := by rw [hh9]; exact w8.set (by omega) _
  have kr9 : ∀ i, i < h8.next -> h8.get i ≠ some (.row (zaf (zaQ p v.rd label v.name) wp wc v5 wl wk)) -> h9.get i = h8.get i := fun i _ ho => k9 i (fun e => by subst e; exact ho b83')
  have s9 := s8.keep (by omega) kr9
  have r9 := r8.turn (zc8 _) (by omega) kr9
  have l9 := s9.1.len
  simp at l9
  have b93 : h9.get h3.next = some (.row (zaf (upP v p label) wp wc v8 wl wk)) := by rw [hh9]; simp
  have b92 : h9.get (h.next + 1 + 1) = some (.row zaD) := by rw [k9 _ (by omega)]; exact b82
  have c93 : zad h9.get h3.next 29 = some (zaf (upP v p label) wp wc v8 wl wk) := (zae (n := 29) b93 rfl).trans rfl
  simp only [zaf, upP, zje] at hh9 c93
  simp only [zaD] at b92
  simp only [zaf, zaQ] at b83
  simp [b83, zaz o9, zaA o9]
  rw [<- hh9]
  simp [l9]
  have g9 : Ge h h9 := ⟨by omega, fun i hi => by rw [k9 i (by omega)]; exact old8 i hi⟩
  by_cases hb : (upX v p).length ≤ 64
  ·have hb' : ¬ (64 : Int) < ((upX v p).length : Int) := by omega
   have q1' : wp.one = true := u1
   simp [hb', t6, c93, b92, u1, u2, o9, u4, u5]
   have hq := q3 huu.symm hb wp wc v8 wl wk (h9.set (h.next + 1 + 1) (.row (zaf (upP v p label) wp wc v8 wl wk))) (g9.set (by omega) _) (w9.set (by omega) _) ?_ ?_
   ·simpa [zaf, upP, zje] using hq
   ·exact (r9.turn (zc8 zaD) (by simp) fun i _ ho => by rw [H.get_set, if_neg (fun e => by subst e; exact ho b92)]).le (by omega)
   ·exact (s9.keep (r := zaD) (by simp) fun i _ ho => by rw [H.get_set, if_neg (fun e => by subst e; exact ho b92)]).le (by omega)
  ·have hb' : (64 : Int) < ((upX v p).length : Int) := by omega
   simp [hb', t6, b92]
   have hq := q2 huu.symm (by omega) (h9.set (h.next + 1 + 1) (.row zaD)) (g9.set (by omega) _) (w9.set (by omega) _)
   simpa [zaD] using hq
end Go.Am

namespace Go.Am
open Go.Proofs

set_option maxRecDepth 100000
theorem zbN {h : H} (w : h.WF) {sz : Nat} (es : List (List V)) : ∃ v h', Ge h h' ∧ h'.WF ∧ Gl h' h.next sz v es := by
 by_cases he : es = []
 ·subst he; exact ⟨.nilsl, h, Ge.refl _, w, Gl.nil _ _ _⟩
 ·exact ⟨.sl h.next es.flatten.length 0 es.length none, h.push (.grow sz es.flatten), (Ge.refl _).push _, w.push _, .inr ⟨he, h.next, Nat.le_refl _, by simp, rfl, by simp⟩⟩
def zcF (v : Vr) (p : Pth) : Bool := vrfB v && zbs p && (decide (p.n.p.fam = 4) || decide (p.n.p.fam = 5))
def zd5 (v : Vr) (p : Pth) : Bool := (p.att.exts.filter isTg).any fun x => decide (x ∈ v.imp)
theorem zlb {h : H} {f : Int} : Pure Tryz.prog 34 [.int .i64 f] h (.bool (decide (f = 4) || decide (f = 5))) := by
 refine zak Tryz.func34 S.a23c S.a23e rfl (Nat.le_of_ble_eq_true rfl) fun wf => ?_; simp only [S.a23]
 by_cases k1 : f = 4
 ·simp [k1]
 ·simp [eqI, k1]
theorem zm8 {h : H} {v : Vr} {vi ve : V} {p : Pth} {vp vc vx vl vk : V} (VA : VrAt h.get v vi ve) (ok : VrOk v) (A : AttAt h.get p.att vp vc vx vl vk) (hn : p.src.peer.length ≤ 9223372036854775807) {Q : V -> H -> Prop}
  (q1 : zcF v p = false -> ∀ h', Ge h h' -> h'.WF -> Q (.tup [.agg zaD, .bool false, .int .i64 2]) h')
  (q2 : zcF v p = true -> zd5 v p = false -> ∀ h', Ge h h' -> h'.WF -> Q (.tup [.agg zaD, .bool false, .int .i64 0]) h')
  (q3 : zcF v p = true -> zd5 v p = true -> ∀ wp wc wx wl wk h', Ge h h' -> h'.WF -> AttFr h' h.next p.att wp wc wx wl wk -> Q (.tup [.agg (zaf (zaQ p 0 0 v.name) wp wc wx wl wk), .bool true, .int .i64 0]) h') :
  Acalls Tryz.prog 11 [.agg (vrC v vi ve), .agg (zaf p vp vc vx vl vk)] h Q := by
 refine zam Tryz.func11 S.a6c S.a6e (Nat.le_of_ble_eq_true rfl) fun wf => ?_; simp only [S.a6]
 obtain ⟨es, P⟩ := A.path
 have o1 := P.sls.one
 have o2 := A.comms.one
 have o3 := A.exts.one
 have o4 := A.larges.one
 have o5 := A.clus.one
 have o6 := VA.imp.one
 have o7 := VA.exp.one
 obtain ⟨h2, hh2⟩ : ∃ h2, h2 = ((h.push (.row (vrC v vi ve))).push (.row (zaf p vp vc vx vl vk))).push (.row zaD) := ⟨_, rfl⟩
 have g2 : Ge h h2 := by rw [hh2]; exact (((Ge.refl _).push _).push _).push _
 have w2 : h2.WF := by rw [hh2]; exact ((wf.push _).push _).push _
 have n2 : h2.next = h.next + 3 := by rw [hh2]; simp
 have b0 : h2.get h.next = some (.row (vrC v vi ve)) := by rw [hh2]; simp [show ¬ h.next = h.next + 1 + 1 by omega]
 have b1 : h2.get (h.next + 1) = some (.row (zaf p vp vc vx vl vk)) := by rw [hh2]; simp
 have b2 : h2.get (h.next + 2) = some (.row zaD) := by rw [hh2]; simp
 have A2 := A.ge wf g2
 have V2 := VA.ge wf g2
 have vc1 := zmS V2 ok
 have mc1 := zhM A2 hn
 have c0 : zad h2.get h.next 4 = some (vrC v vi ve) := (zae (n := 4) b0 rfl).trans rfl
 have c1 : zad h2.get (h.next + 1) 29 = some (zaf p vp vc vx vl vk) := (zae (n := 29) b1 rfl).trans rfl
 have n01 : ¬ h.next = h.next + 1 := by omega
 have n02 : ¬ h.next = h.next + 1 + 1 := by omega
 have n12 : ¬ h.next + 1 = h.next + 1 + 1 := by omega
 simp only [vrC] at vc1 c0
 simp only [zaf] at mc1 c1
 simp only [vrC, zaf, zaD] at hh2
 simp [vrC, zaf, o1, o2, o3, o4, o5, o6, o7, n02]
 rw [<- hh2]
 refine vc1 _ ?_
 obtain ⟨bv, hbv⟩ : ∃ b, b = vrfB v := ⟨_, rfl⟩
 obtain ⟨bm, hbm⟩ : ∃ b, b = zbs p := ⟨_, rfl⟩
 have hu : zcF v p = (bv && bm && (decide (p.n.p.fam = 4) || decide (p.n.p.fam = 5))) := by rw [hbv, hbm]; rfl
 obtain ⟨u, huu⟩ : ∃ u, u = zcF v p := ⟨_, rfl⟩
 rw [<- hbv]
 rw [<- hbm] at mc1
 simp
 refine zaU (fun t' h' => (t' 2 = .ptr h.next 4 0 ∧ t' 3 = .ptr (h.next + 1) 29 0 ∧ t' 4 = .ptr (h.next + 1 + 1) 29 0 ∧ t' 7 = .bool (!u)) ∧ h' = h2) (fun K' hK' => ?_) ?_
 ·rw [huu, hu] at hK'
  cases bv <;> simp only [Bool.false_and, Bool.true_and, Bool.not_false] at hK' <;> simp [c1] <;> (try (exact hK' _ _ ⟨by simp, rfl⟩))
  refine mc1 _ ?_
  cases bm <;> simp only [Bool.false_and, Bool.true_and, Bool.not_false] at hK' <;> simp [c1] <;> (try (exact hK' _ _ ⟨by simp, rfl⟩))
  refine zlb _ ?_
  simp
  exact hK' _ _ ⟨by simp, rfl⟩
 rintro t h2' ⟨⟨t2, t3, t4, t7⟩, rfl⟩
 cases u with
 | false =>
  simp only [zaD] at b2
  simp [t7, t4, b2]
  have hq := q1 huu.symm (h2'.set (h.next + 1 + 1) (.row zaD)) (g2.set (by omega) _) (w2.set (by omega) _)
  simpa [zaD] using hq
 | true =>
  have hu2 := huu.symm
  simp only [zcF, Bool.and_eq_true] at hu2
  have hmy := hu2.1.2
  have hfam := hu2.2
  simp at hfam
  have hmy2 := hmy
  simp only [zbs, Bool.and_eq_true] at hmy2
  have hz := zdI hmy2.1.2
  simp [t7]
  have tc : Acalls Tryz.prog 14 [.agg (attC p.att vp vc vx vl vk)] h2' (fun w h' => Ge h2' h' ∧ h'.WF ∧ Gl h' h2'.next 1 w ((p.att.exts.filter isTg).map cX)) := zfC A2 hz.exts fun w h' a b c => ⟨a, b, c⟩
  obtain ⟨sw, sh, ss⟩ := zbN w2 (sz := 1) ((p.att.exts.filter isTg).map cX)
  simp only [attC] at tc
  refine zbO [h.next] [0, 0, 1, 0, 2, 0, 0, 0] rfl (by rfl) ?_
  simp [t3, c1, I.foot, zbf]
  refine ⟨by decide, _, ⟨sw, sh, ss⟩, tc, ?_⟩
  rintro w3 h3 ⟨g3, w3f, gl3⟩
  refine ⟨fun _ => fun k hk => by rw [List.mem_singleton] at hk; subst hk; exact g3.2 _ (by omega), ?_⟩
  have c03 : zad h3.get h.next 4 = some (vrC v vi ve) := (g3.cells (by omega)).trans c0
  simp only [vrC] at c03
  simp [t2, c03, I.foot, zbf]
  have s3 : Sls h3.get 1 w3 ((p.att.exts.filter isTg).map cX) := gl3.sls (za0 _) (by have := List.length_filter_le isTg p.att.exts; have := hz.exts; simp; omega)
  refine zbd (v := .bool (zd5 v p)) (h' := h3) (fun Q q => zk9 s3 ((VA.ge wf (g2.trans g3)).imp) Q q) (by decide) (fun h => by cases h) ?_
  obtain ⟨m, hm⟩ : ∃ m, m = zd5 v p := ⟨_, rfl⟩
  rw [<- hm]
  have b32 : h3.get (h.next + 1 + 1) = some (.row zaD) := (g3.2 _ (by omega)).trans b2
  have c13 : zad h3.get (h.next + 1) 29 = some (zaf p vp vc vx vl vk) := (g3.cells (by omega)).trans c1
  have gh3 := g2.trans g3
  cases m with
  | false =>
   simp only [zaD] at b32
   simp [t4, b32]
   have hq := q2 huu.symm hm.symm (h3.set (h.next + 1 + 1) (.row zaD)) (gh3.set (by omega) _) (w3f.set (by have := g3.1; omega) _)
   simpa [zaD] using hq
  | true =>
   have mv : ∀ Q : V -> H -> Prop, (∀ wp wc wx wl wk h', Ge h3 h' -> h'.WF -> AttFr h' h3.next p.att wp wc wx wl wk -> Q (.agg (zaf (zaQ p 0 0 v.name) wp wc wx wl wk)) h') -> Acalls Tryz.prog 27 [.agg (zaf p vp vc vx vl vk), .int .u64 0, .int .u32 0, .str v.name] h3 Q := fun Q q => by
    have := zkt (A.ge wf gh3) hz (by omega) (rd := 0) (label := 0) (name := v.name) q
    simpa using this
   simp only [zaf] at mv c13
   simp [t2, t3, c13, c03]
   refine mv _ fun wp wc wx wl wk h4 g4 w4 f4 => ?_
   obtain ⟨u1, u2, u3, u4, u5⟩ := f4.one
   have b42 : h4.get (h.next + 1 + 1) = some (.row zaD) := (g4.2 _ (by have := g3.1; omega)).trans b32
   simp only [zaD] at b42
   simp [t4, b42, u1, u2, u3, u4, u5]
   have gh4 := gh3.trans g4
   have hq := q3 huu.symm hm.symm wp wc wx wl wk (h4.set (h.next + 1 + 1) (.row (zaf (zaQ p 0 0 v.name) wp wc wx wl wk))) (gh4.set (by omega) _) (w4.set (by have := gh4.1; have := g3.1; have := g4.1; omega) _) ((f4.keep3 (Nat.le_refl _) ⟨by simp, fun i sz cs hl _ e => by rw [H.get_set, if_neg (by have := g3.1; omega)]; exact e⟩).le (by have := g3.1; omega))
   simpa [zaf] using hq
end Go.Am

namespace Go.Am
open Go.Proofs

set_option maxRecDepth 100000
structure KeyF {α : Type} [DecidableEq α] (kd : KD) (f : α -> V) : Prop where
 plain : (∃ k, kd = .int k) ∨ kd = .str
 ok : ∀ a, zcn kd (f a) = true
 eq : ∀ a b, zgd (f a) (f b) = decide (a = b)
section
variable {α : Type} [DecidableEq α] {kd : KD} {f : α -> V}
end
structure VrsAt (g : Nat -> Option O) (v : V) (l : List Vr) (es : List (List V)) : Prop where
 sls : Sls g 4 v es
 len : es.length = l.length
 at' : ∀ (i : Nat) (x : Vr), l[i]? = some x -> ∃ vi ve, es[i]? = some (vrC x vi ve) ∧ VrAt g x vi ve
theorem VrsAt.ge {a b : H} {v : V} {l : List Vr} {es : List (List V)} (s : VrsAt a.get v l es) (w : a.WF) (g : Ge a b) : VrsAt b.get v l es :=
 ⟨s.sls.ge w g, s.len, fun i x hx => by obtain ⟨vi, ve, e, h⟩ := s.at' i x hx; exact ⟨vi, ve, e, h.ge w g⟩⟩
end Go.Am

namespace Go.Am
open Go.Proofs

set_option maxRecDepth 100000
def cB (x : Nat) : List V := [.int .u8 x]
end Go.Am

namespace Go.Am
open Go.Proofs
set_option maxRecDepth 100000
theorem zjK : zgj (Fr.runF8 Fr.q.tab 1000000 100 16 [] ⟨0, .nil⟩) = true := by kernel_rfl
theorem zme (h : H) : Pure Tryz.prog 16 [] h (.bool true) := zjb Fr.q.tab_ok zjK h
end Go.Am

namespace Go.Am
open Go.Proofs

set_option maxRecDepth 100000
theorem ziw {h : H} {s : List UInt8} (hl : s.length ≤ 9223372036854775807) : Pure Tryz.prog 55 [.str s] h (.bool (zco s)) := by
 refine zak Tryz.func55 S.a38c S.a38e rfl (Nat.le_of_ble_eq_true rfl) fun wf => ?_; simp only [S.a38]
 cases s with
 | nil => simp [zco]
 | cons c r =>
  have i0 : ¬ (r.length : Int) + 1 < 1 := by omega
  by_cases h1 : r.length ≤ 15
  ·have i1 : ¬ (16 : Int) < (r.length : Int) + 1 := by omega
   by_cases h2 : 97 ≤ c.toNat
   ·have i2 : ¬ (c.toNat : Int) < 97 := by omega
    by_cases h3 : c.toNat ≤ 122
    ·have i3 : ¬ (122 : Int) < (c.toNat : Int) := by omega
     have j2 : ¬ c.toNat < 97 := by omega
     have j3 : ¬ 122 < c.toNat := by omega
     simp [i0, i1, i2, i3]
     obtain ⟨s, hs⟩ : ∃ s, s = c :: r := ⟨_, rfl⟩
     have hsl : s.length ≤ 16 := by rw [hs]; simp; omega
     have hn : zco s = s.all fun c => decide (c ∈ csN) := by rw [hs]; simp [zco, h1, h2]
     rw [<- hs]
     refine zap (fun i t h' => (t 0 = .str s ∧ t 3 = .int .i64 (i : Nat)) ∧ h' = h ∧ (s.take i).all (fun c => decide (c ∈ csN)) = true) s.length ⟨by simp, rfl, by simp⟩ ?_
     rintro i t h' hi ⟨⟨t0, t3⟩, rfl, ha⟩ K hK
     by_cases hlt : i < s.length
     ·have hw := zaC hlt (by omega)
      have g1 : s[i]? = some s[i] := List.getElem?_eq_getElem hlt
      obtain ⟨b, hb⟩ : ∃ b : Nat, b = s[i].toNat := ⟨_, rfl⟩
      have hmem := zjC s[i]
      rw [<- hb] at hmem
      have bad : s[i] ∉ csN -> zco s = false := fun hx => by
       rw [hn]
       exact Bool.eq_false_iff.2 fun e => hx (by simpa using List.all_eq_true.1 e s[i] (List.getElem_mem hlt))
      have nxt : s[i] ∈ csN -> (s.take (i + 1)).all (fun c => decide (c ∈ csN)) = true := fun hx => by
       rw [List.take_add_one, g1, List.all_append, ha]
       simp [hx]
      have hr : b < 45 ∨ b = 45 ∨ (46 ≤ b ∧ b ≤ 47) ∨ (48 ≤ b ∧ b ≤ 57) ∨ (58 ≤ b ∧ b ≤ 96) ∨ (97 ≤ b ∧ b ≤ 122) ∨ 123 ≤ b := by omega
      rcases hr with hr | hr | hr | hr | hr | hr | hr
      ·have n1 : ¬ (97 : Int) ≤ (b : Int) := by omega
       have n3 : ¬ (48 : Int) ≤ (b : Int) := by omega
       have n5 : ((b : Int) == 45) = false := beq_eq_false_iff_ne.2 (by omega)
       have hx : s[i] ∉ csN := fun e => by have := hmem.1 e; omega
       simp [t0, t3, hlt, <- hb, n1, n3, n5, bad hx]
      ·have n1 : ¬ (97 : Int) ≤ (b : Int) := by omega
       have n3 : ¬ (48 : Int) ≤ (b : Int) := by omega
       have n5 : ((b : Int) == 45) = true := beq_iff_eq.2 (by omega)
       have hx : s[i] ∈ csN := hmem.2 (by omega)
       simp [t0, t3, hlt, <- hb, n1, n3, n5, hw]
       exact hK _ _ hlt ⟨by simp [t0], rfl, nxt hx⟩
      ·have n1 : ¬ (97 : Int) ≤ (b : Int) := by omega
       have n3 : ¬ (48 : Int) ≤ (b : Int) := by omega
       have n5 : ((b : Int) == 45) = false := beq_eq_false_iff_ne.2 (by omega)
       have hx : s[i] ∉ csN := fun e => by have := hmem.1 e; omega
       simp [t0, t3, hlt, <- hb, n1, n3, n5, bad hx]
      ·have n1 : ¬ (97 : Int) ≤ (b : Int) := by omega
       have n3 : (48 : Int) ≤ (b : Int) := by omega
       have n4 : (b : Int) ≤ 57 := by omega
       have hx : s[i] ∈ csN := hmem.2 (by omega)
       simp [t0, t3, hlt, <- hb, n1, n3, n4, hw]
       exact hK _ _ hlt ⟨by simp [t0], rfl, nxt hx⟩
      ·have n1 : ¬ (97 : Int) ≤ (b : Int) := by omega
       have n3 : (48 : Int) ≤ (b : Int) := by omega
       have n4 : ¬ (b : Int) ≤ 57 := by omega
       have n5 : ((b : Int) == 45) = false := beq_eq_false_iff_ne.2 (by omega)
       have hx : s[i] ∉ csN := fun e => by have := hmem.1 e; omega
       simp [t0, t3, hlt, <- hb, n1, n3, n4, n5, bad hx]
      ·have n1 : (97 : Int) ≤ (b : Int) := by omega
       have n2 : (b : Int) ≤ 122 := by omega
       have hx : s[i] ∈ csN := hmem.2 (by omega)
       simp [t0, t3, hlt, <- hb, n1, n2, hw]
       exact hK _ _ hlt ⟨by simp [t0], rfl, nxt hx⟩
      ·have n1 : (97 : Int) ≤ (b : Int) := by omega
       have n2 : ¬ (b : Int) ≤ 122 := by omega
       have n3 : (48 : Int) ≤ (b : Int) := by omega
       have n4 : ¬ (b : Int) ≤ 57 := by omega
       have n5 : ((b : Int) == 45) = false := beq_eq_false_iff_ne.2 (by omega)
       have hx : s[i] ∉ csN := fun e => by have := hmem.1 e; omega
       simp [t0, t3, hlt, <- hb, n1, n2, n3, n4, n5, bad hx]
     ·have : i = s.length := by omega
      subst this
      rw [List.take_length] at ha
      simp [t0, t3, hn, ha]
    ·have i3 : (122 : Int) < (c.toNat : Int) := by omega
     have j3 : 122 < c.toNat := by omega
     have j2 : ¬ c.toNat < 97 := by omega
     have hn : zco (c :: r) = false := by
      have : c ∉ csN := fun hx => by have := (zjC c).1 hx; omega
      simp [zco, this]
     simp [i0, i1, i2, i3, hn]
   ·have i2 : (c.toNat : Int) < 97 := by omega
    have j2 : c.toNat < 97 := by omega
    simp [i0, i1, h1, h2, i2, zco]
  ·have i1 : (16 : Int) < (r.length : Int) + 1 := by omega
   simp [i0, i1, h1, zco]
theorem zmg {h : H} {v : V} {l : List Nat} (hs : Sls h.get 1 v (l.map cX)) (hl : l.length ≤ 1000) : Pure Tryz.prog 97 [v] h (.bool (adjB oN l && decide (l.length ≤ 64))) := by
 refine zak Tryz.func97 S.a72c S.a72e rfl (Nat.le_of_ble_eq_true rfl) fun wf => ?_; simp only [S.a72]
 have hlen := hs.len
 simp at hlen
 simp
 refine zap (fun i t h' => (t 0 = v ∧ t 3 = .int .i64 ((i + 1 : Nat) : Int)) ∧ h' = h ∧ adjB oN (l.take (i + 1)) = true) l.length ⟨by simp, rfl, by cases l <;> simp [adjB]⟩ ?_
 rintro i t h' hi ⟨⟨t0, t3⟩, rfl, ha⟩ K hK
 obtain ⟨k, hk⟩ : ∃ k, k = i + 1 := ⟨_, rfl⟩
 rw [<- hk] at t3
 by_cases hlt : i + 1 < l.length
 ·have hw : IntKind.i64.wrap (((i + 1 : Nat) : Int) + 1) = ((i + 1 + 1 : Nat) : Int) := by rw [zai (by omega) (by omega)]; omega
  have wm : IntKind.i64.wrap (((i + 1 : Nat) : Int) - 1) = (i : Int) := by rw [zai (by omega) (by omega)]; omega
  have hkl : k < l.length := by omega
  rw [<- hk] at wm hw
  simp [t0, t3, hlen, hkl]
  obtain ⟨p, qq, o, cs, e1, e2, e3⟩ := hs.at1 (f := fun x : Nat => V.int .u64 x) (show i + 1 < l.length by omega)
  obtain ⟨p', qq', o', cs', f1, f2, f3⟩ := hs.at1 (f := fun x : Nat => V.int .u64 x) (show i < l.length by omega)
  have e1' := e1 .i64
  have f1' := f1 .i64
  rw [<- hk] at e1'
  refine zar ?_
  simp [t0, t3, wm, e1', e2, e3, f1', f2, f3]
  by_cases hc : cmpI (l[i] : Nat) (l[i + 1]'(by omega) : Nat) < 0
  ·have hc' : ¬ (l[i + 1]'(by omega)) ≤ l[i] := by
    unfold cmpI at hc
    split at hc
    ·omega
    ·split at hc <;> omega
   simp [hc', t3, hw]
   exact hK _ _ (by omega) ⟨by simp [t0, hk], rfl, zbx (i := i + 1) ha (by omega) (fun _ => hc)⟩
  ·have hc' : (l[i + 1]'(by omega)) ≤ l[i] := by
    unfold cmpI at hc
    split at hc
    ·omega
    ·omega
   have := zbw (c := oN) (i := i + 1) (by omega) hlt hc
   simp [hc', this]
 ·have hkl : ¬ k < l.length := by omega
  rw [List.take_of_length_le (by omega)] at ha
  have z64 : ((l.length : Int) ≤ 64) = (l.length ≤ 64) := propext (by omega)
  simp [t0, t3, hlen, hkl, ha, z64]
theorem zf0 {h : H} {v1 v2 : V} {l m : List Nat} (s1 : Sls h.get 1 v1 (l.map cX)) (s2 : Sls h.get 1 v2 (m.map cX)) : Pure Tryz.prog 13 [v1, v2] h (.bool (decide (l = m))) := by
 refine zak Tryz.func13 S.a8c S.a8e rfl (Nat.le_of_ble_eq_true rfl) fun wf => ?_; simp only [S.a8]
 have l1 := s1.lenG wf (n := l.length) (by simp)
 have l2 := s2.lenG wf (n := m.length) (by simp)
 have hb := s1.bound
 simp only [List.length_map] at hb
 by_cases hl : l.length = m.length
 ·have bl : ((l.length : Int) != (m.length : Int)) = false := by rw [hl]; simp
  simp [l1, l2, bl]
  refine zap (fun i t h' => (t 0 = v1 ∧ t 1 = v2 ∧ t 5 = .int .i64 (i : Nat)) ∧ h' = h ∧ l.take i = m.take i) l.length ⟨by simp, rfl, by simp⟩ ?_
  rintro i t h' hi ⟨⟨t0, t1, t5⟩, rfl, htk⟩ K hK
  by_cases hlt : i < l.length
  ·have hlt2 : i < m.length := by omega
   obtain ⟨p, q, o, cs, a1, pl, a3, a5⟩ := s1.at1G (f := fun x : Nat => V.int .u64 x) wf hlt
   obtain ⟨p', q', o', cs', b1, pl', b3, b5⟩ := s2.at1G (f := fun x : Nat => V.int .u64 x) wf hlt2
   have hw := zaC hlt hb
   have a3' := a3 h' (Ge.refl _)
   have b3' := b3 h' (Ge.refl _)
   simp [t0, t5, l1, hlt]
   refine zar ?_
   by_cases hx : l[i] = m[i]
   ·have eq : ((l[i] : Int) != (m[i] : Int)) = false := by rw [hx]; simp
    simp [t0, t1, t5, a1, a3', a5, b1, b3', b5, eq, hw]
    refine hK _ _ hlt ⟨by simp [t0, t1], rfl, ?_⟩
    rw [List.take_add_one, List.take_add_one, htk, List.getElem?_eq_getElem hlt, List.getElem?_eq_getElem hlt2, hx]
   ·have hne : l ≠ m := fun e => hx (by subst e; rfl)
    have eq : ((l[i] : Int) != (m[i] : Int)) = true := bne_iff_ne.2 (by omega)
    simp [t0, t1, t5, a1, a3', a5, b1, b3', b5, eq, hne]
  ·have hie : i = l.length := by omega
   subst hie
   have he : l = m := by rw [<- List.take_length (l := l), htk, hl, List.take_length]
   simp [t0, t5, l1, he]
 ·have bl : ((l.length : Int) != (m.length : Int)) = true := bne_iff_ne.2 (by omega)
  have hne : l ≠ m := fun e => hl (by rw [e])
  simp [l1, l2, bl, hne]
end Go.Am

namespace Go.Am
open Go.Proofs

set_option maxRecDepth 100000
theorem ziI {h : H} {x : Nat} : Pure Tryz.prog 37 [.int .u64 (x : Nat)] h (.bool (isTg x)) := by
 refine zak Tryz.func37 S.a26c S.a26e rfl (Nat.le_of_ble_eq_true rfl) fun wf => ?_; simp only [S.a26]
 have e : ((x : Int) / 281474976710656 == 2) = isTg x := by unfold isTg; rw [eqI, decide_eq_decide]; omega
 simp [zqo, e]
theorem zmN {h : H} {v : V} {l : List Nat} (hs : Sls h.get 1 v (l.map cX)) (hl : l.length ≤ 1000) : Pure Tryz.prog 56 [v] h (.bool (zcy l)) := by
 refine zak Tryz.func56 S.a39c S.a39e rfl (Nat.le_of_ble_eq_true rfl) fun wf => ?_; simp only [S.a39]
 have hlen := hs.len
 have hb := hs.bound
 simp at hlen hb
 simp
 refine zap (fun i t h' => (t 0 = v ∧ t 3 = .int .i64 (i : Nat)) ∧ h' = h ∧ (l.take i).all isTg = true) l.length ⟨by simp, rfl, by simp⟩ ?_
 rintro i t h' hi ⟨⟨t0, t3⟩, rfl, ha⟩ K hK
 by_cases hlt : i < l.length
 ·obtain ⟨p, qq, o, cs, e1, e2, e3⟩ := hs.at1 (f := fun x : Nat => V.int .u64 x) hlt
  have hw := zaC hlt hb
  simp [t0, t3, hlen, hlt, e1, e2, e3]
  refine ziI _ ?_
  cases hx : isTg l[i] with
  | false =>
   have hr : zcy l = false := by
    unfold zcy
    have : l.all isTg = false := Bool.eq_false_iff.2 fun e => by have := List.all_eq_true.1 e l[i] (List.getElem_mem hlt); rw [hx] at this; cases this
    rw [this, Bool.and_false]
   simp [hr]
  | true =>
   simp [t3, hw]
   refine hK _ _ hlt ⟨by simp [t0], rfl, ?_⟩
   rw [List.take_add_one, List.getElem?_eq_getElem hlt, List.all_append, ha]
   simp [hx]
 ·have hi2 : i = l.length := by omega
  subst hi2
  rw [List.take_length] at ha
  simp [t0, t3, hlen]
  refine zmg hs hl _ ?_
  have hr : zcy l = (adjB oN l && decide (l.length ≤ 64)) := by
   unfold zcy risB
   rw [ha]
   cases adjB oN l <;> simp
  simp [hr]
theorem zky {h : H} {v : Vr} {vi ve : V} (VA : VrAt h.get v vi ve) (ok : VrOk v) : Pure Tryz.prog 30 [.agg (vrC v vi ve)] h (.bool (vrfB v)) := by
 refine zak Tryz.func30 S.a19c S.a19e rfl (Nat.le_of_ble_eq_true rfl) fun wf => ?_; simp only [S.a19]
 have o6 := VA.imp.one
 have o7 := VA.exp.one
 obtain ⟨h2, hh2⟩ : ∃ h2, h2 = h.push (.row (vrC v vi ve)) := ⟨_, rfl⟩
 have g2 : Ge h h2 := by rw [hh2]; exact (Ge.refl _).push _
 have c2 : zad h2.get h.next 4 = some (vrC v vi ve) := by rw [hh2]; simp [vrC]
 have V2 := VA.ge wf g2
 simp only [vrC] at hh2 c2
 simp [vrC, o6, o7]
 rw [<- hh2]
 refine ziw ok.name _ ?_
 have hb : vrfB v = (zco v.name && zcy v.imp && zcy v.exp) := rfl
 cases h1 : zco v.name with
 | false => rw [hb, h1]; simp [g2]
 | true =>
  simp [c2]
  refine zmN V2.imp ok.imp.1 _ ?_
  cases h3 : zcy v.imp with
  | false => rw [hb, h1, h3]; simp [g2]
  | true =>
   simp [c2]
   refine zmN V2.exp ok.exp.1 _ ?_
   rw [hb, h1, h3]
   simp [g2]
theorem zh8 {h : H} {p : Pth} {vp vc vx vl vk : V} (A : AttAt h.get p.att vp vc vx vl vk) (hn : p.src.peer.length ≤ 9223372036854775807) : Pure Tryz.prog 31 [.agg (zaf p vp vc vx vl vk)] h (.bool (zbs p)) := by
 refine zak Tryz.func31 S.a20c S.a20e rfl (Nat.le_of_ble_eq_true rfl) fun wf => ?_; simp only [S.a20]
 obtain ⟨es, P⟩ := A.path
 have o1 := P.sls.one
 have o2 := A.comms.one
 have o3 := A.exts.one
 have o4 := A.larges.one
 have o5 := A.clus.one
 obtain ⟨h2, hh2⟩ : ∃ h2, h2 = h.push (.row (zaf p vp vc vx vl vk)) := ⟨_, rfl⟩
 have g2 : Ge h h2 := by rw [hh2]; exact (Ge.refl _).push _
 have c2 : zad h2.get h.next 29 = some (zaf p vp vc vx vl vk) := by rw [hh2]; simp [zaf]
 have m1 : Pure Tryz.prog 57 [.agg (nlC p.n)] h2 (.bool (mayN p.n)) := zmf
 have m2 := zjj (A.ge wf g2)
 obtain ⟨bn, hbn⟩ : ∃ b, b = mayN p.n := ⟨_, rfl⟩
 obtain ⟨ba, hba⟩ : ∃ b, b = attB p.att := ⟨_, rfl⟩
 have hp : zbs p = (bn && ba && (if p.src.kind = 1 then decide (p.src.peer = []) else decide (2 ≤ p.src.kind) && decide (p.src.kind ≤ 5) && zco p.src.peer)) := by rw [hbn, hba]; rfl
 rw [<- hbn] at m1
 rw [<- hba] at m2
 simp only [nlC] at m1
 simp only [attC] at m2
 simp only [zaf] at hh2 c2
 simp [zaf, o1, o2, o3, o4, o5]
 rw [<- hh2]
 refine m1 _ ?_
 rw [hp]
 have k2 : ∀ z : Int, decide (2 ≤ z) = (decide (1 ≤ z) && !decide (z = 1)) := fun z => by
  rw [Bool.eq_iff_iff]; simp; omega
 cases bn with
 | false => simp [g2]
 | true =>
  simp [c2]
  refine m2 _ ?_
  cases ba with
  | false => simp [g2]
  | true =>
   by_cases k1 : p.src.kind < 1
   ·have k4 : ¬ p.src.kind = 1 := by omega
    have k5 : ¬ 2 ≤ p.src.kind := by omega
    simp [c2, k1, k4, k5, g2]
   ·by_cases k6 : 5 < p.src.kind
    ·have k4 : ¬ p.src.kind = 1 := by omega
     have k5 : ¬ p.src.kind ≤ 5 := by omega
     simp [c2, k1, k4, k5, k6, g2]
    ·by_cases k4 : p.src.kind = 1
     ·simp [c2, k4]
      exact ⟨by cases p.src.peer <;> simp, g2⟩
     ·have k7 : 2 ≤ p.src.kind := by omega
      have k8 : p.src.kind ≤ 5 := by omega
      have b4 : (p.src.kind == 1) = false := beq_eq_false_iff_ne.2 k4
      simp [c2, k1, k4, k6, k7, k8, b4]
      refine ziw hn _ ?_
      simp [g2]
end Go.Am

namespace Go.Am
open Go.Proofs

set_option maxRecDepth 100000
def srcC (s : Src) : List V := [.int .i64 s.kind, .str s.peer, .int .u32 (s.asn : Nat), .int .u32 (s.sid : Nat), .str s.addr, .str s.vrf]
theorem zgh (a b : List UInt8) : eqV .str (.str a) (.str b) = some (decide (a = b)) := by
 have : (a == b) = decide (a = b) := by rw [Bool.eq_iff_iff]; simp
 simp [eqV, this]
theorem zkT (k : IntKind) (a b : Int) : eqV .int (.int k a) (.int k b) = some (decide (a = b)) := by
 have : (a == b) = decide (a = b) := by rw [eqI]
 simp [eqV, this]
theorem zpW (a b : Src) : eqV (.st [(0, 1, false, .int), (1, 1, false, .str), (2, 1, false, .int), (3, 1, false, .int), (4, 1, false, .str), (5, 1, false, .str)]) (.agg (srcC a)) (.agg (srcC b)) = some (decide (a = b)) := by
 show eqFs _ (srcC a) (srcC b) = _
 rw [zbo rfl rfl (zkT _ _ _), zbo rfl rfl (zgh _ _), zbo rfl rfl (zd0 _ _ _), zbo rfl rfl (zd0 _ _ _), zbo rfl rfl (zgh _ _), zbo rfl rfl (zgh _ _), show eqFs [] (srcC a) (srcC b) = some true from rfl]
 obtain ⟨a1, a2, a3, a4, a5, a6⟩ := a
 obtain ⟨b1, b2, b3, b4, b5, b6⟩ := b
 simp only [Src.mk.injEq, decide_eq_true_eq]
 by_cases k1 : a1 = b1 <;> by_cases k2 : a2 = b2 <;> by_cases k3 : a3 = b3 <;> by_cases k4 : a4 = b4 <;> by_cases k5 : a5 = b5 <;> by_cases k6 : a6 = b6 <;> simp [k1, k2, k3, k4, k5, k6]
theorem zgz (a b : Bool) : eqV .bool (.bool a) (.bool b) = some (decide (a = b)) := by cases a <;> cases b <;> rfl
theorem zeX {h : H} {p q : Pth} {vp vc vx vl vk wp wc wx wl wk : V} (A : AttAt h.get p.att vp vc vx vl vk) (B : AttAt h.get q.att wp wc wx wl wk) : Pure Tryz.prog 10 [.agg (zaf p vp vc vx vl vk), .agg (zaf q wp wc wx wl wk)] h (.bool (decide (p = q))) := by
 refine zak Tryz.func10 S.a5c S.a5e rfl (Nat.le_of_ble_eq_true rfl) fun wf => ?_; simp only [S.a5]
 obtain ⟨es, PA⟩ := A.path
 obtain ⟨fs, PB⟩ := B.path
 have o1 := PA.sls.one
 have o2 := A.comms.one
 have o3 := A.exts.one
 have o4 := A.larges.one
 have o5 := A.clus.one
 have p1 := PB.sls.one
 have p2 := B.comms.one
 have p3 := B.exts.one
 have p4 := B.larges.one
 have p5 := B.clus.one
 obtain ⟨h2, hh2⟩ : ∃ h2, h2 = (h.push (.row (zaf p vp vc vx vl vk))).push (.row (zaf q wp wc wx wl wk)) := ⟨_, rfl⟩
 have g2 : Ge h h2 := by rw [hh2]; exact ((Ge.refl _).push _).push _
 have c1 : zad h2.get h.next 29 = some (zaf p vp vc vx vl vk) := by rw [hh2]; simp [zaf]
 have c2 : zad h2.get (h.next + 1) 29 = some (zaf q wp wc wx wl wk) := by rw [hh2]; simp [zaf]
 have m := zkE (A.ge wf g2) (B.ge wf g2)
 have e1 := zrM p.n.p q.n.p
 have e2 := zpW p.src q.src
 have e3 := zgz p.stale q.stale
 have e4 : ((p.n.id : Int) == (q.n.id : Int)) = decide (p.n.id = q.n.id) := by rw [eqI, decide_eq_decide]; omega
 have e5 : ((p.n.label : Int) == (q.n.label : Int)) = decide (p.n.label = q.n.label) := by rw [eqI, decide_eq_decide]; omega
 have hd : decide (p = q) = (decide (p.n.p = q.n.p) && decide (p.n.id = q.n.id) && decide (p.n.label = q.n.label) && decide (p.src = q.src) && decide (p.stale = q.stale) && decide (p.att = q.att)) := by
  obtain ⟨⟨a1, a2, a3⟩, a4, a5, a6⟩ := p
  obtain ⟨⟨b1, b2, b3⟩, b4, b5, b6⟩ := q
  simp only [Pth.mk.injEq, Nl.mk.injEq]
  rw [Bool.eq_iff_iff]
  simp only [decide_eq_true_eq, Bool.and_eq_true]
  constructor
  ·rintro ⟨⟨k1, k2, k3⟩, k4, k5, k6⟩
   exact ⟨⟨⟨⟨⟨k1, k2⟩, k3⟩, k5⟩, k6⟩, k4⟩
  ·rintro ⟨⟨⟨⟨⟨k1, k2⟩, k3⟩, k5⟩, k6⟩, k4⟩
   exact ⟨⟨k1, k2, k3⟩, k4, k5, k6⟩
 obtain ⟨b1, hb1⟩ : ∃ b, b = decide (p.n.p = q.n.p) := ⟨_, rfl⟩
 obtain ⟨b2, hb2⟩ : ∃ b, b = decide (p.n.id = q.n.id) := ⟨_, rfl⟩
 obtain ⟨b3, hb3⟩ : ∃ b, b = decide (p.n.label = q.n.label) := ⟨_, rfl⟩
 obtain ⟨b4, hb4⟩ : ∃ b, b = decide (p.src = q.src) := ⟨_, rfl⟩
 obtain ⟨b5, hb5⟩ : ∃ b, b = decide (p.stale = q.stale) := ⟨_, rfl⟩
 obtain ⟨b6, hb6⟩ : ∃ b, b = decide (p.att = q.att) := ⟨_, rfl⟩
 rw [<- hb1] at e1 hd
 rw [<- hb2] at e4 hd
 rw [<- hb3] at e5 hd
 rw [<- hb4] at e2 hd
 rw [<- hb5] at e3 hd
 rw [<- hb6] at m hd
 rw [hd]
 simp only [pfxC] at e1
 simp only [srcC] at e2
 simp only [attC] at m
 simp only [zaf] at hh2 c1 c2
 have n01 : ¬ h.next = h.next + 1 := by omega
 simp [zaf, o1, o2, o3, o4, o5, p1, p2, p3, p4, p5]
 rw [<- hh2]
 simp [e1]
 cases b1 with
 | false => simp [g2]
 | true =>
  simp [c1, c2, e4]
  cases b2 with
  | false => simp [g2]
  | true =>
   simp [c1, c2, e5]
   cases b3 with
   | false => simp [g2]
   | true =>
    simp [c1, c2, e2]
    cases b4 with
    | false => simp [g2]
    | true =>
     simp [c1, c2, e3]
     cases b5 with
     | false => simp [g2]
     | true =>
      simp [c1, c2]
      refine m _ ?_
      simp [g2]
def cutV (v : Vr) : Vr := ⟨v.name, v.rd, v.imp.take 70, v.exp.take 70⟩
structure VrFr (h : H) (lo : Nat) (v : Vr) (vi ve : V) : Prop where
 imp : Fc h lo 1 vi (v.imp.map cX)
 exp : Fc h lo 1 ve (v.exp.map cX)
theorem znV {h : H} {v : Vr} {vi ve : V} (VA : VrAt h.get v vi ve) (ci : zcc vi) (ce : zcc ve) {Q : V -> H -> Prop} (q : ∀ wi we h', Ge h h' -> h'.WF -> VrFr h' h.next (cutV v) wi we -> Q (.agg (vrC (cutV v) wi we)) h') : Acalls Tryz.prog 6 [.agg (vrC v vi ve)] h Q := by
 refine zam Tryz.func6 S.a1c S.a1e (Nat.le_of_ble_eq_true rfl) fun wf => ?_; simp only [S.a1]
 have o6 := VA.imp.one
 have o7 := VA.exp.one
 obtain ⟨h2, hh2⟩ : ∃ h2, h2 = (h.push (.row (vrC v vi ve))).push (.row [.str [], .int .u64 0, .nilsl, .nilsl]) := ⟨_, rfl⟩
 have g2 : Ge h h2 := by rw [hh2]; exact ((Ge.refl _).push _).push _
 have w2 : h2.WF := by rw [hh2]; exact (wf.push _).push _
 have n2 : h2.next = h.next + 2 := by rw [hh2]; simp
 have x1 : h2.get h.next = some (.row (vrC v vi ve)) := by rw [hh2]; simp
 have x2 : h2.get (h.next + 1) = some (.row [.str [], .int .u64 0, .nilsl, .nilsl]) := by rw [hh2]; simp
 have V2 := VA.ge wf g2
 have l1 := V2.imp.lenG w2 (n := v.imp.length) (by simp)
 obtain ⟨vi', k1, e1, s1, t1, _⟩ := zm2 70 V2.imp ci
 replace e1 : (if (70 : Int) < (v.imp.length : Int) then (70 : Int) else (v.imp.length : Int)) = (k1 : Int) := e1
 obtain ⟨u1, d1, a1, gl1, ge1, wd1⟩ := zhW (bytes := 8) t1 (zcM _) (by decide) (by simp; omega)
 have r1 : (h2.app d1).get h.next = some (.row (vrC v vi ve)) := (ge1.2 _ (by omega)).trans x1
 obtain ⟨h3, hh3⟩ : ∃ h3, h3 = (h2.app d1).set h.next (.row [.str v.name, .int .u64 (v.rd : Nat), u1, ve]) := ⟨_, rfl⟩
 have p1 := gl1.one
 have nn1 := ge1.1
 have g3 : Ge h h3 := by rw [hh3]; exact (g2.trans ge1).set (by omega) _
 have w3 : h3.WF := by rw [hh3]; exact (wd1 w2).set (by omega) _
 have m3 : h3.next = (h2.app d1).next := by rw [hh3]; simp
 have x3 : h3.get h.next = some (.row [.str v.name, .int .u64 (v.rd : Nat), u1, ve]) := by rw [hh3]; simp
 have y3 : h3.get (h.next + 1) = some (.row [.str [], .int .u64 0, .nilsl, .nilsl]) := by rw [hh3, H.get_set, if_neg (by omega), ge1.2 _ (by omega)]; exact x2
 have V3 := VA.ge wf g3
 have l2 := V3.exp.lenG w3 (n := v.exp.length) (by simp)
 obtain ⟨ve', k2, e2, s2, t2, _⟩ := zm2 70 V3.exp ce
 replace e2 : (if (70 : Int) < (v.exp.length : Int) then (70 : Int) else (v.exp.length : Int)) = (k2 : Int) := e2
 obtain ⟨u2, d2, a2, gl2, ge2, wd2⟩ := zhW (bytes := 8) t2 (zcM _) (by decide) (by simp; omega)
 have r2 : (h3.app d2).get h.next = some (.row [.str v.name, .int .u64 (v.rd : Nat), u1, ve]) := (ge2.2 _ (by omega)).trans x3
 obtain ⟨h4, hh4⟩ : ∃ h4, h4 = (h3.app d2).set h.next (.row [.str v.name, .int .u64 (v.rd : Nat), u1, u2]) := ⟨_, rfl⟩
 have p2 := gl2.one
 have nn2 := ge2.1
 have x4 : h4.get h.next = some (.row [.str v.name, .int .u64 (v.rd : Nat), u1, u2]) := by rw [hh4]; simp
 have y4 : (h3.app d2).get (h.next + 1) = some (.row [.str [], .int .u64 0, .nilsl, .nilsl]) := by rw [ge2.2 _ (by omega)]; exact y3
 have c2 : zad h2.get h.next 4 = some (vrC v vi ve) := (zae (n := 4) x1 rfl).trans rfl
 have c3 : zad h3.get h.next 4 = some [.str v.name, .int .u64 (v.rd : Nat), u1, ve] := (zae (n := 4) x3 rfl).trans rfl
 have c4 : zad h4.get h.next 4 = some [.str v.name, .int .u64 (v.rd : Nat), u1, u2] := (zae (n := 4) x4 rfl).trans rfl
 have n01 : ¬ h.next = h.next + 1 := by omega
 simp only [vrC] at hh2 c2 r1
 simp [vrC, o6, o7]
 rw [<- hh2]
 simp [l1, e1, s1, a1, r1, zaz p1, zaA p1]
 rw [<- hh3]
 simp [l2, e2, s2, a2, r2, zaz p2, zaA p2]
 rw [<- hh4]
 simp [y4, p1, p2]
 obtain ⟨hF, hhF⟩ : ∃ hF, hF = h4.set (h.next + 1) (.row [.str v.name, .int .u64 (v.rd : Nat), u1, u2]) := ⟨_, rfl⟩
 have m4 : h4.next = (h3.app d2).next := by rw [hh4]; simp
 have g4 : Ge h h4 := by rw [hh4]; exact (g3.trans ge2).set (by omega) _
 have gF : Ge h hF := by rw [hhF]; exact g4.set (by omega) _
 have w4 : h4.WF := by rw [hh4]; exact (wd2 w3).set (by omega) _
 have wF : hF.WF := by rw [hhF]; exact w4.set (by omega) _
 have nF : hF.next = h4.next := by rw [hhF]; simp
 have kF : ∀ x, h.next + 2 ≤ x -> hF.get x = (h3.app d2).get x := fun x hx => by rw [hhF, H.get_set, if_neg (by omega), hh4, H.get_set, if_neg (by omega)]
 rw [<- hhF]
 refine q u1 u2 hF gF wF ⟨?_, ?_⟩
 ·refine (gl1.fr.keep (by omega) fun i hi hl => ?_).le (by omega)
  have := gl1.lo i hi
  rw [kF i (by omega), ge2.2 i (by omega), hh3, H.get_set, if_neg (by omega)]
 ·refine (gl2.fr.keep (by omega) fun i hi hl => ?_).le (by omega)
  have := gl2.lo i hi
  exact kF i (by omega)
theorem zk6 {h : H} {p : Pth} {vp vc vx vl vk : V} (A : AttAt h.get p.att vp vc vx vl vk) (z : AttSz p.att) {Q : V -> H -> Prop}
  (q : ∀ wp wc wx wl wk h', Ge h h' -> h'.WF -> AttFr h' h.next p.att wp wc wx wl wk -> Q (.agg (zaf p wp wc wx wl wk)) h') : Acalls Tryz.prog 7 [.agg (zaf p vp vc vx vl vk)] h Q := by
 refine zam Tryz.func7 S.a2c S.a2e (Nat.le_of_ble_eq_true rfl) fun wf => ?_; simp only [S.a2]
 obtain ⟨es, P⟩ := A.path
 have o1 := P.sls.one
 have o2 := A.comms.one
 have o3 := A.exts.one
 have o4 := A.larges.one
 have o5 := A.clus.one
 obtain ⟨h2, hh2⟩ : ∃ h2, h2 = (h.push (.row (zaf p vp vc vx vl vk))).push (.row zaD) := ⟨_, rfl⟩
 have g2 : Ge h h2 := by rw [hh2]; exact ((Ge.refl _).push _).push _
 have w2 : h2.WF := by rw [hh2]; exact (wf.push _).push _
 have n2 : h2.next = h.next + 2 := by rw [hh2]; simp
 have x1 : h2.get h.next = some (.row (zaf p vp vc vx vl vk)) := by rw [hh2]; simp
 have x2 : h2.get (h.next + 1) = some (.row zaD) := by rw [hh2]; simp
 have A2 := A.ge wf g2
 have n01 : ¬ h.next = h.next + 1 := by omega
 have ow : ∀ Q : V -> H -> Prop, (∀ wp wc wx wl wk h', Ge h2 h' -> h'.WF -> AttFr h' h2.next p.att wp wc wx wl wk -> Q (.agg (attC p.att wp wc wx wl wk)) h') -> Acalls Tryz.prog 24 [.agg (attC p.att vp vc vx vl vk)] h2 Q := fun Q q => zfg A2 z q
 simp only [zaf, zaD] at hh2
 simp only [attC] at ow
 simp [zaf, o1, o2, o3, o4, o5]
 rw [<- hh2]
 refine ow _ fun wp wc wx wl wk h3 g3 w3 F3 => ?_
 obtain ⟨f1, f2, f3, f4, f5⟩ := F3.one
 have nn3 := g3.1
 have x3 : h3.get h.next = some (.row (zaf p vp vc vx vl vk)) := (g3.2 _ (by omega)).trans x1
 have y3 : h3.get (h.next + 1) = some (.row zaD) := (g3.2 _ (by omega)).trans x2
 obtain ⟨h4, hh4⟩ : ∃ h4, h4 = h3.set h.next (.row (zaf p wp wc wx wl wk)) := ⟨_, rfl⟩
 have c4 : zad h4.get h.next 29 = some (zaf p wp wc wx wl wk) := (zae (n := 29) (show h4.get h.next = some (.row (zaf p wp wc wx wl wk)) by rw [hh4]; simp) rfl).trans rfl
 simp only [zaf, zaD] at hh4 x3 y3 c4
 simp [x3, f1, f2, f3, f4, f5]
 rw [<- hh4]
 simp [y3]
 obtain ⟨hF, hhF⟩ : ∃ hF, hF = h4.set (h.next + 1) (.row (zaf p wp wc wx wl wk)) := ⟨_, rfl⟩
 have g4 : Ge h h4 := by rw [hh4]; exact (g2.trans g3).set (by omega) _
 have n4 : h4.next = h3.next := by rw [hh4]; simp
 have gF : Ge h hF := by rw [hhF]; exact g4.set (by omega) _
 have w4 : h4.WF := by rw [hh4]; exact w3.set (by omega) _
 have wF : hF.WF := by rw [hhF]; exact w4.set (by omega) _
 have kF : ∀ x, h.next + 2 ≤ x -> hF.get x = h3.get x := fun x hx => by rw [hhF, H.get_set, if_neg (by omega), hh4, H.get_set, if_neg (by omega)]
 have nF : hF.next = h3.next := by rw [hhF]; simp; omega
 have K : Keep3 h3 hF (h.next + 2) := ⟨by omega, fun i sz cs hi _ e => by rw [kF i hi]; exact e⟩
 simp only [zaf] at hhF
 rw [<- hhF]
 exact q wp wc wx wl wk hF gF wF ((F3.keep3 (by omega) K).le (by omega))
end Go.Am

namespace Go.Am
open Go.Proofs

set_option maxRecDepth 100000
theorem zfe {h : H} {a : Att} {vp vc vx vl vk : V} (A : AttAt h.get a vp vc vx vl vk) (hl : a.exts.length * 8 ≤ 140737488355328) {Q : V -> H -> Prop} (q : ∀ w h', Ge h h' -> h'.WF -> Gl h' h.next 1 w ((a.exts.filter isTg).map cX) -> Q w h') : Acalls Tryz.prog 15 [.agg (attC a vp vc vx vl vk)] h Q := by
 refine zam Tryz.func15 S.a10c S.a10e (Nat.le_of_ble_eq_true rfl) fun wf => ?_; simp only [S.a10]
 obtain ⟨es, P⟩ := A.path
 have o1 := P.sls.one
 have o2 := A.comms.one
 have o3 := A.exts.one
 have o4 := A.larges.one
 have o5 := A.clus.one
 obtain ⟨h2, hh2⟩ : ∃ h2, h2 = h.push (.row (attC a vp vc vx vl vk)) := ⟨_, rfl⟩
 have g2 : Ge h h2 := by rw [hh2]; exact (Ge.refl _).push _
 have w2 : h2.WF := by rw [hh2]; exact wf.push _
 have n2 : h2.next = h.next + 1 := by rw [hh2]; simp
 have cB : ∀ g, Ge h2 g -> zad g.get h.next 16 = some (attC a vp vc vx vl vk) := fun g gg => by
  rw [gg.cells (by omega)]
  exact (zae (n := 16) (show h2.get h.next = some (.row (attC a vp vc vx vl vk)) by rw [hh2]; simp) rfl).trans rfl
 have hb := A.exts.bound
 simp at hb
 simp only [attC] at hh2 cB
 simp [attC, o1, o2, o3, o4, o5]
 rw [<- hh2]
 refine zap (fun i t h' => ∃ w, (t 1 = .ptr h.next 16 0 ∧ t 3 = w ∧ t 4 = .int .i64 (i : Nat)) ∧ (Ge h2 h' ∧ h'.WF) ∧ Gl h' h2.next 1 w (((a.exts.take i).filter isTg).map cX)) a.exts.length ⟨.nilsl, by simp, ⟨Ge.refl _, w2⟩, by simpa using Gl.nil h2 h2.next 1⟩ ?_
 rintro i t h' hi ⟨w, ⟨t1, t3, t4⟩, ⟨gb, wb⟩, gl⟩ K hK
 have hlen := (A.exts.ge wf (g2.trans gb)).len
 simp at hlen
 by_cases hlt : i < a.exts.length
 ·obtain ⟨p, qq, o, cs, e1, e2, e3⟩ := (A.exts.ge wf (g2.trans gb)).at1 (f := fun x : Nat => V.int .u64 x) hlt
  have hw := zaC hlt hb
  simp [t1, t4, cB h' gb, hlen, hlt, e1, e2, e3]
  refine ziI _ ?_
  have hfl : (a.exts.take (i + 1)).filter isTg = (a.exts.take i).filter isTg ++ if isTg a.exts[i] = true then [a.exts[i]] else [] := by
   rw [List.take_add_one, List.getElem?_eq_getElem hlt, List.filter_append]
   simp only [Option.toList_some, List.filter_cons, List.filter_nil]
  cases hx : isTg a.exts[i] with
  | false =>
   simp [t4, hw]
   refine hK _ _ hlt ⟨w, by simp [t1, t3], ⟨gb, wb⟩, ?_⟩
   rw [hfl, hx]; simpa using gl
  | true =>
   have hll : ((a.exts.take i).filter isTg).length ≤ i := by have := List.length_filter_le isTg (a.exts.take i); simp at this; omega
   obtain ⟨v', d, ea, gl2, n3, k3, w3, _⟩ := zdZ (bytes := 8) (cX a.exts[i]) gl (by have := gb.1; omega) (za0 _) rfl rfl (by decide) (by simp; omega) (by simp; omega)
   obtain ⟨h3, hh3⟩ : ∃ h3, h3 = (h'.push (.row (cX a.exts[i]))).app d := ⟨_, rfl⟩
   rw [<- hh3] at gl2 n3 k3 w3
   simp only [cX] at ea hh3
   simp [t1, t3, t4, cB h' gb, e1, e2, e3, ea, <- hh3, hw]
   refine hK _ _ hlt ⟨v', by simp [t1], ⟨⟨by have := gb.1; omega, fun x hx => ?_⟩, w3 wb⟩, ?_⟩
   ·rw [k3 x (fun hv => by have := (gl.lo x hv).1; omega) (by have := gb.1; omega)]; exact gb.2 x hx
   ·rw [hfl, hx]; simpa using gl2
 ·have hi2 : i = a.exts.length := by omega
  subst hi2
  rw [List.take_length] at gl
  simp [t1, t3, t4, cB h' gb, hlen]
  refine q w h' (g2.trans gb) wb ?_
  rcases gl with h1 | ⟨h1, j, h3, h4⟩
  ·exact .inl h1
  ·exact .inr ⟨h1, j, by omega, h4⟩
theorem zly {h : H} {v w : V} {l m : List Nat} (hs : Sls h.get 1 v (l.map cX)) (hw : Sls h.get 1 w (m.map cX)) : Pure Tryz.prog 35 [v, w] h (.bool (l.any fun x => decide (x ∈ m))) := by
 refine zak Tryz.func35 S.a24c S.a24e rfl (Nat.le_of_ble_eq_true rfl) fun wf => ?_; simp only [S.a24]
 have l1 := hs.len
 have b1 := hs.bound
 have l2 := hw.len
 have b2 := hw.bound
 simp at l1 b1 l2 b2
 simp
 refine zap (fun i t h' => (t 0 = v ∧ t 1 = w ∧ t 5 = .int .i64 (i : Nat)) ∧ h' = h ∧ (l.take i).any (fun x => decide (x ∈ m)) = false) l.length ⟨by simp, rfl, by simp⟩ ?_
 rintro i t h' hi ⟨⟨t0, t1, t5⟩, rfl, ha⟩ K hK
 by_cases hlt : i < l.length
 ·obtain ⟨p, qq, o, cs, e1, e2, e3⟩ := hs.at1 (f := fun x : Nat => V.int .u64 x) hlt
  have hwi := zaC hlt b1
  simp [t0, t5, l1, hlt]
  refine zap (fun j t2 h2 => (t2 0 = v ∧ t2 1 = w ∧ t2 5 = .int .i64 (i : Nat) ∧ t2 6 = .int .i64 (j : Nat)) ∧ h2 = h' ∧ l[i] ∉ m.take j) m.length ⟨by simp [t0, t1, t5], rfl, by simp⟩ ?_
  clear t0 t1 t5 t
  rintro j t h2 hj ⟨⟨t0, t1, t5, t6⟩, rfl, hn⟩ K2 hK2
  by_cases hlt2 : j < m.length
  ·obtain ⟨p', qq', o', cs', f1, f2, f3⟩ := hw.at1 (f := fun x : Nat => V.int .u64 x) hlt2
   have hwj := zaC hlt2 b2
   simp [t1, t6, l2, hlt2]
   refine zar ?_
   by_cases hx : l[i] = m[j]
   ·have eq : ((l[i] : Int) == (m[j] : Int)) = true := by rw [hx]; simp
    have hy : (l.any fun x => decide (x ∈ m)) = true := List.any_eq_true.2 ⟨l[i], List.getElem_mem hlt, by rw [hx]; simp⟩
    simp [t0, t1, t5, t6, e1, e2, e3, f1, f2, f3, eq, hy]
   ·have eq : ((l[i] : Int) == (m[j] : Int)) = false := beq_eq_false_iff_ne.2 (by omega)
    simp [t0, t1, t5, t6, e1, e2, e3, f1, f2, f3, eq, hwj]
    refine hK2 _ _ hlt2 ⟨by simp [t0, t1, t5], rfl, ?_⟩
    rw [List.take_add_one, List.getElem?_eq_getElem hlt2, List.mem_append]
    rintro (k | k)
    ·exact hn k
    ·simp at k; exact hx k
  ·have hj2 : j = m.length := by omega
   subst hj2
   rw [List.take_length] at hn
   simp [t1, t6, l2, t5, hwi]
   refine hK _ _ hlt ⟨by simp [t0, t1], rfl, ?_⟩
   rw [List.take_add_one, List.getElem?_eq_getElem hlt, List.any_append, ha]
   simp [hn]
 ·have hi2 : i = l.length := by omega
  subst hi2
  rw [List.take_length] at ha
  simp [t0, t5, l1, ha]
end Go.Am

namespace Go.Am
open Go.Proofs

set_option maxRecDepth 100000
theorem zg9 {body : (Exit -> Tm -> H -> Prop) -> Tm -> H -> Prop} {Q : Exit -> Tm -> H -> Prop} {t : Tm} {h : H} {id : Nat} (J : Tm -> H -> Prop) (ha : ∀ R : Exit -> Tm -> H -> Prop, (∀ t' h', J t' h' -> R .normal t' h') -> zfb body (zcs id R) t h) (k : ∀ t' h', J t' h' -> Q .normal t' h') : zfb body (zcs id Q) t h := ha Q k
theorem zlB {h : H} {lo : Nat} {v : V} {l : List Nat} {c : Nat} (f : Fc h lo 1 v (l.map cX)) (hlo : lo ≤ h.next) (hl : l.length ≤ 1000000) {Q : V -> H -> Prop}
  (q : ∀ v' h', Ge h h' -> h'.WF -> Fc h' lo 1 v' ((putL oN l c).map cX) -> Q v' h') : Acalls Tryz.prog 32 [v, .int .u64 (c : Nat)] h Q := by
 refine zam Tryz.func32 S.a21c S.a21e (Nat.le_of_ble_eq_true rfl) fun wf => ?_; simp only [S.a21]
 have hs : Sls h.get 1 v (l.map cX) := f.sls (za0 _) (by simp; omega)
 have hc : zcc v := f.cap
 have hlen := hs.lenG wf (n := l.length) (by simp)
 simp [hlen]
 refine zg9 (id := 0) (fun t h' => (t 0 = v ∧ t 1 = .int .u64 (c : Nat) ∧ t 5 = .int .i64 ((spot oN c l l.length : Nat) : Int)) ∧ h' = h) (fun R hR => ?_) ?_
 ·refine zap (fun i t h' => (t 0 = v ∧ t 1 = .int .u64 (c : Nat) ∧ t 5 = .int .i64 ((l.length - i : Nat) : Int)) ∧ h' = h ∧ i ≤ l.length ∧ spot oN c l l.length = spot oN c l (l.length - i)) l.length ⟨by simp, rfl, by omega, rfl⟩ ?_
  rintro i t h' hi ⟨⟨t0, t1, t5⟩, rfl, hil, hsp⟩ K hK
  obtain ⟨k, hk⟩ : ∃ k, k = l.length - i := ⟨_, rfl⟩
  rw [<- hk] at t5 hsp
  by_cases h0 : 0 < k
  ·have h0' : (0 : Int) < (k : Int) := by omega
   have hkl : k - 1 < l.length := by omega
   have w1' : IntKind.i64.wrap ((k : Int) - 1) = ((k - 1 : Nat) : Int) := by rw [zai (by omega) (by omega)]; omega
   obtain ⟨p, qq, o, cs, e1, pl, e2, e3⟩ := hs.at1G (f := fun x : Nat => V.int .u64 x) wf hkl
   have e2' := e2 h' (Ge.refl _)
   have sp : spot oN c l k = if oN c l[k - 1] < 0 then spot oN c l (k - 1) else k := by
    obtain ⟨m, rfl⟩ : ∃ m, k = m + 1 := ⟨k - 1, by omega⟩
    rw [spot, show l[m]? = some l[m] from List.getElem?_eq_getElem (by omega)]
    simp
   have hcm : oN c l[k - 1] < 0 ↔ c < l[k - 1] := zem _ _
   by_cases hlt : c < l[k - 1]
   ·simp [t0, t1, t5, h0, w1', e1, e2', e3, hlt]
    refine hK _ _ (by omega) ⟨by simp [t0, t1]; omega, rfl, by omega, ?_⟩
    rw [hsp, sp, if_pos (hcm.2 hlt)]; congr 1; omega
   ·simp [t0, t1, t5, h0, w1', e1, e2', e3, hlt]
    refine hR _ _ ⟨by simp [t0, t1, t5, hsp, sp, mt hcm.1 hlt], rfl⟩
  ·have k0 : k = 0 := by omega
   subst k0
   simp [t5]
   refine hR _ _ ⟨by simp [t0, t1, t5, hsp, spot], rfl⟩
 rintro t h' ⟨⟨t0, t1, t5⟩, rfl⟩
 obtain ⟨k, hk⟩ : ∃ k, k = spot oN c l l.length := ⟨_, rfl⟩
 have hkl := zhx (c := oN) c l l.length
 rw [<- hk] at t5 hkl
 have hput : putL oN l c = if 0 < k ∧ l[k - 1]? = some c then l else l.take k ++ c :: l.drop k := by unfold putL; rw [<- hk]
 simp [t5]
 refine zaU (fun t' g => (t' 0 = v ∧ t' 1 = .int .u64 (c : Nat) ∧ t' 5 = .int .i64 (k : Nat) ∧ t' 32 = .bool (decide (0 < k ∧ l[k - 1]? = some c))) ∧ g = h') (fun K' hK' => ?_) ?_
 ·by_cases h0 : 0 < k
  ·have hkl1 : k - 1 < l.length := by omega
   have w1' : IntKind.i64.wrap ((k : Int) - 1) = ((k - 1 : Nat) : Int) := by rw [zai (by omega) (by omega)]; omega
   obtain ⟨p, qq, o, cs, e1, pl, e2, e3⟩ := hs.at1G (f := fun x : Nat => V.int .u64 x) wf hkl1
   have e2' := e2 h' (Ge.refl _)
   have hg : l[k - 1]? = some l[k - 1] := List.getElem?_eq_getElem hkl1
   have hd : decide (0 < k ∧ l[k - 1]? = some c) = decide (l[k - 1] = c) := by rw [hg]; simp [h0]
   have eq : ((l[k - 1] : Int) == (c : Int)) = decide (l[k - 1] = c) := by rw [eqI, decide_eq_decide]; omega
   simp [t0, t1, t5, h0, w1', e1, e2', e3, eq]
   exact hK' _ _ ⟨by simp [t0, t1, t5, hd], rfl⟩
  ·have k0 : k = 0 := by omega
   have hd : decide (0 < k ∧ l[k - 1]? = some c) = false := by simp [k0]
   have h0' : decide (0 < k) = false := decide_eq_false h0
   simp [h0']
   exact hK' _ _ ⟨by simp [t0, t1, t5, k0], rfl⟩
 rintro t2 g ⟨⟨u0, u1, u5, u32⟩, rfl⟩
 simp [u32]
 by_cases hp : 0 < k ∧ l[k - 1]? = some c
 ·rw [if_pos hp] at hput
  simp [hp, u0]
  exact q _ _ (Ge.refl _) wf (by rw [hput]; exact f)
 ·have hd : decide (0 < k ∧ l[k - 1]? = some c) = false := decide_eq_false hp
  rw [if_neg hp] at hput
  have hd2 : (decide (0 < k) && decide (l[k - 1]? = some c)) = false := by simpa using hp
  simp only [hd2]
  obtain ⟨va, ea, sa, _⟩ := hs.take hc (k := k) (by simpa using hkl) .i64
  rw [<- List.map_take] at sa
  obtain ⟨v1, d1, x1, gl1, ge1, y1⟩ := zhW (bytes := 8) sa (zcM _) (by decide) (by simp; omega)
  simp [u0, u5, ea, x1]
  obtain ⟨h2, hh2⟩ : ∃ h2, h2 = g.app d1 := ⟨_, rfl⟩
  rw [<- hh2] at gl1 ge1 y1 ⊢
  have w2 := y1 wf
  obtain ⟨v2, d2, x2, gl2, m2, k2, y2, _⟩ := zdZ (bytes := 8) (cX c) gl1 ge1.1 (za0 _) rfl rfl (by decide) (by simp; omega) (by simp; omega)
  obtain ⟨h4, hh4⟩ : ∃ h4, h4 = (h2.push (.row (cX c))).app d2 := ⟨_, rfl⟩
  rw [<- hh4] at gl2 m2 k2 y2
  simp only [cX] at x2 hh4
  simp [u1, x2, <- hh4]
  have ge4 : Ge g h4 := ⟨by have := ge1.1; omega, fun i hi => by
   rw [k2 i (fun hm => by have := (gl1.lo i hm).1; omega) (by have := ge1.1; omega), ge1.2 i hi]⟩
  have w4 := y2 w2
  obtain ⟨vb, eb, sb, _⟩ := (hs.ge wf ge4).drop hc (k := k) (by simpa using hkl) .i64
  rw [<- List.map_drop] at sb
  rw [show (l.take k).map cX ++ [cX c] = (l.take k ++ [c]).map cX by simp] at gl2
  obtain ⟨v3, d3, x3, gl3, m3, k3, y3, _⟩ := gl2.appends (bytes := 8) (by have := ge4.1; omega) (za0 _) sb (zcM _) (by decide) (by simp; omega) (by simp; omega)
  simp [u0, u5, eb, x3]
  obtain ⟨h5, hh5⟩ : ∃ h5, h5 = h4.app d3 := ⟨_, rfl⟩
  rw [<- hh5] at gl3 m3 k3 y3 ⊢
  have ge5 : Ge g h5 := ⟨by have := ge4.1; omega, fun i hi => by
   rw [k3 i (fun hm => by have := (gl2.lo i hm).1; omega) (by have := ge4.1; omega), ge4.2 i hi]⟩
  rw [show (l.take k ++ [c]).map cX ++ (l.drop k).map cX = (putL oN l c).map cX by rw [hput]; simp] at gl3
  exact q _ _ ge5 (y3 w4) (gl3.fr.le hlo)
end Go.Am

namespace Go.Am
open Go.Proofs

set_option maxRecDepth 100000
theorem zlZ {l : List Nat} (h : Rise oN l) : zgC oN l = l := zfW zgN (zb2 zgN znD l [] List.Pairwise.nil).1 h fun x => by
 have := (zb2 zgN znD l [] List.Pairwise.nil).2 x
 unfold zgC
 simpa using this
theorem zik {v : Vr} {p : Pth} (h : Rise oN p.att.exts) : upX v p = v.exp.foldl (putL oN) p.att.exts := by
 have := zlZ h
 unfold zgC at this
 unfold upX zgC
 rw [List.foldl_append, this]
theorem zp6 {h : H} {v : Vr} {vi ve : V} {p : Pth} {vp vc vx vl vk : V} (VA : VrAt h.get v vi ve) (ok : VrOk v) (A : AttAt h.get p.att vp vc vx vl vk) (hn : p.src.peer.length ≤ 9223372036854775807) {label : Nat} {Q : V -> H -> Prop}
  (q1 : upOk v p label = false -> ∀ h', Ge h h' -> h'.WF -> Q (.tup [.agg zaD, .int .i64 2]) h')
  (q2 : upOk v p label = true -> 64 < (upX v p).length -> ∀ h', Ge h h' -> h'.WF -> Q (.tup [.agg zaD, .int .i64 7]) h')
  (q3 : upOk v p label = true -> (upX v p).length ≤ 64 -> ∀ wp wc wx wl wk h', Ge h h' -> h'.WF -> AttAt h'.get (upP v p label).att wp wc wx wl wk -> Q (.tup [.agg (zaf (upP v p label) wp wc wx wl wk), .int .i64 0]) h') :
  Acalls Tryz.prog 9 [.agg (vrC v vi ve), .agg (zaf p vp vc vx vl vk), .int .u32 (label : Nat)] h Q := by
 refine zam Tryz.func9 S.a4c S.a4e (Nat.le_of_ble_eq_true rfl) fun wf => ?_; simp only [S.a4]
 obtain ⟨es, P⟩ := A.path
 have o1 := P.sls.one
 have o2 := A.comms.one
 have o3 := A.exts.one
 have o4 := A.larges.one
 have o5 := A.clus.one
 have o6 := VA.imp.one
 have o7 := VA.exp.one
 obtain ⟨h2, hh2⟩ : ∃ h2, h2 = ((h.push (.row (vrC v vi ve))).push (.row (zaf p vp vc vx vl vk))).push (.row zaD) := ⟨_, rfl⟩
 have g2 : Ge h h2 := by rw [hh2]; exact (((Ge.refl _).push _).push _).push _
 have w2 : h2.WF := by rw [hh2]; exact ((wf.push _).push _).push _
 have n2 : h2.next = h.next + 3 := by rw [hh2]; simp
 have b0 : h2.get h.next = some (.row (vrC v vi ve)) := by rw [hh2]; simp [show ¬ h.next = h.next + 1 + 1 by omega]
 have b1 : h2.get (h.next + 1) = some (.row (zaf p vp vc vx vl vk)) := by rw [hh2]; simp
 have b2 : h2.get (h.next + 2) = some (.row zaD) := by rw [hh2]; simp
 have A2 := A.ge wf g2
 have V2 := VA.ge wf g2
 have vc1 := zky V2 ok
 have mc1 := zh8 A2 hn
 have c0 : zad h2.get h.next 4 = some (vrC v vi ve) := (zae (n := 4) b0 rfl).trans rfl
 have c1 : zad h2.get (h.next + 1) 29 = some (zaf p vp vc vx vl vk) := (zae (n := 29) b1 rfl).trans rfl
 have n01 : ¬ h.next = h.next + 1 := by omega
 have n02 : ¬ h.next = h.next + 1 + 1 := by omega
 have n12 : ¬ h.next + 1 = h.next + 1 + 1 := by omega
 simp only [vrC] at vc1 c0
 simp only [zaf] at mc1 c1
 simp only [vrC, zaf, zaD] at hh2
 simp [vrC, zaf, o1, o2, o3, o4, o5, o6, o7, n02]
 rw [<- hh2]
 refine vc1 _ ?_
 obtain ⟨bv, hbv⟩ : ∃ b, b = vrfB v := ⟨_, rfl⟩
 obtain ⟨bm, hbm⟩ : ∃ b, b = zbs p := ⟨_, rfl⟩
 have hu : upOk v p label = (bv && bm && (decide (p.n.p.fam = 1) || decide (p.n.p.fam = 2)) && decide (16 ≤ label) && decide (label ≤ 1048575)) := by rw [hbv, hbm]; rfl
 obtain ⟨u, huu⟩ : ∃ u, u = upOk v p label := ⟨_, rfl⟩
 rw [<- hbv]
 rw [<- hbm] at mc1
 simp
 refine zaU (fun t' h' => (t' 2 = .int .u32 (label : Nat) ∧ t' 3 = .ptr h.next 4 0 ∧ t' 4 = .ptr (h.next + 1) 29 0 ∧ t' 6 = .ptr (h.next + 1 + 1) 29 0 ∧ t' 37 = .bool (!u)) ∧ h' = h2) (fun K' hK' => ?_) ?_
 ·rw [huu, hu] at hK'
  cases bv <;> simp only [Bool.false_and, Bool.true_and, Bool.not_false] at hK' <;> simp [c1] <;> (try (exact hK' _ _ ⟨by simp, rfl⟩))
  refine mc1 _ ?_
  cases bm <;> simp only [Bool.false_and, Bool.true_and, Bool.not_false] at hK' <;> simp [c1, neI] <;> (try (exact hK' _ _ ⟨by simp, rfl⟩))
  by_cases k1 : p.n.p.fam = 1 ∨ p.n.p.fam = 2
  ·have e1 : (decide (p.n.p.fam = 1) || decide (p.n.p.fam = 2)) = true := by simpa using k1
   rw [e1] at hK'
   have e2 : decide ((label : Int) < 16) = !decide (16 ≤ label) := by by_cases e : 16 ≤ label <;> simp [e] <;> omega
   have e3 : decide ((1048575 : Int) < (label : Int)) = !decide (label ≤ 1048575) := by by_cases e : label ≤ 1048575 <;> simp [e] <;> omega
   obtain ⟨d2, hd2⟩ : ∃ d, d = decide (16 ≤ label) := ⟨_, rfl⟩
   obtain ⟨d3, hd3⟩ : ∃ d, d = decide (label ≤ 1048575) := ⟨_, rfl⟩
   rw [<- hd2] at e2 hK'
   rw [<- hd3] at e3 hK'
   rcases k1 with k1 | k1
   ·simp [k1, e2]
    cases d2 <;> simp only [Bool.and_true, Bool.true_and, Bool.false_and, Bool.and_false, Bool.not_false] at hK' <;> simp [e3]
    ·exact hK' _ _ ⟨by simp, rfl⟩
    ·exact hK' _ _ ⟨by simp, rfl⟩
   ·simp [k1, c1, e2]
    cases d2 <;> simp only [Bool.and_true, Bool.true_and, Bool.false_and, Bool.and_false, Bool.not_false] at hK' <;> simp [e3]
    ·exact hK' _ _ ⟨by simp, rfl⟩
    ·exact hK' _ _ ⟨by simp, rfl⟩
  ·have e1 : (decide (p.n.p.fam = 1) || decide (p.n.p.fam = 2)) = false := by simpa using k1
   rw [e1] at hK'
   simp only [Bool.false_and, Bool.not_false] at hK'
   have k1' : ¬ p.n.p.fam = 1 := fun e => k1 (.inl e)
   have k2' : ¬ p.n.p.fam = 2 := fun e => k1 (.inr e)
   simp [k1', k2', c1, neI]
   exact hK' _ _ ⟨by simp, rfl⟩
 rintro t h2' ⟨⟨t2, t3, t4, t6, t37⟩, rfl⟩
 cases u with
 | false =>
  simp only [zaD] at b2
  simp [t37, t6, b2]
  have hq := q1 huu.symm (h2'.set (h.next + 1 + 1) (.row zaD)) (g2.set (by omega) _) (w2.set (by omega) _)
  simpa [zaD] using hq
 | true =>
  have hu2 := huu.symm
  simp only [upOk, Bool.and_eq_true] at hu2
  have hmy := hu2.1.1.1.2
  have hfam := hu2.1.1.2
  simp at hfam
  have hmy2 := hmy
  simp only [zbs, Bool.and_eq_true] at hmy2
  have hz := zdI hmy2.1.2
  have hrx : Rise oN p.att.exts ∧ p.att.exts.length ≤ 64 := by
   have := hmy2.1.2
   rw [zdj] at this
   simp only [Bool.and_eq_true, risB, decide_eq_true_eq] at this
   exact ⟨(zhj zgN _).1 this.1.2.1, this.1.2.2⟩
  obtain ⟨h3, hh3⟩ : ∃ h3, h3 = h2'.push (.row (zaf p vp vc vx vl vk)) := ⟨_, rfl⟩
  have z3 : (h2'.push (.row zaD)).set h2'.next (.row (zaf p vp vc vx vl vk)) = h3 := by rw [hh3]; exact zaW _ _ _ rfl
  have g3 : Ge h2' h3 := by rw [hh3]; exact (Ge.refl _).push _
  have w3 : h3.WF := by rw [hh3]; exact w2.push _
  have n3 : h3.next = h2'.next + 1 := by rw [hh3]; simp
  have A3 := A2.ge w2 g3
  have c13 : zad h3.get (h.next + 1) 29 = some (zaf p vp vc vx vl vk) := by rw [g3.cells (by omega)]; exact c1
  have ow : ∀ Q : V -> H -> Prop, (∀ wp wc wx wl wk h', Ge h3 h' -> h'.WF -> AttFr h' h3.next p.att wp wc wx wl wk -> Q (.agg (attC p.att wp wc wx wl wk)) h') -> Acalls Tryz.prog 24 [.agg (attC p.att vp vc vx vl vk)] h3 Q := fun Q q => zfg A3 hz q
  simp only [zaf, zaD] at z3 c13
  simp only [attC] at ow
  have nX : ¬ h.next + 1 = h2'.next := by omega
  simp [t37, t4, c1, o1, o2, o3, o4, o5, nX]
  rw [z3]
  refine ow _ fun wp wc wx wl wk h4 g4 w4 F4 => ?_
  obtain ⟨f1, f2, f3, f4, f5⟩ := F4.one
  have l4 := g4.1
  have b4 : h4.get h2'.next = some (.row (zaf p vp vc vx vl vk)) := (g4.2 _ (by omega)).trans (by rw [hh3]; simp)
  obtain ⟨h5, hh5⟩ : ∃ h5, h5 = h4.set h2'.next (.row (zaf p wp wc wx wl wk)) := ⟨_, rfl⟩
  have r5 : h5.get h2'.next = some (.row (zaf p wp wc wx wl wk)) := by rw [hh5]; simp
  have w5 : h5.WF := by rw [hh5]; exact w4.set (by omega) _
  have k5 : ∀ i, i ≠ h2'.next -> h5.get i = h4.get i := fun i hi => by rw [hh5, H.get_set, if_neg hi]
  have n5 : h5.next = h4.next := by rw [hh5]; simp
  have F5 : AttFr h5 h3.next p.att wp wc wx wl wk := F4.keep3 (Nat.le_refl _) ⟨by omega, fun i sz cs hi _ e => by rw [k5 i (by omega)]; exact e⟩
  have base5 : ∀ i, i < h2'.next -> h5.get i = h2'.get i := fun i hi => by rw [k5 i (by omega), g4.2 i (by omega), g3.2 i hi]
  simp only [zaf] at b4 hh5
  simp [b4, f1, f2, f3, f4, f5]
  rw [<- hh5]
  refine zg9 (id := 0) (fun t' g => ∃ wx', (t' 2 = .int .u32 (label : Nat) ∧ t' 3 = .ptr h.next 4 0 ∧ t' 4 = .ptr (h.next + 1) 29 0 ∧ t' 6 = .ptr (h.next + 1 + 1) 29 0 ∧ t' 8 = .ptr h2'.next 29 0) ∧ (g.WF ∧ h5.next ≤ g.next ∧ ∀ i, i < h2'.next -> g.get i = h2'.get i) ∧ g.get h2'.next = some (.row (zaf p wp wc wx' wl wk)) ∧ AttFr g h3.next p.att wp wc wx wl wk ∧ Fc g h3.next 1 wx' ((upX v p).map cX)) (fun R hR => ?_) ?_
  ·refine zap (fun i t' g => ∃ wx', (t' 2 = .int .u32 (label : Nat) ∧ t' 3 = .ptr h.next 4 0 ∧ t' 4 = .ptr (h.next + 1) 29 0 ∧ t' 6 = .ptr (h.next + 1 + 1) 29 0 ∧ t' 8 = .ptr h2'.next 29 0 ∧ t' 9 = .int .i64 (i : Nat)) ∧ (g.WF ∧ h5.next ≤ g.next ∧ ∀ i, i < h2'.next -> g.get i = h2'.get i) ∧ g.get h2'.next = some (.row (zaf p wp wc wx' wl wk)) ∧ AttFr g h3.next p.att wp wc wx wl wk ∧ Fc g h3.next 1 wx' (((v.exp.take i).foldl (putL oN) p.att.exts).map cX)) v.exp.length ⟨wx, by simp [t2, t3, t4, t6], ⟨w5, Nat.le_refl _, base5⟩, r5, F5, by simpa using F5.exts⟩ ?_
   clear t2 t3 t4 t6 t37 t
   rintro i t g hi ⟨wx', ⟨t2, t3, t4, t6, t8, t9⟩, ⟨wg, ng, bg⟩, rg, Fg, Eg⟩ K hK
   have gg : Ge h2' g := ⟨by omega, bg⟩
   have Vg := V2.ge w2 gg
   have c0g : zad g.get h.next 4 = some [.str v.name, .int .u64 (v.rd : Nat), vi, ve] := by rw [gg.cells (by omega)]; exact c0
   have cg : zad g.get h2'.next 29 = some (zaf p wp wc wx' wl wk) := (zae (n := 29) rg rfl).trans rfl
   have hlen := Vg.exp.len
   simp at hlen
   simp only [zaf] at cg rg
   by_cases hlt : i < v.exp.length
   ·obtain ⟨a, qq, o, cs, e1, e2, e3⟩ := Vg.exp.at1 (f := fun x : Nat => V.int .u64 x) hlt
    have hw := zaC hlt (by have := ok.exp.1; omega)
    have hll := zgn (v.exp.take i) p.att.exts
    have hll2 : (v.exp.take i).length ≤ 1000 := by have := ok.exp.1; simp; omega
    simp [t3, t9, c0g, hlen, hlt]
    refine zbO [] [0, 0, 0, 0, 0, 0, 0, 0, 0, 0, 0, 0] rfl (by rfl) ?_
    simp [t3, t8, t9, c0g, cg, e1, e2, e3]
    refine ⟨by decide, fun w g' => Ge g g' ∧ g'.WF ∧ Fc g' h3.next 1 w ((putL oN ((v.exp.take i).foldl (putL oN) p.att.exts) v.exp[i]).map cX), ?_, zlB Eg (by omega) (by omega) fun w' g' a b c => ⟨a, b, c⟩, ?_⟩
    ·obtain ⟨w', g', a, b, c⟩ := zbN wg (sz := 1) ((putL oN ((v.exp.take i).foldl (putL oN) p.att.exts) v.exp[i]).map cX)
     exact ⟨w', g', a, b, c.fr.le (by omega)⟩
    rintro w' g' ⟨gg', wg', E'⟩
    have x1 := E'.one
    have lg := gg'.1
    have rg' : g'.get h2'.next = some (.row (zaf p wp wc wx' wl wk)) := (gg'.2 _ (by omega)).trans rg
    have kk : ∀ r j, j ≠ h2'.next -> (g'.set h2'.next r).get j = g'.get j := fun r j hj => by rw [H.get_set, if_neg hj]
    simp only [zaf] at rg'
    simp [t8, t9, rg', zaz x1, zaA x1, hw]
    refine hK _ _ hlt ⟨w', by simp [t2, t3, t4, t6, t8], ⟨wg'.set (by omega) _, by simp; omega, fun j hj => by rw [kk _ j (by omega), gg'.2 j (by omega)]; exact bg j hj⟩, by simp [zaf], (Fg.ge wg gg').keep3 (Nat.le_refl _) ⟨by simp, fun j sz cs hj _ e => by rw [kk _ j (by omega)]; exact e⟩, ?_⟩
    have : (v.exp.take (i + 1)).foldl (putL oN) p.att.exts = putL oN ((v.exp.take i).foldl (putL oN) p.att.exts) v.exp[i] := by
     rw [List.take_add_one, List.getElem?_eq_getElem hlt, Option.toList_some, List.foldl_append]; rfl
    rw [this]
    exact E'.keep (by simp) fun j hj _ => kk _ j (by have := E'.lo j hj; omega)
   ·have hi2 : i = v.exp.length := by omega
    subst hi2
    rw [List.take_length, <- zik hrx.1] at Eg
    simp [t3, t9, c0g, hlen]
    exact hR _ _ ⟨wx', by simp [t2, t3, t4, t6, t8], ⟨wg, ng, bg⟩, rg, Fg, Eg⟩
  clear t2 t3 t4 t6 t37 t
  rintro t g ⟨wx', ⟨t2, t3, t4, t6, t8⟩, ⟨wg, ng, bg⟩, rg, Fg, Eg⟩
  have gg : Ge h2' g := ⟨by omega, bg⟩
  have ghg : Ge h g := g2.trans gg
  have c0g : zad g.get h.next 4 = some [.str v.name, .int .u64 (v.rd : Nat), vi, ve] := by rw [gg.cells (by omega)]; exact c0
  have c1g : zad g.get (h.next + 1) 29 = some (zaf p vp vc vx vl vk) := by rw [gg.cells (by omega)]; exact c1
  have cg : zad g.get h2'.next 29 = some (zaf p wp wc wx' wl wk) := (zae (n := 29) rg rfl).trans rfl
  have b2g : g.get (h.next + 1 + 1) = some (.row zaD) := (bg _ (by omega)).trans b2
  have hXl : (upX v p).length ≤ 2000 := by
   have := zgn v.exp p.att.exts
   rw [zik hrx.1]
   have h9 := ok.exp.1
   omega
  have sX : Sls g.get 1 wx' ((upX v p).map cX) := Eg.sls (za0 _) (by simp; omega)
  have hlen := sX.len
  simp at hlen
  have x1 := Eg.one
  simp only [zaf] at cg rg c1g
  simp only [zaD] at b2g
  by_cases h64 : (upX v p).length ≤ 64
  ·have h64' : ¬ (64 : Int) < ((upX v p).length : Int) := by omega
   obtain ⟨f1, f2, f3, f4, f5⟩ := Fg.one
   have nY : ¬ h2'.next = h.next + 1 + 1 := by omega
   have nZ : ¬ h.next + 1 = h2'.next := by omega
   have nW : ¬ h.next = h2'.next := by omega
   have nV : ¬ h.next + 1 + 1 = h2'.next := by omega
   have fin : ∀ r1 : List V, AttAt ((g.set h2'.next (.row r1)).set (h.next + 1 + 1) (.row r1)).get (upP v p label).att wp wc wx' wl wk ∧ Ge h ((g.set h2'.next (.row r1)).set (h.next + 1 + 1) (.row r1)) ∧ ((g.set h2'.next (.row r1)).set (h.next + 1 + 1) (.row r1)).WF := fun r1 => by
    have kk : ∀ j, h3.next ≤ j -> ((g.set h2'.next (.row r1)).set (h.next + 1 + 1) (.row r1)).get j = g.get j := fun j hj => by rw [H.get_set, if_neg (by omega), H.get_set, if_neg (by omega)]
    have F9 : AttFr ((g.set h2'.next (.row r1)).set (h.next + 1 + 1) (.row r1)) h3.next p.att wp wc wx wl wk := Fg.keep3 (Nat.le_refl _) ⟨by simp, fun j sz cs hj _ e => by rw [kk j hj]; exact e⟩
    have A9 := F9.at
    have E9 : Fc ((g.set h2'.next (.row r1)).set (h.next + 1 + 1) (.row r1)) h3.next 1 wx' ((upX v p).map cX) := Eg.keep (by simp) fun j hj _ => kk j (Eg.lo j hj)
    refine ⟨⟨A9.path, A9.comms, E9.sls (za0 _) (by simp; omega), A9.larges, A9.clus⟩, (ghg.set (by omega) _).set (by omega) _, (wg.set (by omega) _).set (by simp; omega) _⟩
   rcases hfam with k1 | k1
   ·simp [t2, t3, t4, t6, t8, cg, c0g, c1g, rg, b2g, hlen, h64', k1, nZ, nW, nV, f1, f2, f4, f5, x1]
    obtain ⟨a1, a2, a3⟩ := fin (zaf (upP v p label) wp wc wx' wl wk)
    have hq := q3 huu.symm h64 wp wc wx' wl wk _ a2 a3 a1
    simpa [zaf, upP, famT, zje, k1] using hq
   ·simp [t2, t3, t4, t6, t8, cg, c0g, c1g, rg, b2g, hlen, h64', k1, nZ, nW, nV, f1, f2, f4, f5, x1]
    obtain ⟨a1, a2, a3⟩ := fin (zaf (upP v p label) wp wc wx' wl wk)
    have hq := q3 huu.symm h64 wp wc wx' wl wk _ a2 a3 a1
    simpa [zaf, upP, famT, zje, k1] using hq
  ·have h64' : (64 : Int) < ((upX v p).length : Int) := by omega
   simp [t8, t6, cg, hlen, h64', b2g]
   have hq := q2 huu.symm (by omega) (g.set (h.next + 1 + 1) (.row zaD)) (ghg.set (by omega) _) (wg.set (by omega) _)
   simpa [zaD] using hq
end Go.Am

namespace Go.Am
open Go.Proofs

set_option maxRecDepth 100000
theorem zmd {h : H} {v : Vr} {vi ve : V} {p : Pth} {vp vc vx vl vk : V} (VA : VrAt h.get v vi ve) (ok : VrOk v) (A : AttAt h.get p.att vp vc vx vl vk) (hn : p.src.peer.length ≤ 9223372036854775807) {Q : V -> H -> Prop}
  (q1 : zcF v p = false -> ∀ h', Ge h h' -> h'.WF -> Q (.tup [.agg zaD, .bool false, .int .i64 2]) h')
  (q2 : zcF v p = true -> zd5 v p = false -> ∀ h', Ge h h' -> h'.WF -> Q (.tup [.agg zaD, .bool false, .int .i64 0]) h')
  (q3 : zcF v p = true -> zd5 v p = true -> ∀ wp wc wx wl wk h', Ge h h' -> h'.WF -> AttAt h'.get p.att wp wc wx wl wk -> Q (.tup [.agg (zaf (zaQ p 0 0 v.name) wp wc wx wl wk), .bool true, .int .i64 0]) h') :
  Acalls Tryz.prog 12 [.agg (vrC v vi ve), .agg (zaf p vp vc vx vl vk)] h Q := by
 refine zam Tryz.func12 S.a7c S.a7e (Nat.le_of_ble_eq_true rfl) fun wf => ?_; simp only [S.a7]
 obtain ⟨es, P⟩ := A.path
 have o1 := P.sls.one
 have o2 := A.comms.one
 have o3 := A.exts.one
 have o4 := A.larges.one
 have o5 := A.clus.one
 have o6 := VA.imp.one
 have o7 := VA.exp.one
 obtain ⟨h2, hh2⟩ : ∃ h2, h2 = ((h.push (.row (vrC v vi ve))).push (.row (zaf p vp vc vx vl vk))).push (.row zaD) := ⟨_, rfl⟩
 have g2 : Ge h h2 := by rw [hh2]; exact (((Ge.refl _).push _).push _).push _
 have w2 : h2.WF := by rw [hh2]; exact ((wf.push _).push _).push _
 have n2 : h2.next = h.next + 3 := by rw [hh2]; simp
 have b0 : h2.get h.next = some (.row (vrC v vi ve)) := by rw [hh2]; simp [show ¬ h.next = h.next + 1 + 1 by omega]
 have b1 : h2.get (h.next + 1) = some (.row (zaf p vp vc vx vl vk)) := by rw [hh2]; simp
 have b2 : h2.get (h.next + 2) = some (.row zaD) := by rw [hh2]; simp
 have A2 := A.ge wf g2
 have V2 := VA.ge wf g2
 have vc1 := zky V2 ok
 have mc1 := zh8 A2 hn
 have c0 : zad h2.get h.next 4 = some (vrC v vi ve) := (zae (n := 4) b0 rfl).trans rfl
 have c1 : zad h2.get (h.next + 1) 29 = some (zaf p vp vc vx vl vk) := (zae (n := 29) b1 rfl).trans rfl
 have n01 : ¬ h.next = h.next + 1 := by omega
 have n02 : ¬ h.next = h.next + 1 + 1 := by omega
 have n12 : ¬ h.next + 1 = h.next + 1 + 1 := by omega
 simp only [vrC] at vc1 c0
 simp only [zaf] at mc1 c1
 simp only [vrC, zaf, zaD] at hh2
 simp [vrC, zaf, o1, o2, o3, o4, o5, o6, o7, n02]
 rw [<- hh2]
 refine vc1 _ ?_
 obtain ⟨bv, hbv⟩ : ∃ b, b = vrfB v := ⟨_, rfl⟩
 obtain ⟨bm, hbm⟩ : ∃ b, b = zbs p := ⟨_, rfl⟩
 have hu : zcF v p = (bv && bm && (decide (p.n.p.fam = 4) || decide (p.n.p.fam = 5))) := by rw [hbv, hbm]; rfl
 obtain ⟨u, huu⟩ : ∃ u, u = zcF v p := ⟨_, rfl⟩
 rw [<- hbv]
 rw [<- hbm] at mc1
 simp
 refine zaU (fun t' h' => (t' 2 = .ptr h.next 4 0 ∧ t' 3 = .ptr (h.next + 1) 29 0 ∧ t' 4 = .ptr (h.next + 1 + 1) 29 0 ∧ t' 27 = .bool (!u)) ∧ h' = h2) (fun K' hK' => ?_) ?_
 ·rw [huu, hu] at hK'
  cases bv <;> simp only [Bool.false_and, Bool.true_and, Bool.not_false] at hK' <;> simp [c1] <;> (try (exact hK' _ _ ⟨by simp, rfl⟩))
  refine mc1 _ ?_
  cases bm <;> simp only [Bool.false_and, Bool.true_and, Bool.not_false] at hK' <;> simp [c1, neI] <;> (try (exact hK' _ _ ⟨by simp, rfl⟩))
  by_cases k1 : p.n.p.fam = 4
  ·have e1 : (decide (p.n.p.fam = 4) || decide (p.n.p.fam = 5)) = true := by simp [k1]
   rw [e1] at hK'
   simp only [Bool.not_true] at hK'
   simp [k1]
   exact hK' _ _ ⟨by simp, rfl⟩
  ·by_cases k2 : p.n.p.fam = 5
   ·have e1 : (decide (p.n.p.fam = 4) || decide (p.n.p.fam = 5)) = true := by simp [k2]
    rw [e1] at hK'
    simp only [Bool.not_true] at hK'
    simp [k2, c1]
    exact hK' _ _ ⟨by simp, rfl⟩
   ·have e1 : (decide (p.n.p.fam = 4) || decide (p.n.p.fam = 5)) = false := by simp [k1, k2]
    rw [e1] at hK'
    simp only [Bool.not_false] at hK'
    simp [k1, k2, c1, neI]
    exact hK' _ _ ⟨by simp, rfl⟩
 rintro t h2' ⟨⟨t2, t3, t4, t27⟩, rfl⟩
 cases u with
 | false =>
  simp only [zaD] at b2
  simp [t27, t4, b2]
  have hq := q1 huu.symm (h2'.set (h.next + 1 + 1) (.row zaD)) (g2.set (by omega) _) (w2.set (by omega) _)
  simpa [zaD] using hq
 | true =>
  have hu2 := huu.symm
  simp only [zcF, Bool.and_eq_true] at hu2
  have hmy := hu2.1.2
  have hfam := hu2.2
  simp at hfam
  have hmy2 := hmy
  simp only [zbs, Bool.and_eq_true] at hmy2
  have hz := zdI hmy2.1.2
  simp [t27]
  have tc : Acalls Tryz.prog 15 [.agg (attC p.att vp vc vx vl vk)] h2' (fun w h' => Ge h2' h' ∧ h'.WF ∧ Gl h' h2'.next 1 w ((p.att.exts.filter isTg).map cX)) := zfe A2 hz.exts fun w h' a b c => ⟨a, b, c⟩
  obtain ⟨sw, sh, ss⟩ := zbN w2 (sz := 1) ((p.att.exts.filter isTg).map cX)
  simp only [attC] at tc
  refine zbO [h.next] [0, 0, 1, 0, 2, 0, 0] rfl (by rfl) ?_
  simp [t3, c1, I.foot, zbf]
  refine ⟨by decide, _, ⟨sw, sh, ss⟩, tc, ?_⟩
  rintro w3 h3 ⟨g3, w3f, gl3⟩
  refine ⟨fun _ => fun k hk => by rw [List.mem_singleton] at hk; subst hk; exact g3.2 _ (by omega), ?_⟩
  have c03 : zad h3.get h.next 4 = some (vrC v vi ve) := (g3.cells (by omega)).trans c0
  simp only [vrC] at c03
  simp [t2, c03, I.foot, zbf]
  have s3 : Sls h3.get 1 w3 ((p.att.exts.filter isTg).map cX) := gl3.sls (za0 _) (by have := List.length_filter_le isTg p.att.exts; have := hz.exts; simp; omega)
  refine zbd (v := .bool (zd5 v p)) (h' := h3) (fun Q q => zly s3 ((VA.ge wf (g2.trans g3)).imp) Q q) (by decide) (fun h => by cases h) ?_
  obtain ⟨m, hm⟩ : ∃ m, m = zd5 v p := ⟨_, rfl⟩
  rw [<- hm]
  have l3 := g3.1
  have b32 : h3.get (h.next + 1 + 1) = some (.row zaD) := (g3.2 _ (by omega)).trans b2
  have c13 : zad h3.get (h.next + 1) 29 = some (zaf p vp vc vx vl vk) := (g3.cells (by omega)).trans c1
  have gh3 := g2.trans g3
  cases m with
  | false =>
   simp only [zaD] at b32
   simp [t4, b32]
   have hq := q2 huu.symm hm.symm (h3.set (h.next + 1 + 1) (.row zaD)) (gh3.set (by omega) _) (w3f.set (by have := g3.1; omega) _)
   simpa [zaD] using hq
  | true =>
   obtain ⟨h4, hh4⟩ : ∃ h4, h4 = h3.push (.row (zaf p vp vc vx vl vk)) := ⟨_, rfl⟩
   have z4 : (h3.push (.row zaD)).set h3.next (.row (zaf p vp vc vx vl vk)) = h4 := by rw [hh4]; exact zaW _ _ _ rfl
   have g4 : Ge h3 h4 := by rw [hh4]; exact (Ge.refl _).push _
   have w4 : h4.WF := by rw [hh4]; exact w3f.push _
   have n4 : h4.next = h3.next + 1 := by rw [hh4]; simp
   have A4 := A.ge wf (gh3.trans g4)
   have nX : ¬ h.next + 1 = h3.next := by omega
   have ow : ∀ Q : V -> H -> Prop, (∀ wp wc wx wl wk h', Ge h4 h' -> h'.WF -> AttFr h' h4.next p.att wp wc wx wl wk -> Q (.agg (attC p.att wp wc wx wl wk)) h') -> Acalls Tryz.prog 24 [.agg (attC p.att vp vc vx vl vk)] h4 Q := fun Q q => zfg A4 hz q
   simp only [zaf, zaD] at z4 c13
   simp only [attC] at ow
   simp [t3, c13, o1, o2, o3, o4, o5, nX]
   rw [z4]
   refine ow _ fun wp wc wx wl wk h5 g5 w5 F5 => ?_
   obtain ⟨f1, f2, f3, f4, f5⟩ := F5.one
   have l5 := g5.1
   have b5 : h5.get h3.next = some (.row (zaf p vp vc vx vl vk)) := (g5.2 _ (by omega)).trans (by rw [hh4]; simp)
   have c05 : zad h5.get h.next 4 = some [.str v.name, .int .u64 (v.rd : Nat), vi, ve] := by rw [(g4.trans g5).cells (by omega)]; exact c03
   have c15 := (g4.trans g5).cells (i := h.next + 1) (n := 29) (by omega)
   rw [c13] at c15
   have b52 : h5.get (h.next + 1 + 1) = some (.row zaD) := by rw [(g4.trans g5).2 _ (by omega)]; exact b32
   have gh5 := gh3.trans (g4.trans g5)
   have nY : ¬ h3.next = h.next + 1 + 1 := by omega
   have nZ : ¬ h.next + 1 = h3.next := by omega
   have nW : ¬ h.next = h3.next := by omega
   have nV : ¬ h.next + 1 + 1 = h3.next := by omega
   have fin : ∀ r1 : List V, AttAt ((h5.set h3.next (.row r1)).set (h.next + 1 + 1) (.row r1)).get p.att wp wc wx wl wk ∧ Ge h ((h5.set h3.next (.row r1)).set (h.next + 1 + 1) (.row r1)) ∧ ((h5.set h3.next (.row r1)).set (h.next + 1 + 1) (.row r1)).WF := fun r1 => by
    have kk : ∀ j, h4.next ≤ j -> ((h5.set h3.next (.row r1)).set (h.next + 1 + 1) (.row r1)).get j = h5.get j := fun j hj => by rw [H.get_set, if_neg (by omega), H.get_set, if_neg (by omega)]
    have F9 : AttFr ((h5.set h3.next (.row r1)).set (h.next + 1 + 1) (.row r1)) h4.next p.att wp wc wx wl wk := F5.keep3 (Nat.le_refl _) ⟨by simp, fun j sz cs hj _ e => by rw [kk j hj]; exact e⟩
    exact ⟨F9.at, (gh5.set (by omega) _).set (by omega) _, (w5.set (by omega) _).set (by simp; omega) _⟩
   obtain ⟨a1, a2, a3⟩ := fin (zaf (zaQ p 0 0 v.name) wp wc wx wl wk)
   have hq := q3 huu.symm hm.symm wp wc wx wl wk _ a2 a3 a1
   simp only [zaf] at b5
   simp only [zaD] at b52
   rcases hfam with k1 | k1
   ·simp [t2, t3, t4, b5, c05, c15, b52, k1, nZ, nW, nV, f1, f2, f3, f4, f5]
    simpa [zaf, zaQ, famT, k1] using hq
   ·simp [t2, t3, t4, b5, c05, c15, b52, k1, nZ, nW, nV, f1, f2, f3, f4, f5]
    simpa [zaf, zaQ, famT, k1] using hq
end Go.Am

namespace Go.Am
open Go.Proofs

set_option maxRecDepth 100000
theorem zbW {h g G : H} (wg : g.WF) (wG : G.WF) (gG : Ge g G) (og : ∀ i, i < h.next -> g.get i = h.get i) (ng : h.next ≤ g.next) : G.WF ∧ g.next ≤ G.next ∧ (∀ i sz cs, g.get i = some (.grow sz cs) -> G.get i = some (.grow sz cs)) ∧ (∀ i, i < h.next -> G.get i = h.get i) ∧ (∀ i r, i < g.next -> g.get i = some (.row r) -> G.get i = some (.row r)) :=
 ⟨wG, gG.1, fun i sz cs e => by rw [gG.2 i (wg.lt e)]; exact e, fun i hi => (gG.2 i (by omega)).trans (og i hi), fun i _ hi e => (gG.2 i hi).trans e⟩
theorem zeK {h g : H} {p : Nat} {x r : List V} (wg : g.WF) (e4 : g.get p = some (.row x)) (e3 : p < g.next) (e2 : h.next ≤ p) (og : ∀ i, i < h.next -> g.get i = h.get i) : (g.set p (.row r)).WF ∧ g.next ≤ (g.set p (.row r)).next ∧ (∀ i sz cs, g.get i = some (.grow sz cs) -> (g.set p (.row r)).get i = some (.grow sz cs)) ∧ (∀ i, i < h.next -> (g.set p (.row r)).get i = h.get i) ∧ (∀ i r2, i ≠ p -> g.get i = some (.row r2) -> (g.set p (.row r)).get i = some (.row r2)) :=
 ⟨wg.set e3 _, by simp, fun i sz cs e => by rw [H.get_set, if_neg (fun h9 => by rw [h9, e4] at e; cases e)]; exact e, fun i hi => by rw [H.get_set, if_neg (by omega)]; exact og i hi, fun i _ hi e => by rw [H.get_set, if_neg hi]; exact e⟩
def zV4 : List V := [.str [], .int .u64 0, .nilsl, .nilsl]
def zP29 : List V := [.int .i64 0, .int .u64 0, .str [], .int .i64 0, .int .u32 0, .int .u32 0, .int .i64 0, .nilsl, .str [], .bool false, .int .u32 0, .bool false, .int .u32 0, .bool false, .int .u32 0, .int .u32 0, .nilsl, .nilsl, .nilsl, .bool false, .int .u32 0, .nilsl, .int .i64 0, .str [], .int .u32 0, .int .u32 0, .str [], .str [], .bool false]
def twoVOps : List SI := [⟨some 21, none, .op (.load true 4 (.t 3))⟩, ⟨some 22, none, .call (.c (.func (.func 6) [] [])) [.t 21]⟩, ⟨some 23, none, .op (.load true 4 (.t 3))⟩, ⟨some 24, none, .call (.c (.func (.func 6) [] [])) [.t 23]⟩, ⟨some 7, none, .op (.alloc zV4)⟩, ⟨some 8, none, .op (.alloc zV4)⟩, ⟨none, none, .op (.store 4 (.t 7) (.t 22))⟩, ⟨none, none, .op (.store 4 (.t 8) (.t 24))⟩]
def zjS : List (Nat × Nat) := [(1, 2), (0, 4), (1, 4), (2, 4), (3, 4), (0, 5), (1, 5), (2, 5), (3, 5), (4, 5)]
def zkU (h : H) (t0 : Tm) (row : List V) (Φ : List V -> H -> Prop) (left : List Nat) (t : Tm) (g : H) : Prop :=
 (∀ k, k ∉ [21, 22, 23, 24, 7, 8] -> t k = t0 k) ∧ (g.WF ∧ h.next ≤ g.next ∧ ∀ i, i < h.next -> g.get i = h.get i) ∧
 (0 ∉ left -> t 21 = .agg row) ∧ (1 ∉ left -> ∃ r, t 22 = .agg r ∧ Φ r g) ∧ (2 ∉ left -> t 23 = .agg row) ∧ (3 ∉ left -> ∃ r, t 24 = .agg r ∧ Φ r g) ∧
 (4 ∉ left -> ∃ p x, t 7 = .ptr p 4 0 ∧ h.next ≤ p ∧ p < g.next ∧ g.get p = some (.row x) ∧ x.length = 4 ∧ (6 ∉ left -> t 22 = .agg x)) ∧
 (5 ∉ left -> ∃ p x, t 8 = .ptr p 4 0 ∧ h.next ≤ p ∧ p < g.next ∧ g.get p = some (.row x) ∧ x.length = 4 ∧ (7 ∉ left -> t 24 = .agg x)) ∧
 (4 ∉ left -> 5 ∉ left -> t 7 ≠ t 8) ∧ (6 ∉ left -> 1 ∉ left ∧ 4 ∉ left) ∧ (7 ∉ left -> 3 ∉ left ∧ 5 ∉ left)
theorem zmc {h : H} {t0 : Tm} {k0 : Nat} {row : List V} (hs : t0 3 = .ptr k0 4 0) (hk : k0 < h.next) (hc : zad h.get k0 4 = some row) (hl : row.length = 4) (Φ : List V -> H -> Prop)
  (hΦ : ∀ r g g', Φ r g -> g.next ≤ g'.next -> (∀ i sz cs, g.get i = some (.grow sz cs) -> g'.get i = some (.grow sz cs)) -> Φ r g') (hΦl : ∀ r g, Φ r g -> r.length = 4 ∧ r.all V.one = true)
  (ex : ∀ g : H, g.WF -> h.next ≤ g.next -> ∃ r g', Ge g g' ∧ g'.WF ∧ Φ r g')
  (call : ∀ g : H, g.WF -> h.next ≤ g.next -> (∀ i, i < h.next -> g.get i = h.get i) -> Acalls Tryz.prog 6 [.agg row] g fun w g' => ∃ r, w = .agg r ∧ Ge g g' ∧ g'.WF ∧ Φ r g') :
  zfO Tryz.prog zjS twoVOps (zkU h t0 row Φ) := by
 intro pre j post t g hj hpre hpost ⟨ht, ⟨wg, ng, og⟩, q0, q1, q2, q3, q4, q5, q45, r6, r7⟩
 have need : ∀ i, i < j -> zl3 zjS twoVOps i j = false -> i ∉ pre ++ j :: post := fun i hi hf hm => by
  simp only [List.mem_append, List.mem_cons] at hm
  rcases hm with hm | rfl | hm
  ·have := (hpre i hm).2; rw [hf] at this; cases this
  ·omega
  ·have := (hpost i hm).1; omega
 have back : ∀ i, i ≠ j -> i ∉ pre ++ post -> i ∉ pre ++ j :: post := fun i hi hn hm => by
  simp only [List.mem_append, List.mem_cons] at hm hn
  rcases hm with hm | rfl | hm
  ·exact hn (.inl hm)
  ·exact hi rfl
  ·exact hn (.inr hm)
 have hts : t 3 = .ptr k0 4 0 := by rw [ht 3 (by decide)]; exact hs
 have hcg : zad g.get k0 4 = some row := by rw [<- hc]; exact zb4 (og k0 hk)
 have sub : ∀ i, i ∉ pre ++ j :: post -> i ∉ pre ++ post := fun i hn hm => hn (by
  simp only [List.mem_append, List.mem_cons] at hm ⊢
  rcases hm with hm | hm
  ·exact .inl hm
  ·exact .inr (.inr hm))
 have htk : row.take 4 = row := List.take_of_length_le (by omega)
 have hj8 : j = 0 ∨ j = 1 ∨ j = 2 ∨ j = 3 ∨ j = 4 ∨ j = 5 ∨ j = 6 ∨ j = 7 := by simp [twoVOps] at hj; omega
 obtain rfl | rfl | rfl | rfl | rfl | rfl | rfl | rfl := hj8
 show Sstep Tryz.prog ⟨some 21, none, .op (.load true 4 (.t 3))⟩ t g _
 simp [Sstep, zau, hts, hcg, hl, htk]
 obtain ⟨wG, hG, hK, oG, rK⟩ := zbW wg wg (Ge.refl g) og ng
 refine ⟨?_, ⟨wG, by first | omega | (simp; omega), oG⟩, ?_, ?_, ?_, ?_, ?_, ?_, ?_, ?_, ?_⟩
 rotate_left 10
 have e0 := q0 (need 0 (by decide) (by decide))
 show Sstep Tryz.prog ⟨some 22, none, .call (.c (.func (.func 6) [] [])) [.t 21]⟩ t g _
 simp [Sstep, zau, e0]
 obtain ⟨r9, g9, x1, x2, x3⟩ := ex g wg ng
 refine ⟨fun w g' => ∃ r, w = .agg r ∧ Ge g g' ∧ g'.WF ∧ Φ r g', ⟨.agg r9, g9, r9, rfl, x1, x2, x3⟩, call g wg ng og, ?_⟩
 rintro _ G ⟨r, rfl, gG, wG, fG⟩
 obtain ⟨wG, hG, hK, oG, rK⟩ := zbW wg wG gG og ng
 refine ⟨?_, ⟨wG, by first | omega | (simp; omega), oG⟩, ?_, ?_, ?_, ?_, ?_, ?_, ?_, ?_, ?_⟩
 rotate_left 10
 show Sstep Tryz.prog ⟨some 23, none, .op (.load true 4 (.t 3))⟩ t g _
 simp [Sstep, zau, hts, hcg, hl, htk]
 obtain ⟨wG, hG, hK, oG, rK⟩ := zbW wg wg (Ge.refl g) og ng
 refine ⟨?_, ⟨wG, by first | omega | (simp; omega), oG⟩, ?_, ?_, ?_, ?_, ?_, ?_, ?_, ?_, ?_⟩
 rotate_left 10
 have e0 := q2 (need 2 (by decide) (by decide))
 show Sstep Tryz.prog ⟨some 24, none, .call (.c (.func (.func 6) [] [])) [.t 23]⟩ t g _
 simp [Sstep, zau, e0]
 obtain ⟨r9, g9, x1, x2, x3⟩ := ex g wg ng
 refine ⟨fun w g' => ∃ r, w = .agg r ∧ Ge g g' ∧ g'.WF ∧ Φ r g', ⟨.agg r9, g9, r9, rfl, x1, x2, x3⟩, call g wg ng og, ?_⟩
 rintro _ G ⟨r, rfl, gG, wG, fG⟩
 obtain ⟨wG, hG, hK, oG, rK⟩ := zbW wg wG gG og ng
 refine ⟨?_, ⟨wG, by first | omega | (simp; omega), oG⟩, ?_, ?_, ?_, ?_, ?_, ?_, ?_, ?_, ?_⟩
 rotate_left 10
 show Sstep Tryz.prog ⟨some 7, none, .op (.alloc zV4)⟩ t g _
 simp [Sstep, zau]
 obtain ⟨G, hGG⟩ : ∃ G, G = g.push (.row zV4) := ⟨_, rfl⟩
 rw [<- hGG]
 have gG : Ge g G := by rw [hGG]; exact (Ge.refl _).push _
 have nG : G.next = g.next + 1 := by rw [hGG]; simp
 have xG : G.get g.next = some (.row zV4) := by rw [hGG]; simp
 obtain ⟨wG, hG, hK, oG, rK⟩ := zbW wg (by rw [hGG]; exact wg.push _) gG og ng
 refine ⟨?_, ⟨wG, by first | omega | (simp; omega), oG⟩, ?_, ?_, ?_, ?_, ?_, ?_, ?_, ?_, ?_⟩
 rotate_left 10
 show Sstep Tryz.prog ⟨some 8, none, .op (.alloc zV4)⟩ t g _
 simp [Sstep, zau]
 obtain ⟨G, hGG⟩ : ∃ G, G = g.push (.row zV4) := ⟨_, rfl⟩
 rw [<- hGG]
 have gG : Ge g G := by rw [hGG]; exact (Ge.refl _).push _
 have nG : G.next = g.next + 1 := by rw [hGG]; simp
 have xG : G.get g.next = some (.row zV4) := by rw [hGG]; simp
 obtain ⟨wG, hG, hK, oG, rK⟩ := zbW wg (by rw [hGG]; exact wg.push _) gG og ng
 refine ⟨?_, ⟨wG, by first | omega | (simp; omega), oG⟩, ?_, ?_, ?_, ?_, ?_, ?_, ?_, ?_, ?_⟩
 rotate_left 10
 obtain ⟨p, x, e1, e2, e3, e4, e5, _⟩ := q4 (need 4 (by decide) (by decide))
 obtain ⟨r, c1, c2⟩ := q1 (need 1 (by decide) (by decide))
 obtain ⟨c3, c4⟩ := hΦl r g c2
 have hx : x.drop 4 = [] := List.drop_eq_nil_of_le (by omega)
 show Sstep Tryz.prog ⟨none, none, .op (.store 4 (.t 7) (.t 22))⟩ t g _
 simp [Sstep, zau, e1, e4, e5, c1, c3, hx]
 rw [if_pos (List.all_eq_true.1 c4)]
 show zkU h t0 row Φ (pre ++ post) t (g.set p (.row r))
 obtain ⟨wG, hG, hK, oG, rK⟩ := zeK (r := r) wg e4 e3 e2 og
 refine ⟨?_, ⟨wG, by first | omega | (simp; omega), oG⟩, ?_, ?_, ?_, ?_, ?_, ?_, ?_, ?_, ?_⟩
 rotate_left 10
 obtain ⟨p, x, e1, e2, e3, e4, e5, _⟩ := q5 (need 5 (by decide) (by decide))
 obtain ⟨r, c1, c2⟩ := q3 (need 3 (by decide) (by decide))
 obtain ⟨c3, c4⟩ := hΦl r g c2
 have hx : x.drop 4 = [] := List.drop_eq_nil_of_le (by omega)
 show Sstep Tryz.prog ⟨none, none, .op (.store 4 (.t 8) (.t 24))⟩ t g _
 simp [Sstep, zau, e1, e4, e5, c1, c3, hx]
 rw [if_pos (List.all_eq_true.1 c4)]
 show zkU h t0 row Φ (pre ++ post) t (g.set p (.row r))
 obtain ⟨wG, hG, hK, oG, rK⟩ := zeK (r := r) wg e4 e3 e2 og
 refine ⟨?_, ⟨wG, by first | omega | (simp; omega), oG⟩, ?_, ?_, ?_, ?_, ?_, ?_, ?_, ?_, ?_⟩
 rotate_left 10
 all_goals first
  | (intro k hk; have := ht k hk; simp at hk; simp [hk, this]; done)
  | (intro _; simp; done)
  | (intro _; refine ⟨r, ?_, fG⟩; simp; done)
  | exact fun hm => by simpa using q0 (back 0 (by decide) hm)
  | exact fun hm => by simpa using q2 (back 2 (by decide) hm)
  | exact fun hm => by obtain ⟨r2, e, f⟩ := q1 (back 1 (by decide) hm); exact ⟨r2, by simpa using e, hΦ r2 g _ f hG hK⟩
  | exact fun hm => by obtain ⟨r2, e, f⟩ := q3 (back 3 (by decide) hm); exact ⟨r2, by simpa using e, hΦ r2 g _ f hG hK⟩
  | (intro _; refine ⟨g.next, zV4, ?_, ng, by omega, xG, rfl, fun hm => absurd (r6 (back 6 (by decide) hm)).2 ?_⟩ <;> simp [zV4] <;> done)
  | exact fun hm => by obtain ⟨p, x, e, a1, a2, a3, a4, a5⟩ := q4 (back 4 (by decide) hm); exact ⟨p, x, by simpa using e, a1, by first | omega | simpa using a2, by first | exact rK _ _ a2 a3 | exact rK _ _ (fun h9 => by subst h9; first | exact q45 (need 4 (by decide) (by decide)) (back 5 (by decide) hm) (e1.trans e.symm) | exact q45 (back 4 (by decide) hm) (need 5 (by decide) (by decide)) (e.trans e1.symm)) a3, a4, fun hm6 => by first | simpa using a5 (back 6 (by decide) hm6) | exact absurd (r6 (back 6 (by decide) hm6)).1 (by simp)⟩
  | (intro _; refine ⟨g.next, zV4, ?_, ng, by omega, xG, rfl, fun hm => absurd (r7 (back 7 (by decide) hm)).2 ?_⟩ <;> simp [zV4] <;> done)
  | exact fun hm => by obtain ⟨p, x, e, a1, a2, a3, a4, a5⟩ := q5 (back 5 (by decide) hm); exact ⟨p, x, by simpa using e, a1, by first | omega | simpa using a2, by first | exact rK _ _ a2 a3 | exact rK _ _ (fun h9 => by subst h9; first | exact q45 (need 4 (by decide) (by decide)) (back 5 (by decide) hm) (e1.trans e.symm) | exact q45 (back 4 (by decide) hm) (need 5 (by decide) (by decide)) (e.trans e1.symm)) a3, a4, fun hm6 => by first | simpa using a5 (back 7 (by decide) hm6) | exact absurd (r7 (back 7 (by decide) hm6)).1 (by simp)⟩
  | exact fun _ => ⟨p, r, by simpa using e1, e2, by simpa using e3, by simp, c3, fun _ => by simpa using c1⟩
  | exact fun h4 h5 => by simpa using q45 (back 4 (by decide) h4) (back 5 (by decide) h5)
  | exact fun _ h5 => by obtain ⟨p, x, e, a1, a2, _⟩ := q5 (back 5 (by decide) h5); simp [e]; omega
  | exact fun h4 _ => by obtain ⟨p, x, e, a1, a2, _⟩ := q4 (back 4 (by decide) h4); simp [e]; omega
  | exact fun hm => ⟨sub 1 (r6 (back 6 (by decide) hm)).1, sub 4 (r6 (back 6 (by decide) hm)).2⟩
  | exact fun hm => ⟨sub 1 (need 1 (by decide) (by decide)), sub 4 (need 4 (by decide) (by decide))⟩
  | exact fun hm => ⟨sub 3 (r7 (back 7 (by decide) hm)).1, sub 5 (r7 (back 7 (by decide) hm)).2⟩
  | exact fun hm => ⟨sub 3 (need 3 (by decide) (by decide)), sub 5 (need 5 (by decide) (by decide))⟩
theorem znE {h : H} {t0 : Tm} {k0 : Nat} {row : List V} {Q : Exit -> Tm -> H -> Prop} (wf : h.WF) (hs : t0 3 = .ptr k0 4 0) (hk : k0 < h.next) (hc : zad h.get k0 4 = some row) (hl : row.length = 4) (Φ : List V -> H -> Prop)
  (hΦ : ∀ r g g', Φ r g -> g.next ≤ g'.next -> (∀ i sz cs, g.get i = some (.grow sz cs) -> g'.get i = some (.grow sz cs)) -> Φ r g') (hΦl : ∀ r g, Φ r g -> r.length = 4 ∧ r.all V.one = true)
  (ex : ∀ g : H, g.WF -> h.next ≤ g.next -> ∃ r g', Ge g g' ∧ g'.WF ∧ Φ r g')
  (call : ∀ g : H, g.WF -> h.next ≤ g.next -> (∀ i, i < h.next -> g.get i = h.get i) -> Acalls Tryz.prog 6 [.agg row] g fun w g' => ∃ r, w = .agg r ∧ Ge g g' ∧ g'.WF ∧ Φ r g')
  (q : ∀ (t : Tm) (g : H) (r1 r2 : List V) (p1 p2 : Nat), (∀ k, k ∉ [21, 22, 23, 24, 7, 8] -> t k = t0 k) -> Ge h g -> g.WF -> t 7 = .ptr p1 4 0 -> t 8 = .ptr p2 4 0 -> p1 ≠ p2 -> h.next ≤ p1 -> h.next ≤ p2 -> g.get p1 = some (.row r1) -> g.get p2 = some (.row r2) -> Φ r1 g -> Φ r2 g -> Q .normal t g) :
  Cwp Tryz.prog (.dreg zjS twoVOps) Q t0 h := by
 refine zid (zkU h t0 row Φ) (zmc hs hk hc hl Φ hΦ hΦl ex call) (fun t g hJ => ?_) ?_
 ·obtain ⟨ht, ⟨wg, ng, og⟩, _, q1, _, q3, q4, q5, q45, _, _⟩ := hJ
  obtain ⟨r1, e1, f1⟩ := q1 (by simp)
  obtain ⟨r2, e2, f2⟩ := q3 (by simp)
  obtain ⟨p1, x1, a1, a2, _, a4, _, a6⟩ := q4 (by simp)
  obtain ⟨p2, x2, b1, b2, _, b4, _, b6⟩ := q5 (by simp)
  have h1 := a6 (by simp)
  have h2 := b6 (by simp)
  rw [e1] at h1
  rw [e2] at h2
  cases h1
  cases h2
  exact q t g r1 r2 p1 p2 ht ⟨ng, og⟩ wg a1 b1 (fun e => q45 (by simp) (by simp) (by rw [a1, b1, e])) a2 b2 a4 b4 f1 f2
 ·have hr : List.range twoVOps.length = [0, 1, 2, 3, 4, 5, 6, 7] := rfl
  rw [hr]
  exact ⟨fun _ _ => rfl, ⟨wf, Nat.le_refl _, fun _ _ => rfl⟩, fun hm => absurd (by decide) hm, fun hm => absurd (by decide) hm, fun hm => absurd (by decide) hm, fun hm => absurd (by decide) hm, fun hm => absurd (by decide) hm, fun hm => absurd (by decide) hm, fun hm => absurd (by decide) hm, fun hm => absurd (by decide) hm, fun hm => absurd (by decide) hm⟩
def twoPOps : List SI := [⟨some 25, none, .op (.load true 29 (.t 4))⟩, ⟨some 26, none, .call (.c (.func (.func 7) [] [])) [.t 25]⟩, ⟨some 27, none, .op (.load true 29 (.t 4))⟩, ⟨some 28, none, .call (.c (.func (.func 7) [] [])) [.t 27]⟩, ⟨some 9, none, .op (.alloc zP29)⟩, ⟨some 10, none, .op (.alloc zP29)⟩, ⟨none, none, .op (.store 29 (.t 9) (.t 26))⟩, ⟨none, none, .op (.store 29 (.t 10) (.t 28))⟩]
def zj2 : List (Nat × Nat) := [(1, 2), (0, 4), (1, 4), (2, 4), (3, 4), (0, 5), (1, 5), (2, 5), (3, 5), (4, 5)]
def zlp (h : H) (t0 : Tm) (row : List V) (Φ : List V -> H -> Prop) (left : List Nat) (t : Tm) (g : H) : Prop :=
 (∀ k, k ∉ [25, 26, 27, 28, 9, 10] -> t k = t0 k) ∧ (g.WF ∧ h.next ≤ g.next ∧ ∀ i, i < h.next -> g.get i = h.get i) ∧
 (0 ∉ left -> t 25 = .agg row) ∧ (1 ∉ left -> ∃ r, t 26 = .agg r ∧ Φ r g) ∧ (2 ∉ left -> t 27 = .agg row) ∧ (3 ∉ left -> ∃ r, t 28 = .agg r ∧ Φ r g) ∧
 (4 ∉ left -> ∃ p x, t 9 = .ptr p 29 0 ∧ h.next ≤ p ∧ p < g.next ∧ g.get p = some (.row x) ∧ x.length = 29 ∧ (6 ∉ left -> t 26 = .agg x)) ∧
 (5 ∉ left -> ∃ p x, t 10 = .ptr p 29 0 ∧ h.next ≤ p ∧ p < g.next ∧ g.get p = some (.row x) ∧ x.length = 29 ∧ (7 ∉ left -> t 28 = .agg x)) ∧
 (4 ∉ left -> 5 ∉ left -> t 9 ≠ t 10) ∧ (6 ∉ left -> 1 ∉ left ∧ 4 ∉ left) ∧ (7 ∉ left -> 3 ∉ left ∧ 5 ∉ left)
theorem zll {h : H} {t0 : Tm} {k0 : Nat} {row : List V} (hs : t0 4 = .ptr k0 29 0) (hk : k0 < h.next) (hc : zad h.get k0 29 = some row) (hl : row.length = 29) (Φ : List V -> H -> Prop)
  (hΦ : ∀ r g g', Φ r g -> g.next ≤ g'.next -> (∀ i sz cs, g.get i = some (.grow sz cs) -> g'.get i = some (.grow sz cs)) -> Φ r g') (hΦl : ∀ r g, Φ r g -> r.length = 29 ∧ r.all V.one = true)
  (ex : ∀ g : H, g.WF -> h.next ≤ g.next -> ∃ r g', Ge g g' ∧ g'.WF ∧ Φ r g')
  (call : ∀ g : H, g.WF -> h.next ≤ g.next -> (∀ i, i < h.next -> g.get i = h.get i) -> Acalls Tryz.prog 7 [.agg row] g fun w g' => ∃ r, w = .agg r ∧ Ge g g' ∧ g'.WF ∧ Φ r g') :
  zfO Tryz.prog zj2 twoPOps (zlp h t0 row Φ) := by
 intro pre j post t g hj hpre hpost ⟨ht, ⟨wg, ng, og⟩, q0, q1, q2, q3, q4, q5, q45, r6, r7⟩
 have need : ∀ i, i < j -> zl3 zj2 twoPOps i j = false -> i ∉ pre ++ j :: post := fun i hi hf hm => by
  simp only [List.mem_append, List.mem_cons] at hm
  rcases hm with hm | rfl | hm
  ·have := (hpre i hm).2; rw [hf] at this; cases this
  ·omega
  ·have := (hpost i hm).1; omega
 have back : ∀ i, i ≠ j -> i ∉ pre ++ post -> i ∉ pre ++ j :: post := fun i hi hn hm => by
  simp only [List.mem_append, List.mem_cons] at hm hn
  rcases hm with hm | rfl | hm
  ·exact hn (.inl hm)
  ·exact hi rfl
  ·exact hn (.inr hm)
 have hts : t 4 = .ptr k0 29 0 := by rw [ht 4 (by decide)]; exact hs
 have hcg : zad g.get k0 29 = some row := by rw [<- hc]; exact zb4 (og k0 hk)
 have sub : ∀ i, i ∉ pre ++ j :: post -> i ∉ pre ++ post := fun i hn hm => hn (by
  simp only [List.mem_append, List.mem_cons] at hm ⊢
  rcases hm with hm | hm
  ·exact .inl hm
  ·exact .inr (.inr hm))
 have htk : row.take 29 = row := List.take_of_length_le (by omega)
 have hj8 : j = 0 ∨ j = 1 ∨ j = 2 ∨ j = 3 ∨ j = 4 ∨ j = 5 ∨ j = 6 ∨ j = 7 := by simp [twoPOps] at hj; omega
 obtain rfl | rfl | rfl | rfl | rfl | rfl | rfl | rfl := hj8
 show Sstep Tryz.prog ⟨some 25, none, .op (.load true 29 (.t 4))⟩ t g _
 simp [Sstep, zau, hts, hcg, hl, htk]
 obtain ⟨wG, hG, hK, oG, rK⟩ := zbW wg wg (Ge.refl g) og ng
 refine ⟨?_, ⟨wG, by first | omega | (simp; omega), oG⟩, ?_, ?_, ?_, ?_, ?_, ?_, ?_, ?_, ?_⟩
 rotate_left 10
 have e0 := q0 (need 0 (by decide) (by decide))
 show Sstep Tryz.prog ⟨some 26, none, .call (.c (.func (.func 7) [] [])) [.t 25]⟩ t g _
 simp [Sstep, zau, e0]
 obtain ⟨r9, g9, x1, x2, x3⟩ := ex g wg ng
 refine ⟨fun w g' => ∃ r, w = .agg r ∧ Ge g g' ∧ g'.WF ∧ Φ r g', ⟨.agg r9, g9, r9, rfl, x1, x2, x3⟩, call g wg ng og, ?_⟩
 rintro _ G ⟨r, rfl, gG, wG, fG⟩
 obtain ⟨wG, hG, hK, oG, rK⟩ := zbW wg wG gG og ng
 refine ⟨?_, ⟨wG, by first | omega | (simp; omega), oG⟩, ?_, ?_, ?_, ?_, ?_, ?_, ?_, ?_, ?_⟩
 rotate_left 10
 show Sstep Tryz.prog ⟨some 27, none, .op (.load true 29 (.t 4))⟩ t g _
 simp [Sstep, zau, hts, hcg, hl, htk]
 obtain ⟨wG, hG, hK, oG, rK⟩ := zbW wg wg (Ge.refl g) og ng
 refine ⟨?_, ⟨wG, by first | omega | (simp; omega), oG⟩, ?_, ?_, ?_, ?_, ?_, ?_, ?_, ?_, ?_⟩
 rotate_left 10
 have e0 := q2 (need 2 (by decide) (by decide))
 show Sstep Tryz.prog ⟨some 28, none, .call (.c (.func (.func 7) [] [])) [.t 27]⟩ t g _
 simp [Sstep, zau, e0]
 obtain ⟨r9, g9, x1, x2, x3⟩ := ex g wg ng
 refine ⟨fun w g' => ∃ r, w = .agg r ∧ Ge g g' ∧ g'.WF ∧ Φ r g', ⟨.agg r9, g9, r9, rfl, x1, x2, x3⟩, call g wg ng og, ?_⟩
 rintro _ G ⟨r, rfl, gG, wG, fG⟩
 obtain ⟨wG, hG, hK, oG, rK⟩ := zbW wg wG gG og ng
 refine ⟨?_, ⟨wG, by first | omega | (simp; omega), oG⟩, ?_, ?_, ?_, ?_, ?_, ?_, ?_, ?_, ?_⟩
 rotate_left 10
 show Sstep Tryz.prog ⟨some 9, none, .op (.alloc zP29)⟩ t g _
 simp [Sstep, zau]
 obtain ⟨G, hGG⟩ : ∃ G, G = g.push (.row zP29) := ⟨_, rfl⟩
 rw [<- hGG]
 have gG : Ge g G := by rw [hGG]; exact (Ge.refl _).push _
 have nG : G.next = g.next + 1 := by rw [hGG]; simp
 have xG : G.get g.next = some (.row zP29) := by rw [hGG]; simp
 obtain ⟨wG, hG, hK, oG, rK⟩ := zbW wg (by rw [hGG]; exact wg.push _) gG og ng
 refine ⟨?_, ⟨wG, by first | omega | (simp; omega), oG⟩, ?_, ?_, ?_, ?_, ?_, ?_, ?_, ?_, ?_⟩
 rotate_left 10
 show Sstep Tryz.prog ⟨some 10, none, .op (.alloc zP29)⟩ t g _
 simp [Sstep, zau]
 obtain ⟨G, hGG⟩ : ∃ G, G = g.push (.row zP29) := ⟨_, rfl⟩
 rw [<- hGG]
 have gG : Ge g G := by rw [hGG]; exact (Ge.refl _).push _
 have nG : G.next = g.next + 1 := by rw [hGG]; simp
 have xG : G.get g.next = some (.row zP29) := by rw [hGG]; simp
 obtain ⟨wG, hG, hK, oG, rK⟩ := zbW wg (by rw [hGG]; exact wg.push _) gG og ng
 refine ⟨?_, ⟨wG, by first | omega | (simp; omega), oG⟩, ?_, ?_, ?_, ?_, ?_, ?_, ?_, ?_, ?_⟩
 rotate_left 10
 obtain ⟨p, x, e1, e2, e3, e4, e5, _⟩ := q4 (need 4 (by decide) (by decide))
 obtain ⟨r, c1, c2⟩ := q1 (need 1 (by decide) (by decide))
 obtain ⟨c3, c4⟩ := hΦl r g c2
 have hx : x.drop 29 = [] := List.drop_eq_nil_of_le (by omega)
 show Sstep Tryz.prog ⟨none, none, .op (.store 29 (.t 9) (.t 26))⟩ t g _
 simp [Sstep, zau, e1, e4, e5, c1, c3, hx]
 rw [if_pos (List.all_eq_true.1 c4)]
 show zlp h t0 row Φ (pre ++ post) t (g.set p (.row r))
 obtain ⟨wG, hG, hK, oG, rK⟩ := zeK (r := r) wg e4 e3 e2 og
 refine ⟨?_, ⟨wG, by first | omega | (simp; omega), oG⟩, ?_, ?_, ?_, ?_, ?_, ?_, ?_, ?_, ?_⟩
 rotate_left 10
 obtain ⟨p, x, e1, e2, e3, e4, e5, _⟩ := q5 (need 5 (by decide) (by decide))
 obtain ⟨r, c1, c2⟩ := q3 (need 3 (by decide) (by decide))
 obtain ⟨c3, c4⟩ := hΦl r g c2
 have hx : x.drop 29 = [] := List.drop_eq_nil_of_le (by omega)
 show Sstep Tryz.prog ⟨none, none, .op (.store 29 (.t 10) (.t 28))⟩ t g _
 simp [Sstep, zau, e1, e4, e5, c1, c3, hx]
 rw [if_pos (List.all_eq_true.1 c4)]
 show zlp h t0 row Φ (pre ++ post) t (g.set p (.row r))
 obtain ⟨wG, hG, hK, oG, rK⟩ := zeK (r := r) wg e4 e3 e2 og
 refine ⟨?_, ⟨wG, by first | omega | (simp; omega), oG⟩, ?_, ?_, ?_, ?_, ?_, ?_, ?_, ?_, ?_⟩
 rotate_left 10
 all_goals first
  | (intro k hk; have := ht k hk; simp at hk; simp [hk, this]; done)
  | (intro _; simp; done)
  | (intro _; refine ⟨r, ?_, fG⟩; simp; done)
  | exact fun hm => by simpa using q0 (back 0 (by decide) hm)
  | exact fun hm => by simpa using q2 (back 2 (by decide) hm)
  | exact fun hm => by obtain ⟨r2, e, f⟩ := q1 (back 1 (by decide) hm); exact ⟨r2, by simpa using e, hΦ r2 g _ f hG hK⟩
  | exact fun hm => by obtain ⟨r2, e, f⟩ := q3 (back 3 (by decide) hm); exact ⟨r2, by simpa using e, hΦ r2 g _ f hG hK⟩
  | (intro _; refine ⟨g.next, zP29, ?_, ng, by omega, xG, rfl, fun hm => absurd (r6 (back 6 (by decide) hm)).2 ?_⟩ <;> simp [zP29] <;> done)
  | exact fun hm => by obtain ⟨p, x, e, a1, a2, a3, a4, a5⟩ := q4 (back 4 (by decide) hm); exact ⟨p, x, by simpa using e, a1, by first | omega | simpa using a2, by first | exact rK _ _ a2 a3 | exact rK _ _ (fun h9 => by subst h9; first | exact q45 (need 4 (by decide) (by decide)) (back 5 (by decide) hm) (e1.trans e.symm) | exact q45 (back 4 (by decide) hm) (need 5 (by decide) (by decide)) (e.trans e1.symm)) a3, a4, fun hm6 => by first | simpa using a5 (back 6 (by decide) hm6) | exact absurd (r6 (back 6 (by decide) hm6)).1 (by simp)⟩
  | (intro _; refine ⟨g.next, zP29, ?_, ng, by omega, xG, rfl, fun hm => absurd (r7 (back 7 (by decide) hm)).2 ?_⟩ <;> simp [zP29] <;> done)
  | exact fun hm => by obtain ⟨p, x, e, a1, a2, a3, a4, a5⟩ := q5 (back 5 (by decide) hm); exact ⟨p, x, by simpa using e, a1, by first | omega | simpa using a2, by first | exact rK _ _ a2 a3 | exact rK _ _ (fun h9 => by subst h9; first | exact q45 (need 4 (by decide) (by decide)) (back 5 (by decide) hm) (e1.trans e.symm) | exact q45 (back 4 (by decide) hm) (need 5 (by decide) (by decide)) (e.trans e1.symm)) a3, a4, fun hm6 => by first | simpa using a5 (back 7 (by decide) hm6) | exact absurd (r7 (back 7 (by decide) hm6)).1 (by simp)⟩
  | exact fun _ => ⟨p, r, by simpa using e1, e2, by simpa using e3, by simp, c3, fun _ => by simpa using c1⟩
  | exact fun h4 h5 => by simpa using q45 (back 4 (by decide) h4) (back 5 (by decide) h5)
  | exact fun _ h5 => by obtain ⟨p, x, e, a1, a2, _⟩ := q5 (back 5 (by decide) h5); simp [e]; omega
  | exact fun h4 _ => by obtain ⟨p, x, e, a1, a2, _⟩ := q4 (back 4 (by decide) h4); simp [e]; omega
  | exact fun hm => ⟨sub 1 (r6 (back 6 (by decide) hm)).1, sub 4 (r6 (back 6 (by decide) hm)).2⟩
  | exact fun hm => ⟨sub 1 (need 1 (by decide) (by decide)), sub 4 (need 4 (by decide) (by decide))⟩
  | exact fun hm => ⟨sub 3 (r7 (back 7 (by decide) hm)).1, sub 5 (r7 (back 7 (by decide) hm)).2⟩
  | exact fun hm => ⟨sub 3 (need 3 (by decide) (by decide)), sub 5 (need 5 (by decide) (by decide))⟩
theorem znc {h : H} {t0 : Tm} {k0 : Nat} {row : List V} {Q : Exit -> Tm -> H -> Prop} (wf : h.WF) (hs : t0 4 = .ptr k0 29 0) (hk : k0 < h.next) (hc : zad h.get k0 29 = some row) (hl : row.length = 29) (Φ : List V -> H -> Prop)
  (hΦ : ∀ r g g', Φ r g -> g.next ≤ g'.next -> (∀ i sz cs, g.get i = some (.grow sz cs) -> g'.get i = some (.grow sz cs)) -> Φ r g') (hΦl : ∀ r g, Φ r g -> r.length = 29 ∧ r.all V.one = true)
  (ex : ∀ g : H, g.WF -> h.next ≤ g.next -> ∃ r g', Ge g g' ∧ g'.WF ∧ Φ r g')
  (call : ∀ g : H, g.WF -> h.next ≤ g.next -> (∀ i, i < h.next -> g.get i = h.get i) -> Acalls Tryz.prog 7 [.agg row] g fun w g' => ∃ r, w = .agg r ∧ Ge g g' ∧ g'.WF ∧ Φ r g')
  (q : ∀ (t : Tm) (g : H) (r1 r2 : List V) (p1 p2 : Nat), (∀ k, k ∉ [25, 26, 27, 28, 9, 10] -> t k = t0 k) -> Ge h g -> g.WF -> t 9 = .ptr p1 29 0 -> t 10 = .ptr p2 29 0 -> p1 ≠ p2 -> h.next ≤ p1 -> h.next ≤ p2 -> g.get p1 = some (.row r1) -> g.get p2 = some (.row r2) -> Φ r1 g -> Φ r2 g -> Q .normal t g) :
  Cwp Tryz.prog (.dreg zj2 twoPOps) Q t0 h := by
 refine zid (zlp h t0 row Φ) (zll hs hk hc hl Φ hΦ hΦl ex call) (fun t g hJ => ?_) ?_
 ·obtain ⟨ht, ⟨wg, ng, og⟩, _, q1, _, q3, q4, q5, q45, _, _⟩ := hJ
  obtain ⟨r1, e1, f1⟩ := q1 (by simp)
  obtain ⟨r2, e2, f2⟩ := q3 (by simp)
  obtain ⟨p1, x1, a1, a2, _, a4, _, a6⟩ := q4 (by simp)
  obtain ⟨p2, x2, b1, b2, _, b4, _, b6⟩ := q5 (by simp)
  have h1 := a6 (by simp)
  have h2 := b6 (by simp)
  rw [e1] at h1
  rw [e2] at h2
  cases h1
  cases h2
  exact q t g r1 r2 p1 p2 ht ⟨ng, og⟩ wg a1 b1 (fun e => q45 (by simp) (by simp) (by rw [a1, b1, e])) a2 b2 a4 b4 f1 f2
 ·have hr : List.range twoPOps.length = [0, 1, 2, 3, 4, 5, 6, 7] := rfl
  rw [hr]
  exact ⟨fun _ _ => rfl, ⟨wf, Nat.le_refl _, fun _ _ => rfl⟩, fun hm => absurd (by decide) hm, fun hm => absurd (by decide) hm, fun hm => absurd (by decide) hm, fun hm => absurd (by decide) hm, fun hm => absurd (by decide) hm, fun hm => absurd (by decide) hm, fun hm => absurd (by decide) hm, fun hm => absurd (by decide) hm, fun hm => absurd (by decide) hm⟩
end Go.Am

namespace Go.Am
open Go.Proofs

set_option maxRecDepth 100000
def pthZ : Pth := ⟨⟨⟨0, 0, [], 0⟩, 0, 0⟩, att0, ⟨0, [], 0, 0, [], []⟩, false⟩
theorem zed (g : Nat -> Option O) (sz : Nat) : Sls g sz .nilsl [] := ⟨.inl ⟨rfl, .inl rfl⟩, by simp, rfl, by simp⟩
theorem zc1 (g : Nat -> Option O) : AttAt g att0 .nilsl .nilsl .nilsl .nilsl .nilsl := ⟨⟨[], zed _ _, rfl, by simp [att0]⟩, zed _ _, zed _ _, zed _ _, zed _ _⟩
def upR (v : Vr) (p : Pth) (label : Nat) : Pth × Int := if upOk v p label = true then (if 64 < (upX v p).length then (pthZ, 7) else (upP v p label, 0)) else (pthZ, 2)
def zck (v : Vr) (p : Pth) : Pth × Bool × Int := if zcF v p = true then (if zd5 v p = true then (zaQ p 0 0 v.name, true, 0) else (pthZ, false, 0)) else (pthZ, false, 2)
theorem exZ (h : H) (lo : Nat) : ExAt h lo .nilsl [] := ⟨zed _ _, .inl ⟨rfl, .inl rfl⟩⟩
theorem Fc.ex {h : H} {lo : Nat} {v : V} {l : List Nat} (f : Fc h lo 1 v (l.map cX)) (hb : l.length < 9223372036854775808) : ExAt h lo v l := by
 refine ⟨f.sls (za0 _) (by simpa using hb), ?_⟩
 rcases f with ⟨e, hv⟩ | ⟨hne, ⟨e, _⟩ | ⟨_, j, a, b, rfl, d⟩⟩
 ·exact .inl ⟨by simpa using e, hv⟩
 ·exact absurd e hne
 ·exact .inr ⟨j, _, _, a, b, by rw [List.length_map], d, rfl⟩
theorem znz {v : Vr} {p : Pth} {label : Nat} (h : upOk v p label = true) : AttSz p.att := by
 simp only [upOk, zbs, Bool.and_eq_true] at h
 exact zdI h.1.1.1.2.1.2
theorem zpK {h : H} {v : Vr} {vi ve : V} {p : Pth} {vp vc vx vl vk : V} (VA : VrAt h.get v vi ve) (ok : VrOk v) (A : AttAt h.get p.att vp vc vx vl vk) (hn : p.src.peer.length ≤ 9223372036854775807) {label : Nat} {Q : V -> H -> Prop}
  (q : ∀ wp wc wx wl wk h', Ge h h' -> h'.WF -> AttAt h'.get (upR v p label).1.att wp wc wx wl wk -> ExAt h' h.next wx (upR v p label).1.att.exts -> Q (.tup [.agg (zaf (upR v p label).1 wp wc wx wl wk), .int .i64 (upR v p label).2]) h') :
  Acalls Tryz.prog 8 [.agg (vrC v vi ve), .agg (zaf p vp vc vx vl vk), .int .u32 (label : Nat)] h Q := by
 refine zrF VA ok A hn (fun hu h' a b => ?_) (fun hu hl h' a b => ?_) fun hu hl wp wc wx wl wk h' a b c d => ?_
 ·have e : upR v p label = (pthZ, 2) := by unfold upR; simp [hu]
  rw [e] at q
  exact q _ _ _ _ _ h' a b (zc1 _) (exZ _ _)
 ·have e : upR v p label = (pthZ, 7) := by unfold upR; simp [hu, hl]
  rw [e] at q
  exact q _ _ _ _ _ h' a b (zc1 _) (exZ _ _)
 ·have e : upR v p label = (upP v p label, 0) := by unfold upR; simp [hu, hl]
  rw [e] at q
  exact q _ _ _ _ _ h' a b (c.at (znz hu) d.1) d
theorem zor {h : H} {v : Vr} {vi ve : V} {p : Pth} {vp vc vx vl vk : V} (VA : VrAt h.get v vi ve) (ok : VrOk v) (A : AttAt h.get p.att vp vc vx vl vk) (hn : p.src.peer.length ≤ 9223372036854775807) {label : Nat} {Q : V -> H -> Prop}
  (q : ∀ wp wc wx wl wk h', Ge h h' -> h'.WF -> AttAt h'.get (upR v p label).1.att wp wc wx wl wk -> Q (.tup [.agg (zaf (upR v p label).1 wp wc wx wl wk), .int .i64 (upR v p label).2]) h') :
  Acalls Tryz.prog 9 [.agg (vrC v vi ve), .agg (zaf p vp vc vx vl vk), .int .u32 (label : Nat)] h Q := by
 refine zp6 VA ok A hn (fun hu h' a b => ?_) (fun hu hl h' a b => ?_) fun hu hl wp wc wx wl wk h' a b c => ?_
 ·have e : upR v p label = (pthZ, 2) := by unfold upR; simp [hu]
  rw [e] at q
  exact q _ _ _ _ _ h' a b (zc1 _)
 ·have e : upR v p label = (pthZ, 7) := by unfold upR; simp [hu, hl]
  rw [e] at q
  exact q _ _ _ _ _ h' a b (zc1 _)
 ·have e : upR v p label = (upP v p label, 0) := by unfold upR; simp [hu, hl]
  rw [e] at q
  exact q _ _ _ _ _ h' a b c
theorem zmm {h : H} {v : Vr} {vi ve : V} {p : Pth} {vp vc vx vl vk : V} (VA : VrAt h.get v vi ve) (ok : VrOk v) (A : AttAt h.get p.att vp vc vx vl vk) (hn : p.src.peer.length ≤ 9223372036854775807) {Q : V -> H -> Prop}
  (q : ∀ wp wc wx wl wk h', Ge h h' -> h'.WF -> AttAt h'.get (zck v p).1.att wp wc wx wl wk -> ExAt h' h.next wx (zck v p).1.att.exts -> Q (.tup [.agg (zaf (zck v p).1 wp wc wx wl wk), .bool (zck v p).2.1, .int .i64 (zck v p).2.2]) h') :
  Acalls Tryz.prog 11 [.agg (vrC v vi ve), .agg (zaf p vp vc vx vl vk)] h Q := by
 refine zm8 VA ok A hn (fun hu h' a b => ?_) (fun hu hl h' a b => ?_) fun hu hl wp wc wx wl wk h' a b c => ?_
 ·have e : zck v p = (pthZ, false, 2) := by unfold zck; simp [hu]
  rw [e] at q
  exact q _ _ _ _ _ h' a b (zc1 _) (exZ _ _)
 ·have e : zck v p = (pthZ, false, 0) := by unfold zck; simp [hu, hl]
  rw [e] at q
  exact q _ _ _ _ _ h' a b (zc1 _) (exZ _ _)
 ·have e : zck v p = (zaQ p 0 0 v.name, true, 0) := by unfold zck; simp [hu, hl]
  rw [e] at q
  exact q _ _ _ _ _ h' a b c.at (c.exts.ex (by have := c.sz.exts; omega))
theorem zkD {h : H} {v : Vr} {vi ve : V} {p : Pth} {vp vc vx vl vk : V} (VA : VrAt h.get v vi ve) (ok : VrOk v) (A : AttAt h.get p.att vp vc vx vl vk) (hn : p.src.peer.length ≤ 9223372036854775807) {Q : V -> H -> Prop}
  (q : ∀ wp wc wx wl wk h', Ge h h' -> h'.WF -> AttAt h'.get (zck v p).1.att wp wc wx wl wk -> Q (.tup [.agg (zaf (zck v p).1 wp wc wx wl wk), .bool (zck v p).2.1, .int .i64 (zck v p).2.2]) h') :
  Acalls Tryz.prog 12 [.agg (vrC v vi ve), .agg (zaf p vp vc vx vl vk)] h Q := by
 refine zmd VA ok A hn (fun hu h' a b => ?_) (fun hu hl h' a b => ?_) fun hu hl wp wc wx wl wk h' a b c => ?_
 ·have e : zck v p = (pthZ, false, 2) := by unfold zck; simp [hu]
  rw [e] at q
  exact q _ _ _ _ _ h' a b (zc1 _)
 ·have e : zck v p = (pthZ, false, 0) := by unfold zck; simp [hu, hl]
  rw [e] at q
  exact q _ _ _ _ _ h' a b (zc1 _)
 ·have e : zck v p = (zaQ p 0 0 v.name, true, 0) := by unfold zck; simp [hu, hl]
  rw [e] at q
  exact q _ _ _ _ _ h' a b c

structure ExW (h : H) (lo : Nat) (v : V) (n : Nat) : Prop where
 len : ∀ g, lenV 1 g v = some (.int .i64 (n : Nat))
 at' : ∀ k, k < n -> ∃ j m cs, (∀ kd, zaM 1 v (.int kd (k : Int)) = some (.ptr j m k)) ∧ h.get j = some (.grow 1 cs) ∧ cs.length = m ∧ k + 1 ≤ m ∧ lo ≤ j ∧ j < h.next
 big : n < 9223372036854775808
theorem ExAt.w {h : H} {lo : Nat} {v : V} {l : List Nat} (e : ExAt h lo v l) : ExW h lo v l.length := by
 obtain ⟨s, e1 | ⟨j, n, cs, a, b, c, d, f⟩⟩ := e
 ·obtain ⟨rfl, rfl | ⟨k, _, rfl⟩⟩ := e1
  ·exact ⟨fun _ => rfl, fun k hk => absurd hk (by simp), by simp⟩
  ·exact ⟨fun _ => rfl, fun k hk => absurd hk (by simp), by simp⟩
 ·subst c
  refine ⟨fun _ => rfl, fun k hk => ⟨j, n, cs, fun kd => ?_, d, f, ?_, a, b⟩, by have := s.bound; simpa using this⟩
  ·simp only [zb5, Int.toNat_natCast]
   rw [if_pos ⟨by omega, by omega⟩]; simp
  ·obtain ⟨_, cs', e1, e2⟩ := s.cells (by omega)
   unfold zad at e1
   rw [d] at e1
   simp only at e1
   split at e1
   ·cases e1
    rename_i hc
    simp only [O.cells] at *
    omega
   ·cases e1
theorem ExW.set {h : H} {lo j n : Nat} {v : V} {cs cs' : List V} (e : ExW h lo v n) (hj : h.get j = some (.grow 1 cs)) (hl : cs'.length = cs.length) : ExW (h.set j (.grow 1 cs')) lo v n := by
 refine ⟨e.len, fun k hk => ?_, e.big⟩
 obtain ⟨i, m, ds, a, b, c, d, f, g⟩ := e.at' k hk
 by_cases hij : i = j
 ·subst hij
  rw [hj] at b
  cases b
  exact ⟨i, m, cs', a, by rw [H.get_set, if_pos rfl], by omega, d, f, by simpa using g⟩
 ·exact ⟨i, m, ds, a, by rw [H.get_set, if_neg hij]; exact b, c, d, f, by simpa using g⟩
theorem ExW.le {h : H} {lo lo' n : Nat} {v : V} (e : ExW h lo v n) (hl : lo' ≤ lo) : ExW h lo' v n :=
 ⟨e.len, fun k hk => by obtain ⟨i, m, ds, a, b, c, d, f, g⟩ := e.at' k hk; exact ⟨i, m, ds, a, b, c, d, by omega, g⟩, e.big⟩
theorem ExW.ge {h h' : H} {lo n : Nat} {v : V} (e : ExW h lo v n) (g : Ge h h') : ExW h' lo v n :=
 ⟨e.len, fun k hk => by obtain ⟨i, m, ds, a, b, c, d, f, x⟩ := e.at' k hk; exact ⟨i, m, ds, a, (g.2 i x).trans b, c, d, f, Nat.lt_of_lt_of_le x g.1⟩, e.big⟩
end Go.Am

namespace Go.Am
open Go.Proofs

set_option maxRecDepth 100000
theorem VrFr.keep {h h' : H} {lo : Nat} {v : Vr} {vi ve : V} (f : VrFr h lo v vi ve) (hn : h.next ≤ h'.next) (k : ∀ i sz cs, h.get i = some (.grow sz cs) -> h'.get i = some (.grow sz cs)) : VrFr h' lo v vi ve := by
 have kk : Keep3 h h' lo := ⟨hn, fun i sz cs _ _ e => k i sz cs e⟩
 exact ⟨f.imp.keep3 (by decide) (Nat.le_refl _) kk, f.exp.keep3 (by decide) (Nat.le_refl _) kk⟩
theorem znQ {g : H} (wg : g.WF) (v : Vr) : ∃ wi we g', Ge g g' ∧ g'.WF ∧ VrFr g' g.next v wi we := by
 obtain ⟨wi, g1, a1, b1, c1⟩ := zbN wg (sz := 1) (v.imp.map cX)
 obtain ⟨we, g2, a2, b2, c2⟩ := zbN b1 (sz := 1) (v.exp.map cX)
 exact ⟨wi, we, g2, a1.trans a2, b2, (c1.keep a2.1 fun i hi => a2.2 i (c1.lo i hi).2).fr, c2.fr.le a1.1⟩
theorem zgf (v : Vr) : (cutV v).imp.length ≤ 70 ∧ (cutV v).exp.length ≤ 70 := by unfold cutV; simp; omega
theorem VrFr.at {h : H} {lo : Nat} {v : Vr} {vi ve : V} (f : VrFr h lo (cutV v) vi ve) : VrAt h.get (cutV v) vi ve := ⟨f.imp.sls (za0 _) (by have := (zgf v).1; simp at this ⊢; omega), f.exp.sls (za0 _) (by have := (zgf v).2; simp at this ⊢; omega)⟩
theorem zhb : ∀ (l : List Sg) {g : H}, g.WF -> ∃ (es : List (List V)) (g' : H), Ge g g' ∧ g'.WF ∧ es.length = l.length ∧ ∀ (i : Nat) (s : Sg), l[i]? = some s -> ∃ w, es[i]? = some [.int .i64 s.kind, w] ∧ Fc g' g.next 1 w (s.ases.map cP)
 | [], g, wg => ⟨[], g, Ge.refl _, wg, rfl, by simp⟩
 | s :: l, g, wg => by
  obtain ⟨w, g1, a1, b1, c1⟩ := zbN wg (sz := 1) (s.ases.map cP)
  obtain ⟨es, g2, a2, b2, c2, d2⟩ := zhb l b1
  refine ⟨[.int .i64 s.kind, w] :: es, g2, a1.trans a2, b2, by simp [c2], fun i t hi => ?_⟩
  cases i with
  | zero => simp at hi; subst hi; exact ⟨w, rfl, (c1.keep a2.1 fun i hi => a2.2 i (c1.lo i hi).2).fr⟩
  | succ i => obtain ⟨u, e, f⟩ := d2 i t (by simpa using hi); exact ⟨u, by simpa using e, f.le a1.1⟩
theorem zl2 {g : H} (wg : g.WF) {a : Att} (z : AttSz a) : ∃ wp wc wx wl wk g', Ge g g' ∧ g'.WF ∧ AttFr g' g.next a wp wc wx wl wk := by
 obtain ⟨es, g1, a1, b1, c1, d1⟩ := zhb a.path wg
 obtain ⟨wp, g2, a2, b2, c2⟩ := zbN b1 (sz := 2) es
 obtain ⟨wc, g3, a3, b3, c3⟩ := zbN b2 (sz := 1) (a.comms.map cP)
 obtain ⟨wx, g4, a4, b4, c4⟩ := zbN b3 (sz := 1) (a.exts.map cX)
 obtain ⟨wl, g5, a5, b5, c5⟩ := zbN b4 (sz := 3) (a.larges.map cL)
 obtain ⟨wk, g6, a6, b6, c6⟩ := zbN b5 (sz := 1) (a.clus.map cP)
 have e1 := a1.1
 have e2 := a2.1
 have e3 := a3.1
 have e4 := a4.1
 have e5 := a5.1
 have t5 := a5.trans a6
 have t4 := a4.trans t5
 have t3 := a3.trans t4
 have t2 := a2.trans t3
 refine ⟨wp, wc, wx, wl, wk, g6, a1.trans t2, b6, ⟨⟨es, (c2.fr.ge t3).le (by omega), c1, fun i s hi => ?_⟩, (c3.fr.ge t4).le (by omega), (c4.fr.ge t5).le (by omega), (c5.fr.ge a6).le (by omega), c6.fr.le (by omega), z⟩⟩
 obtain ⟨w, e, f⟩ := d1 i s hi
 exact ⟨w, e, f.ge t2⟩
theorem zfI {P : Program} {F : List Nat} {K : Tm -> H -> Prop} {d : Option Nat} {is : List (SI × Nat)} {t : Tm} {h : H} {m g : Nat} {b : Bool} {ins : X} (e : t g = .bool b) : Awp P F K ((⟨d, some (g, b), ins⟩, m) :: is) t h = Awp P F K ((⟨d, none, ins⟩, m) :: is) t h := by
 simp [Awp, Astep, Sstep, zau, FootIn, e]
theorem zlo {h : H} {v : Vr} {vi ve : V} {p : Pth} {vp vc vx vl vk : V} {label : Nat} (VA : VrAt h.get v vi ve) (ci : zcc vi) (ce : zcc ve) (okv : VrOk (cutV v)) (A : AttAt h.get p.att vp vc vx vl vk) (z : AttSz p.att) (hn : p.src.peer.length ≤ 9223372036854775807) : Pure Tryz.prog 3 [.agg (vrC v vi ve), .agg (zaf p vp vc vx vl vk), .int .u32 (label : Nat)] h (.bool true) := by
 refine zak Tryz.func3 S.a0c S.a0e rfl (Nat.le_of_ble_eq_true rfl) fun wf => ?_; simp only [S.a0]
 obtain ⟨es, P⟩ := A.path
 have o1 := P.sls.one
 have o2 := A.comms.one
 have o3 := A.exts.one
 have o4 := A.larges.one
 have o5 := A.clus.one
 have o6 := VA.imp.one
 have o7 := VA.exp.one
 obtain ⟨h2, hh2⟩ : ∃ h2, h2 = (h.push (.row (vrC v vi ve))).push (.row (zaf p vp vc vx vl vk)) := ⟨_, rfl⟩
 have g2 : Ge h h2 := by rw [hh2]; exact ((Ge.refl _).push _).push _
 have w2 : h2.WF := by rw [hh2]; exact (wf.push _).push _
 have n2 : h2.next = h.next + 2 := by rw [hh2]; simp
 have c0 : zad h2.get h.next 4 = some (vrC v vi ve) := by rw [hh2]; simp [vrC]
 have c1 : zad h2.get (h.next + 1) 29 = some (zaf p vp vc vx vl vk) := by rw [hh2]; simp [zaf]
 have V2 := VA.ge wf g2
 have A2 := A.ge wf g2
 simp only [vrC, zaf] at hh2
 simp [vrC, zaf, o1, o2, o3, o4, o5, o6, o7]
 rw [<- hh2]
 refine znE w2 (k0 := h.next) (row := vrC v vi ve) (by simp) (by omega) c0 rfl (fun r g => ∃ wi we, r = vrC (cutV v) wi we ∧ VrFr g h2.next (cutV v) wi we) ?_ ?_ ?_ ?_ ?_
 ·rintro r g g' ⟨wi, we, rfl, f⟩ a b
  exact ⟨wi, we, rfl, f.keep a b⟩
 ·rintro r g ⟨wi, we, rfl, f⟩
  exact ⟨rfl, by simp [vrC, f.imp.one, f.exp.one]⟩
 ·intro g wg ng
  obtain ⟨wi, we, g', a, b, c⟩ := znQ wg (cutV v)
  exact ⟨_, g', a, b, wi, we, rfl, ⟨c.imp.le ng, c.exp.le ng⟩⟩
 ·intro g wg ng og
  have gg : Ge h2 g := ⟨ng, og⟩
  exact znV (V2.ge w2 gg) ci ce fun wi we h' a b c => ⟨_, rfl, a, b, wi, we, rfl, ⟨c.imp.le ng, c.exp.le ng⟩⟩
 intro t g r1 r2 p1 p2 ht gg wg t7 t8 h12 l1 l2 x1 x2 F1 F2
 have t4 : t 4 = .ptr (h.next + 1) 29 0 := by rw [ht 4 (by decide)]; simp
 have t2 : t 2 = .int .u32 (label : Nat) := by rw [ht 2 (by decide)]; simp
 clear ht
 simp
 have A3 := A2.ge w2 gg
 have ngg := gg.1
 refine znc wg (k0 := h.next + 1) (row := zaf p vp vc vx vl vk) t4 (by omega) (by rw [gg.cells (by omega)]; exact c1) rfl (fun r g' => ∃ wp wc wx wl wk, r = zaf p wp wc wx wl wk ∧ AttFr g' g.next p.att wp wc wx wl wk) ?_ ?_ ?_ ?_ ?_
 ·rintro r g3 g4 ⟨wp, wc, wx, wl, wk, rfl, f⟩ a b
  exact ⟨wp, wc, wx, wl, wk, rfl, f.keep3 (Nat.le_refl _) ⟨a, fun i sz cs _ _ e => b i sz cs e⟩⟩
 ·rintro r g3 ⟨wp, wc, wx, wl, wk, rfl, f⟩
  obtain ⟨f1, f2, f3, f4, f5⟩ := f.one
  exact ⟨rfl, by simp [zaf, f1, f2, f3, f4, f5]⟩
 ·intro g3 wg3 ng3
  obtain ⟨wp, wc, wx, wl, wk, g', a, b, c⟩ := zl2 wg3 z
  exact ⟨_, g', a, b, wp, wc, wx, wl, wk, rfl, c.le ng3⟩
 ·intro g3 wg3 ng3 og3
  have gg3 : Ge g g3 := ⟨ng3, og3⟩
  exact zk6 (A3.ge wg gg3) z fun wp wc wx wl wk h' a b c => ⟨_, rfl, a, b, wp, wc, wx, wl, wk, rfl, c.le ng3⟩
 intro t3 g3 s1 s2 p3 p4 ht3 gg3 wg3 t9 t10 h34 l3 l4 x3 x4 F3 F4
 have u7 : t3 7 = .ptr p1 4 0 := by rw [ht3 7 (by decide)]; exact t7
 have u8 : t3 8 = .ptr p2 4 0 := by rw [ht3 8 (by decide)]; exact t8
 have u2 : t3 2 = .int .u32 (label : Nat) := by rw [ht3 2 (by decide)]; exact t2
 clear ht3
 obtain ⟨wi, we, rfl, V1⟩ := F1
 obtain ⟨xi, xe, rfl, V2'⟩ := F2
 obtain ⟨wp, wc, wx, wl, wk, rfl, P1⟩ := F3
 obtain ⟨yp, yc, yx, yl, yk, rfl, P2⟩ := F4
 have c7 : zad g3.get p1 4 = some (vrC (cutV v) wi we) := (zae (n := 4) ((gg3.2 _ (wg.lt x1)).trans x1) rfl).trans rfl
 have c8 : zad g3.get p2 4 = some (vrC (cutV v) xi xe) := (zae (n := 4) ((gg3.2 _ (wg.lt x2)).trans x2) rfl).trans rfl
 have c9 : zad g3.get p3 29 = some (zaf p wp wc wx wl wk) := (zae (n := 29) x3 rfl).trans rfl
 have c10 : zad g3.get p4 29 = some (zaf p yp yc yx yl yk) := (zae (n := 29) x4 rfl).trans rfl
 have VA1 : VrAt g3.get (cutV v) wi we := V1.at.ge wg gg3
 have VA2 : VrAt g3.get (cutV v) xi xe := V2'.at.ge wg gg3
 obtain ⟨ra, hra⟩ : ∃ x, x = upR (cutV v) p label := ⟨_, rfl⟩
 have upc := fun Q q => zpK (Q := Q) (label := label) VA1 okv P1.at hn q
 rw [<- hra] at upc
 simp only [vrC, zaf] at c7 c8 c9 c10 upc
 simp [u7, u2, t9, c7, c9]
 refine upc _ fun ap ac ax al ak h4 g4 w4 A4 E4 => ?_
 clear upc
 obtain ⟨es4, PP4⟩ := A4.path
 have o41 := PP4.sls.one
 have o42 := A4.comms.one
 have o43 := A4.exts.one
 have o44 := A4.larges.one
 have o45 := A4.clus.one
 have np1 : p1 < g3.next := by have := wg.lt x1; have := gg3.1; omega
 have np2 : p2 < g3.next := by have := wg.lt x2; have := gg3.1; omega
 have np3 : p3 < g3.next := wg3.lt x3
 have np4 : p4 < g3.next := wg3.lt x4
 have n4 := g4.1
 obtain ⟨h5, hh5⟩ : ∃ h5, h5 = h4.push (.row (zaf ra.1 ap ac ax al ak)) := ⟨_, rfl⟩
 have g5' : Ge h4 h5 := by rw [hh5]; exact (Ge.refl _).push _
 have g5 : Ge g3 h5 := g4.trans g5'
 have w5 : h5.WF := by rw [hh5]; exact w4.push _
 have k11 : zad h5.get h4.next 29 = some (zaf ra.1 ap ac ax al ak) := by rw [hh5]; simp [zaf]
 have c8' := (g5.cells np2).trans c8
 have c10' := (g5.cells np4).trans c10
 have upd := fun Q q => zor (Q := Q) (label := label) (VA2.ge wg3 g5) okv (P2.at.ge wg3 g5) hn q
 rw [<- hra] at upd
 simp only [vrC, zaf] at upd hh5 k11
 simp [o41, o42, o43, o44, o45]
 rw [zaW _ _ _ rfl, <- hh5]
 simp [u8, u2, t10, c8', c10']
 refine upd _ fun bp bc bx bl bk h6 g6 w6 B6 => ?_
 clear upd
 obtain ⟨es6, PP6⟩ := B6.path
 have o61 := PP6.sls.one
 have o62 := B6.comms.one
 have o63 := B6.exts.one
 have o64 := B6.larges.one
 have o65 := B6.clus.one
 have n6 := g6.1
 have n5 : h5.next = h4.next + 1 := by rw [hh5]; simp
 obtain ⟨h7, hh7⟩ : ∃ h7, h7 = h6.push (.row (zaf ra.1 bp bc bx bl bk)) := ⟨_, rfl⟩
 have g7' : Ge h6 h7 := by rw [hh7]; exact (Ge.refl _).push _
 have g57 : Ge h5 h7 := g6.trans g7'
 have g7 : Ge g3 h7 := g5.trans g57
 have w7 : h7.WF := by rw [hh7]; exact w6.push _
 have n7 : h7.next = h6.next + 1 := by rw [hh7]; simp
 have k13 : zad h7.get h6.next 29 = some (zaf ra.1 bp bc bx bl bk) := by rw [hh7]; simp [zaf]
 have k11' := (g6.cells (by omega)).trans k11
 have ne1 : ¬ h4.next = h6.next := by omega
 have A7 := A4.ge w4 (g5'.trans g57)
 have B7 := B6.ge w6 g7'
 have sp1 := zeX A7 B7
 have c7' := (g7.cells np1).trans c7
 have c9' := (g7.cells np3).trans c9
 obtain ⟨rd, hrd⟩ : ∃ x, x = zck (cutV v) p := ⟨_, rfl⟩
 have dnc := fun Q q => zmm (Q := Q) (VA1.ge wg3 g7) okv (P1.at.ge wg3 g7) hn q
 rw [<- hrd] at dnc
 simp only [vrC, zaf] at sp1 hh7 k13 dnc
 simp [o61, o62, o63, o64, o65]
 rw [zaW _ _ _ rfl, <- hh7]
 simp [ne1, k11', k13]
 refine sp1 _ ?_
 clear sp1
 simp [u7, t9, c7', c9']
 refine dnc _ fun dp dc dx dl dk h8 g8 w8 D8 X8 => ?_
 clear dnc
 obtain ⟨es8, PP8⟩ := D8.path
 have o81 := PP8.sls.one
 have o82 := D8.comms.one
 have o83 := D8.exts.one
 have o84 := D8.larges.one
 have o85 := D8.clus.one
 have n8 := g8.1
 obtain ⟨h9, hh9⟩ : ∃ h9, h9 = h8.push (.row (zaf rd.1 dp dc dx dl dk)) := ⟨_, rfl⟩
 have g9' : Ge h8 h9 := by rw [hh9]; exact (Ge.refl _).push _
 have g79 : Ge h7 h9 := g8.trans g9'
 have g9 : Ge g3 h9 := g7.trans g79
 have w9 : h9.WF := by rw [hh9]; exact w8.push _
 have n9 : h9.next = h8.next + 1 := by rw [hh9]; simp
 have k15 : zad h9.get h8.next 29 = some (zaf rd.1 dp dc dx dl dk) := by rw [hh9]; simp [zaf]
 have c8'' := (g9.cells np2).trans c8
 have c10'' := (g9.cells np4).trans c10
 have rdn := fun Q q => zkD (Q := Q) (VA2.ge wg3 g9) okv (P2.at.ge wg3 g9) hn q
 rw [<- hrd] at rdn
 simp only [vrC, zaf] at rdn hh9 k15
 simp [o81, o82, o83, o84, o85]
 rw [zaW _ _ _ rfl, <- hh9]
 simp [u8, t10, c8'', c10'']
 refine rdn _ fun ep ec ex el ek h10 g10 w10 D10 => ?_
 clear rdn
 obtain ⟨es10, PP10⟩ := D10.path
 have o101 := PP10.sls.one
 have o102 := D10.comms.one
 have o103 := D10.exts.one
 have o104 := D10.larges.one
 have o105 := D10.clus.one
 have n10 := g10.1
 obtain ⟨h11, hh11⟩ : ∃ h11, h11 = h10.push (.row (zaf rd.1 ep ec ex el ek)) := ⟨_, rfl⟩
 have g11' : Ge h10 h11 := by rw [hh11]; exact (Ge.refl _).push _
 have g9b : Ge h9 h11 := g10.trans g11'
 have g11 : Ge g3 h11 := g9.trans g9b
 have w11 : h11.WF := by rw [hh11]; exact w10.push _
 have n11 : h11.next = h10.next + 1 := by rw [hh11]; simp
 have k17 : zad h11.get h10.next 29 = some (zaf rd.1 ep ec ex el ek) := by rw [hh11]; simp [zaf]
 have k15' := (g10.cells (by omega)).trans k15
 have ne2 : ¬ h8.next = h10.next := by omega
 have sp2 := zeX (D8.ge w8 (g9'.trans g9b)) (D10.ge w10 g11')
 simp only [zaf] at sp2 hh11 k17
 simp [o101, o102, o103, o104, o105]
 rw [zaW _ _ _ rfl, <- hh11]
 simp [ne2, k15', k17]
 refine sp2 _ ?_
 clear sp2
 have n10' : h10.next < h11.next := by omega
 obtain ⟨na, hna⟩ : ∃ n, n = ra.1.att.exts.length := ⟨_, rfl⟩
 obtain ⟨nd, hnd⟩ : ∃ n, n = rd.1.att.exts.length := ⟨_, rfl⟩
 have WA := (E4.ge (g5'.trans (g57.trans (g79.trans g9b)))).w
 have WD := ((X8.ge (g9'.trans g9b)).le g7.1).w
 rw [<- hna] at WA
 rw [<- hnd] at WD
 obtain ⟨Z, hZ⟩ : ∃ Z : H -> Prop, Z = fun k => (∀ j, j < g3.next -> k.get j = g3.get j) ∧ g3.next ≤ k.next ∧ k.WF ∧ k.get h4.next = some (.row (zaf ra.1 ap ac ax al ak)) ∧ k.get h8.next = some (.row (zaf rd.1 dp dc dx dl dk)) ∧ ExW k g3.next ax na ∧ ExW k g3.next dx nd := ⟨_, rfl⟩
 have z11 : Z h11 := by
  rw [hZ]
  refine ⟨g11.2, g11.1, w11, ?_, ?_, WA, WD⟩
  ·rw [(g57.trans (g79.trans g9b)).2 _ (by omega), hh5]; simp [zaf]
  ·rw [g9b.2 _ (by omega), hh9]; simp [zaf]
 have zset : ∀ {k : H} {j : Nat} {cs cs' : List V}, Z k -> k.get j = some (.grow 1 cs) -> g3.next ≤ j -> j < k.next -> cs'.length = cs.length -> Z (k.set j (.grow 1 cs')) := by
  intro k j cs cs' hz hj l1 l2 hl
  rw [hZ] at hz ⊢
  obtain ⟨z1, z2, z3, z4, z5, z6, z7⟩ := hz
  refine ⟨fun i hi => by rw [H.get_set, if_neg (by omega)]; exact z1 i hi, by simpa using z2, z3.set l2 _, ?_, ?_, z6.set hj hl, z7.set hj hl⟩
  ·rw [H.get_set, if_neg (fun e => by subst e; rw [hj] at z4; cases z4)]; exact z4
  ·rw [H.get_set, if_neg (fun e => by subst e; rw [hj] at z5; cases z5)]; exact z5
 simp [zgz]
 refine zap (fun i t' k => (t' 19 = .int .i64 (i : Nat) ∧ t' 7 = .ptr p1 4 0 ∧ t' 8 = .ptr p2 4 0 ∧ t' 9 = .ptr p3 29 0 ∧ t' 10 = .ptr p4 29 0 ∧ t' 11 = .ptr h4.next 29 0 ∧ t' 15 = .ptr h8.next 29 0) ∧ Z k) na ⟨⟨by simp, by simp [u7], by simp [u8], by simp [t9], by simp [t10], by simp, by simp⟩, z11⟩ ?_
 rintro i t' k hi ⟨⟨e19, e7, e8, e9, e10, e11, e15⟩, hz⟩ K hK
 have hz' := hz
 rw [hZ] at hz'
 obtain ⟨z1, z2, z3, z4, z5, z6, z7⟩ := hz'
 have q4 : zad k.get h4.next 29 = some (zaf ra.1 ap ac ax al ak) := (zae (n := 29) z4 rfl).trans rfl
 simp only [zaf] at q4
 have la := z6.len k.get
 by_cases hlt : i < na
 ·have hw := zaC hlt z6.big
  obtain ⟨j, m, cs, a1, a2, a3, a4, a5, a6⟩ := z6.at' i hlt
  have hn4 : ¬ h4.next = j := fun e => by subst e; rw [a2] at z4; cases z4
  simp [e19, e11, q4, la, hlt, a1, a2, a3, a4, hw]
  refine hK _ _ hlt ⟨⟨by simp, by simp [e7], by simp [e8], by simp [e9], by simp [e10], by simp [e11], by simp [e15]⟩, zset hz a2 a5 a6 (by simp; omega)⟩
 have hi2 : i = na := by omega
 subst hi2
 simp [e19, e11, q4, la]
 clear hK K
 refine zap (fun i t' k => (t' 20 = .int .i64 (i : Nat) ∧ t' 7 = .ptr p1 4 0 ∧ t' 8 = .ptr p2 4 0 ∧ t' 9 = .ptr p3 29 0 ∧ t' 10 = .ptr p4 29 0 ∧ t' 15 = .ptr h8.next 29 0) ∧ Z k) nd ⟨⟨by simp, by simp [e7], by simp [e8], by simp [e9], by simp [e10], by simp [e15]⟩, hz⟩ ?_
 clear z1 z2 z3 z4 z5 z6 z7 la hz q4 e7 e8 e9 e10 e11 e15 e19
 rintro i2 t' k hi2 ⟨⟨e20, e7, e8, e9, e10, e15⟩, hz⟩ K hK
 have hz' := hz
 rw [hZ] at hz'
 obtain ⟨z1, z2, z3, z4, z5, z6, z7⟩ := hz'
 have q4 : zad k.get h8.next 29 = some (zaf rd.1 dp dc dx dl dk) := (zae (n := 29) z5 rfl).trans rfl
 simp only [zaf] at q4
 have la := z7.len k.get
 by_cases hlt : i2 < nd
 ·have hw := zaC hlt z7.big
  obtain ⟨j, m, cs, a1, a2, a3, a4, a5, a6⟩ := z7.at' i2 hlt
  have hn4 : ¬ h8.next = j := fun e => by subst e; rw [a2] at z5; cases z5
  simp [e20, e15, q4, la, hlt, a1, a2, a3, a4, hw]
  refine hK _ _ hlt ⟨⟨by simp, by simp [e7], by simp [e8], by simp [e9], by simp [e10], by simp [e15]⟩, zset hz a2 a5 a6 (by simp; omega)⟩
 have hi3 : i2 = nd := by omega
 subst hi3
 have gk : Ge g3 k := ⟨z2, z1⟩
 have gkk : Ge h k := g2.trans (gg.trans (gg3.trans gk))
 have d7 := (gk.cells np1).trans c7
 have d8 := (gk.cells np2).trans c8
 have d9 := (gk.cells np3).trans c9
 have d10 := (gk.cells np4).trans c10
 have R1 := P1.at.ge wg3 gk
 have R2 := P2.at.ge wg3 gk
 have S1 := VA1.ge wg3 gk
 have S2 := VA2.ge wg3 gk
 have sp := zeX R1 R2
 have si := zf0 S1.imp S2.imp
 have se := zf0 S1.exp S2.exp
 obtain ⟨es9, PP9⟩ := R1.path
 have o91 := PP9.sls.one
 have o92 := R1.comms.one
 have o93 := R1.exts.one
 have o94 := R1.larges.one
 have o95 := R1.clus.one
 simp only [zaf] at sp
 simp [e20, e15, q4, la]
 refine zbO [p4] [0, 0, 0, 0, 0, 0, 0, 0, 0, 0, 0, 0, 0, 0, 0, 0, 0, 0, 0, 0, 1, 0, 2, 0, 0, 0, 0, 0, 0, 0] rfl (by rfl) ?_
 simp [e9, e10, d9, d10]
 refine zbd (v := .bool true) (h' := k) (fun Q q => by simpa using sp Q (by simpa using q)) (by decide) (fun e => absurd e (by decide)) ?_
 simp [zfI (b := true), e7, e8, d7, d8]
 refine zbd (v := .bool true) (h' := k) (fun Q q => by simpa using si Q (by simpa using q)) (by decide) (fun e => absurd e (by decide)) ?_
 simp [zfI (b := true), e7, e8, d7, d8]
 refine zbd (v := .bool true) (h' := k) (fun Q q => by simpa using se Q (by simpa using q)) (by decide) (fun e => absurd e (by decide)) ?_
 simp [zfI (b := true), e9, d9]
 have zx := z.exts
 have tc := zfC R1 zx (Q := fun w k1 => Ge k k1 ∧ k1.WF ∧ Gl k1 k.next 1 w ((p.att.exts.filter isTg).map cX)) fun w k1 a b c => ⟨a, b, c⟩
 simp only [attC] at tc
 obtain ⟨wq, kq, aq, bq, cq⟩ := zbN z3 (sz := 1) ((p.att.exts.filter isTg).map cX)
 refine ⟨by decide, _, ⟨wq, kq, aq, bq, cq⟩, tc, ?_⟩
 rintro w k1 ⟨gk1, wk1, gl1⟩
 refine ⟨fun _ => fun i hi => ?_, ?_⟩
 ·rw [List.mem_singleton] at hi
  subst hi
  exact gk1.2 _ (by omega)
 have d10' := (gk1.cells (show p4 < k.next by omega)).trans d10
 simp [zfI (b := true), e10, d10', I.foot, zbf]
 have tc2 := zfe (R2.ge z3 gk1) zx (Q := fun w k2 => Ge k1 k2 ∧ k2.WF ∧ Gl k2 k1.next 1 w ((p.att.exts.filter isTg).map cX)) fun w k1 a b c => ⟨a, b, c⟩
 simp only [attC] at tc2
 obtain ⟨wq, kq, aq, bq, cq⟩ := zbN wk1 (sz := 1) ((p.att.exts.filter isTg).map cX)
 refine ⟨by decide, _, ⟨wq, kq, aq, bq, cq⟩, tc2, ?_⟩
 clear wq kq aq bq cq
 rintro w2 k2 ⟨gk2, wk2, gl2⟩
 have hb : ((p.att.exts.filter isTg).map cX).length < 9223372036854775808 := by have := List.length_filter_le isTg p.att.exts; simp; omega
 have st := zf0 ((gl1.sls (za0 _) hb).ge wk1 gk2) (gl2.sls (za0 _) hb)
 simp [zfI (b := true)]
 refine zbd (v := .bool true) (h' := k2) (fun Q q => by simpa using st Q (by simpa using q)) (by decide) (fun e => absurd e (by decide)) ?_
 simp [zfI (b := true)]
 refine zbd (v := .bool true) (h' := k2) (fun Q q => by simpa using zme k2 Q q) (by decide) (fun e => absurd e (by decide)) ?_
 simp [gkk.trans (gk1.trans gk2)]
end Go.Am

namespace Go.Am
open Go.Proofs Go.ChangeShapes Go.WideShapes

def vrL : List Dl := [.lf .str, .lf (.int .u64), .sl 8 [.lf (.int .u64)], .sl 8 [.lf (.int .u64)]]
structure VrIn (g : Nat -> Option O) (v : Vr) (vi ve : V) : Prop where
 name : v.name.length ≤ maxLen
 rd : v.rd < 18446744073709551616
 imp : NAt g 8 18446744073709551616 .u64 vi v.imp
 exp : NAt g 8 18446744073709551616 .u64 ve v.exp
theorem VrIn.mono {g g' : Nat -> Option O} {v : Vr} {vi ve : V} (x : VrIn g v vi ve) (m : ∀ i o, g i = some o -> g' i = some o) : VrIn g' v vi ve := ⟨x.name, x.rd, x.imp.mono m, x.exp.mono m⟩
theorem zr1 {g : Nat -> Option O} {vs : List V} (h : Dls.ok g vrL vs) : ∃ (vi ve : V) (v : Vr), vs = vrC v vi ve ∧ VrIn g v vi ve := by
 obtain ⟨v1, r1, rfl, ⟨s, rfl, hs⟩, v2, r2, rfl, h2, v3, r3, rfl, h3, v4, r4, rfl, h4, rfl⟩ := h
 obtain ⟨n2, rfl, f2⟩ := zb8 zgy h2
 obtain ⟨l3, m3⟩ := zfE zgy h3
 obtain ⟨l4, m4⟩ := zfE zgy h4
 exact ⟨v3, v4, ⟨s, n2, l3, l4⟩, rfl, hs, f2, m3, m4⟩
def zrz : List Dl := [.lf (.int .i64), .lf (.int .u64), .lf .str, .lf (.int .i64), .lf (.int .u32), .lf (.int .u32)] ++ (attL ++ [.lf (.int .i64), .lf .str, .lf (.int .u32), .lf (.int .u32), .lf .str, .lf .str, .lf .bool])
structure PthIn (g : Nat -> Option O) (p : Pth) (vp vc vx vl vk : V) : Prop where
 att : AttIn g p.att vp vc vx vl vk
 peer : p.src.peer.length ≤ maxLen
theorem PthIn.mono {g g' : Nat -> Option O} {p : Pth} {vp vc vx vl vk : V} (x : PthIn g p vp vc vx vl vk) (m : ∀ i o, g i = some o -> g' i = some o) : PthIn g' p vp vc vx vl vk := ⟨x.att.mono m, x.peer⟩
theorem zrY {g : Nat -> Option O} {vs : List V} (h : Dls.ok g zrz vs) : ∃ (vp vc vx vl vk : V) (p : Pth), vs = zaf p vp vc vx vl vk ∧ PthIn g p vp vc vx vl vk := by
 obtain ⟨v1, r1, rfl, ⟨fam, rfl, _⟩, v2, r2, rfl, h2, v3, r3, rfl, ⟨ad, rfl, _⟩, v4, r4, rfl, ⟨ln, rfl, _⟩, v5, r5, rfl, h5, v6, r6, rfl, h6, h7⟩ := h
 obtain ⟨n2, rfl, f2⟩ := zb8 zgy h2
 obtain ⟨n5, rfl, f5⟩ := zb8 zci h5
 obtain ⟨n6, rfl, f6⟩ := zb8 zci h6
 obtain ⟨a, vp, vc, vx, vl, vk, r, rfl, ha, w1, q1, rfl, ⟨kd, rfl, _⟩, w2, q2, rfl, ⟨pe, rfl, hpe⟩, w3, q3, rfl, h3, w4, q4, rfl, h4, w5, q5, rfl, ⟨sa, rfl, _⟩, w6, q6, rfl, ⟨sv, rfl, _⟩, w7, q7, rfl, ⟨st, rfl⟩, rfl⟩ := zp4 h7
 obtain ⟨m3, rfl, _⟩ := zb8 zci h3
 obtain ⟨m4, rfl, _⟩ := zb8 zci h4
 exact ⟨vp, vc, vx, vl, vk, ⟨⟨⟨fam, n2, ad, ln⟩, n5, n6⟩, a, ⟨kd, pe, m3, m4, sa, sv⟩, st⟩, rfl, ha, hpe⟩
theorem zos {g : Nat -> Option O} {v : Vr} {vi ve : V} (x : VrIn g v vi ve) : VrOk (cutV v) := by
 have l := zgf v
 exact ⟨x.name, ⟨by omega, fun y hy => x.imp.fit y (List.mem_of_mem_take hy)⟩, ⟨by omega, fun y hy => x.exp.fit y (List.mem_of_mem_take hy)⟩⟩
theorem zoL {h : H} {v : Vr} {vi ve : V} {p : Pth} {vp vc vx vl vk : V} {label : Nat} (x : VrIn h.get v vi ve) (y : PthIn h.get p vp vc vx vl vk) : Pure Tryz.prog 3 [.agg (vrC v vi ve), .agg (zaf p vp vc vx vl vk), .int .u32 (label : Nat)] h (.bool true) :=
 zlo ⟨x.imp.sls, x.exp.sls⟩ x.imp.cap x.exp.cap (zos x) y.att.at' y.att.sz y.peer
end Go.Am
