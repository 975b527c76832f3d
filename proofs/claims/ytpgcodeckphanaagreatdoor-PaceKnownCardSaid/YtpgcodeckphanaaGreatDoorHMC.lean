/-
 PC0, RM, PC1, PC2, PC3, PC4, in one text.
-/
import Derived.Test.YtpgcodeckphanaaGreatDoorHMA
import Derived.Test.YtpgcodeckphanaaGreatDoorHMB
import Derived.Test.YtpgcodeckphanaaGreatDoorHSkRg
import Derived.Test.YtpgcodeckphanaaGreatDoorHAmL
namespace Go.Am

structure Chg where
 gone : Bool
 n : Nl
 att : Att
 deriving DecidableEq
def chC (c : Chg) (vp vc vx vl vk : V) : List V := [.bool c.gone, .int .i64 c.n.p.fam, .int .u64 (c.n.p.rd : Nat), .str c.n.p.addr, .int .i64 c.n.p.len, .int .u32 (c.n.id : Nat), .int .u32 (c.n.label : Nat),
 .int .i64 c.att.origin, vp, .str c.att.next, .bool c.att.hasMed, .int .u32 (c.att.med : Nat), .bool c.att.hasPref, .int .u32 (c.att.pref : Nat), .bool c.att.atomic, .int .u32 (c.att.aggAS : Nat), .int .u32 (c.att.aggId : Nat), vc, vx, vl, .bool c.att.hasOrig, .int .u32 (c.att.orig : Nat), vk]
structure Ky where
 p : Pfx
 id : Nat
 deriving DecidableEq
def zaH (c : Chg) : Ky := ⟨c.n.p, c.n.id⟩
def kyV (k : Ky) : V := .agg [.int .i64 k.p.fam, .int .u64 (k.p.rd : Nat), .str k.p.addr, .int .i64 k.p.len, .int .u32 (k.id : Nat)]
def zjy (a b : Ky) : Int := orI (zjx a.p b.p) (cmpI a.id b.id)
theorem ordr_ky : Ordr zjy := (ordr_pf.on Ky.p).or (ordr_int.on fun k : Ky => (k.id : Int))
theorem zkt {a b : Ky} (h : zjy a b = 0) : a = b := by
 simp only [zjy, zlT, zca] at h
 have := zle h.1
 cases a; cases b
 simp only at this h
 simp only [Ky.mk.injEq]
 exact ⟨this, by omega⟩
def cmpC (a b : Chg) : Int := zjy (zaH a) (zaH b)
theorem ordr_c : Ordr cmpC := ordr_ky.on zaH
theorem zgZ {a b : Chg} (h : cmpC a b = 0) : zaH a = zaH b := zkt h
def putC : List Chg -> Chg -> List Chg
 | [], c => [c]
 | d :: l, c => if cmpC c d < 0 then c :: d :: l else if cmpC c d = 0 then c :: l else d :: putC l c
def upC : List Chg -> Chg -> List Chg
 | [], c => [c]
 | d :: l, c => if zaH d = zaH c then c :: l else d :: upC l c
def zbN (L : List Chg) : Prop := (L.map zaH).Nodup
theorem zgT {c x : Chg} : ∀ {L : List Chg}, zbN L -> (x ∈ upC L c ↔ x = c ∨ x ∈ L ∧ zaH x ≠ zaH c)
 | [], _ => by simp [upC]
 | d :: l, h => by
  have h' : zaH d ∉ l.map zaH ∧ (l.map zaH).Nodup := by simpa [zbN] using h
  unfold upC
  split
  ·rename_i e
   rw [List.mem_cons]
   constructor
   ·rintro (rfl | hx)
    ·exact .inl rfl
    ·exact .inr ⟨List.mem_cons_of_mem _ hx, fun e2 => h'.1 (by rw [e, <- e2]; exact List.mem_map_of_mem hx)⟩
   ·rintro (rfl | ⟨hx, hne⟩)
    ·exact .inl rfl
    ·rcases List.mem_cons.1 hx with rfl | hx
     ·exact absurd e hne
     ·exact .inr hx
  ·rename_i e
   rw [List.mem_cons, zgT (show zbN l from h'.2), List.mem_cons]
   constructor
   ·rintro (rfl | rfl | ⟨hx, hne⟩)
    ·exact .inr ⟨.inl rfl, e⟩
    ·exact .inl rfl
    ·exact .inr ⟨.inr hx, hne⟩
   ·rintro (rfl | ⟨rfl | hx, hne⟩)
    ·exact .inr (.inl rfl)
    ·exact .inl rfl
    ·exact .inr (.inr ⟨hx, hne⟩)
theorem zhN {c : Chg} : ∀ {L : List Chg}, zbN L -> zbN (upC L c)
 | [], _ => by simp [upC, zbN]
 | d :: l, h => by
  have h' : zaH d ∉ l.map zaH ∧ (l.map zaH).Nodup := by simpa [zbN] using h
  unfold upC
  split
  ·rename_i e
   unfold zbN
   rw [List.map_cons, List.nodup_cons, <- e]
   exact h'
  ·rename_i e
   unfold zbN
   rw [List.map_cons, List.nodup_cons]
   refine ⟨fun hm => ?_, zhN (show zbN l from h'.2)⟩
   obtain ⟨x, hx, hk⟩ := List.mem_map.1 hm
   rcases (zgT (show zbN l from h'.2)).1 hx with rfl | ⟨hx, _⟩
   ·exact e hk.symm
   ·exact h'.1 (by rw [<- hk]; exact List.mem_map_of_mem hx)
theorem zgO {S : List Chg} (h : Rise cmpC S) : zbN S := by
 unfold zbN List.Nodup
 rw [List.pairwise_map]
 refine h.imp fun {a b} hab e => ?_
 have : cmpC a b = 0 := by unfold cmpC; rw [e]; exact ordr_ky.self _
 omega
theorem zed {c x : Chg} : ∀ {S : List Chg}, Rise cmpC S -> (x ∈ putC S c ↔ x = c ∨ x ∈ S ∧ zaH x ≠ zaH c)
 | [], _ => by simp [putC]
 | d :: l, h => by
  obtain ⟨h1, h2⟩ := List.pairwise_cons.1 h
  have ne_of : ∀ y, cmpC c y < 0 -> zaH y ≠ zaH c := fun y hy e => by
   have : cmpC c y = 0 := by unfold cmpC; rw [e]; exact ordr_ky.self _
   omega
  unfold putC
  split
  ·rename_i e
   rw [List.mem_cons]
   constructor
   ·rintro (rfl | hx)
    ·exact .inl rfl
    ·refine .inr ⟨hx, ?_⟩
     rcases List.mem_cons.1 hx with rfl | hx'
     ·exact ne_of _ e
     ·exact ne_of _ (ordr_c.down _ _ _ e (h1 x hx'))
   ·rintro (rfl | ⟨hx, _⟩)
    ·exact .inl rfl
    ·exact .inr hx
  ·split
   ·rename_i _ e
    have ek := zgZ e
    rw [List.mem_cons]
    constructor
    ·rintro (rfl | hx)
     ·exact .inl rfl
     ·refine .inr ⟨List.mem_cons_of_mem _ hx, fun e2 => ?_⟩
      have h3 := h1 x hx
      have : cmpC d x = 0 := by unfold cmpC; rw [e2, ek]; exact ordr_ky.self _
      omega
    ·rintro (rfl | ⟨hx, hne⟩)
     ·exact .inl rfl
     ·rcases List.mem_cons.1 hx with rfl | hx
      ·exact absurd ek.symm hne
      ·exact .inr hx
   ·rename_i e1 e2
    rw [List.mem_cons, zed h2, List.mem_cons]
    constructor
    ·rintro (rfl | rfl | ⟨hx, hne⟩)
     ·refine .inr ⟨.inl rfl, fun e => e2 ?_⟩
      unfold cmpC; rw [e]; exact ordr_ky.self _
     ·exact .inl rfl
     ·exact .inr ⟨.inr hx, hne⟩
    ·rintro (rfl | ⟨rfl | hx, hne⟩)
     ·exact .inr (.inl rfl)
     ·exact .inl rfl
     ·exact .inr (.inr ⟨hx, hne⟩)
theorem zdq {c : Chg} : ∀ {S : List Chg}, Rise cmpC S -> Rise cmpC (putC S c)
 | [], _ => by simp [putC, Rise]
 | d :: l, h => by
  obtain ⟨h1, h2⟩ := List.pairwise_cons.1 h
  unfold putC
  split
  ·rename_i e
   refine List.pairwise_cons.2 ⟨fun x hx => ?_, h⟩
   rcases List.mem_cons.1 hx with rfl | hx
   ·exact e
   ·exact ordr_c.down _ _ _ e (h1 x hx)
  ·split
   ·rename_i _ e
    have ek := zgZ e
    refine List.pairwise_cons.2 ⟨fun x hx => ?_, h2⟩
    have := h1 x hx
    unfold cmpC at this ⊢
    rw [ek]; exact this
   ·rename_i e1 e2
    refine List.pairwise_cons.2 ⟨fun x hx => ?_, zdq h2⟩
    rcases (zed h2).1 hx with rfl | ⟨hx, _⟩
    ·have := ordr_c.anti x d
     omega
    ·exact h1 x hx
structure Srt (L S : List Chg) : Prop where
 perm : L.Perm S
 rise : Rise cmpC S
theorem Srt.keys {L S : List Chg} (s : Srt L S) : zbN L := by
 have := zgO s.rise
 unfold zbN at this ⊢
 exact (s.perm.map zaH).nodup_iff.2 this
theorem zgA {L M : List Chg} (h1 : zbN L) (h2 : zbN M) (hm : ∀ x, x ∈ L ↔ x ∈ M) : L.Perm M := by
 have n1 : L.Nodup := by unfold zbN List.Nodup at h1; rw [List.pairwise_map] at h1; exact h1.imp fun hab e => hab (by rw [e])
 have n2 : M.Nodup := by unfold zbN List.Nodup at h2; rw [List.pairwise_map] at h2; exact h2.imp fun hab e => hab (by rw [e])
 exact (List.perm_ext_iff_of_nodup n1 n2).2 hm
theorem Srt.put {L S : List Chg} (s : Srt L S) (c : Chg) : Srt (upC L c) (putC S c) :=
 ⟨zgA (zhN s.keys) (zgO (zdq s.rise)) fun x => by rw [zgT s.keys, zed s.rise, s.perm.mem_iff], zdq s.rise⟩
theorem Srt.uniq {L S S' : List Chg} (s : Srt L S) (s' : Srt L S') : S = S' := zib ordr_c s.rise s'.rise fun x => by rw [<- s.perm.mem_iff, s'.perm.mem_iff]
theorem zlB (S : List Chg) (c : Chg) : (putC S c).length ≤ S.length + 1 := by
 induction S with
 | nil => simp [putC]
 | cons d l ih =>
  unfold putC
  split
  ·simp
  ·split
   ·simp
   ·simp; omega
theorem zjj : ∀ (L : List Chg) (c : Chg), (∃ j, ∃ h : j < L.length, zaH L[j] = zaH c ∧ upC L c = L.set j c ∧ ∀ k (hk : k < j), zaH L[k] ≠ zaH c) ∨ ((∀ x ∈ L, zaH x ≠ zaH c) ∧ upC L c = L ++ [c])
 | [], c => .inr ⟨by simp, rfl⟩
 | d :: l, c => by
  unfold upC
  split
  ·rename_i e
   exact .inl ⟨0, by simp, e, rfl, fun k hk => by omega⟩
  ·rename_i e
   rcases zjj l c with ⟨j, h, a, b, f⟩ | ⟨a, b⟩
   ·refine .inl ⟨j + 1, by simpa using h, a, by rw [b]; rfl, fun k hk => ?_⟩
    cases k with
    | zero => exact e
    | succ k => exact f k (by omega)
   ·exact .inr ⟨fun x hx => (List.mem_cons.1 hx).elim (fun h => h ▸ e) (a x), by rw [b]; rfl⟩
end Go.Am

namespace Go.Am

structure MapB (es : List (V × V)) (bs : List Nat) (tk : Nat) : Prop where
 len : bs.length = es.length
 nd : bs.Nodup
 lt : ∀ b ∈ bs, b < tk
theorem MapB.nil (tk : Nat) : MapB [] [] tk := ⟨rfl, List.nodup_nil, by simp⟩
theorem MapB.set {es : List (V × V)} {bs : List Nat} {tk j : Nat} {e : V × V} (m : MapB es bs tk) : MapB (es.set j e) bs tk := ⟨by simpa using m.len, m.nd, m.lt⟩
theorem MapB.snoc {es : List (V × V)} {bs : List Nat} {tk : Nat} {e : V × V} (m : MapB es bs tk) : MapB (es ++ [e]) (bs ++ [tk]) (tk + 1) := by
 refine ⟨by simp [m.len], List.nodup_append.2 ⟨m.nd, by simp, fun x hx y hy e => ?_⟩, fun b hb => ?_⟩
 ·rw [List.mem_singleton] at hy
  have := m.lt x hx
  omega
 ·rcases List.mem_append.1 hb with hb | hb
  ·have := m.lt b hb; omega
  ·rw [List.mem_singleton] at hb; omega
theorem MapB.erase {es : List (V × V)} {bs : List Nat} {tk j : Nat} (m : MapB es bs tk) : MapB (es.eraseIdx j) (bs.eraseIdx j) tk :=
 ⟨by rw [List.length_eraseIdx, List.length_eraseIdx, m.len], m.nd.sublist (List.eraseIdx_sublist _ _), fun b hb => m.lt b ((List.eraseIdx_sublist _ _).mem hb)⟩
structure Vis (bs seen dn : List Nat) : Prop where
 nd : dn.Nodup
 lt : ∀ i ∈ dn, i < bs.length
 eq : seen = dn.map fun i => bs.getD i 0
theorem Vis.nil (bs : List Nat) : Vis bs [] [] := ⟨List.nodup_nil, by simp, rfl⟩
theorem Vis.snoc {bs seen dn : List Nat} (v : Vis bs seen dn) {i b : Nat} (hb : bs[i]? = some b) (hn : b ∉ seen) : Vis bs (seen ++ [b]) (dn ++ [i]) := by
 have hi := (List.getElem?_eq_some_iff.1 hb).1
 have hg : bs.getD i 0 = b := by simp [List.getD, hb]
 refine ⟨List.nodup_append.2 ⟨v.nd, by simp, fun x hx y hy e => ?_⟩, fun j hj => ?_, by rw [v.eq, List.map_append, List.map_singleton, hg]⟩
 ·rw [List.mem_singleton] at hy
  subst hy; subst e
  exact hn (by rw [v.eq, <- hg]; exact List.mem_map_of_mem (f := fun i => bs.getD i 0) hx)
 ·rcases List.mem_append.1 hj with hj | hj
  ·exact v.lt j hj
  ·rw [List.mem_singleton] at hj; omega
theorem zlr {a : List Nat} {n : Nat} (h : a.Nodup) (hl : ∀ i ∈ a, i < n) : a.length ≤ n := by
 have : ∀ {a b : List Nat}, a.Nodup -> (∀ x ∈ a, x ∈ b) -> a.length ≤ b.length := by
  intro a
  induction a with
  | nil => intros; simp
  | cons x a ih =>
   intro b hn hs
   obtain ⟨h1, h2⟩ := List.nodup_cons.1 hn
   have hx := hs x (by simp)
   have := ih (b := b.erase x) h2 fun y hy => (List.mem_erase_of_ne (show y ≠ x from fun e => h1 (e ▸ hy))).2 (hs y (by simp [hy]))
   rw [List.length_erase_of_mem hx] at this
   have : 0 < b.length := List.length_pos_of_mem hx
   simp; omega
 simpa using this (b := List.range n) h fun x hx => by simpa using hl x hx
theorem Vis.le {bs seen dn : List Nat} (v : Vis bs seen dn) : dn.length ≤ bs.length := zlr v.nd v.lt
theorem Vis.len {bs seen dn : List Nat} (v : Vis bs seen dn) : seen.length = dn.length := by rw [v.eq, List.length_map]
theorem Vis.full {bs seen dn : List Nat} (v : Vis bs seen dn) (hn : bs.Nodup) (ha : ∀ b ∈ bs, b ∈ seen) : dn.Perm (List.range bs.length) := by
 refine (List.perm_ext_iff_of_nodup v.nd List.nodup_range).2 fun i => ⟨fun hi => by simpa using v.lt i hi, fun hi => ?_⟩
 have hi : i < bs.length := by simpa using hi
 have := ha bs[i] (List.getElem_mem hi)
 rw [v.eq] at this
 obtain ⟨j, hj, e⟩ := List.mem_map.1 this
 have hjl := v.lt j hj
 have e2 : bs[j] = bs[i] := by simpa [List.getD, List.getElem?_eq_getElem hjl] using e
 have : j = i := (List.getElem_inj (h₀ := hjl) (h₁ := hi) hn).1 e2
 exact this ▸ hj
theorem zjO {α : Type} {dn : List Nat} {n : Nat} (h : dn.Perm (List.range n)) {L : List α} (hl : L.length = n) (d : α) : (dn.map fun i => L.getD i d).Perm L := by
 have h1 := h.map fun i => L.getD i d
 have h2 : ((List.range n).map fun i => L.getD i d) = L := by
  apply List.ext_getElem?
  intro k
  rw [List.getElem?_map]
  by_cases hk : k < n
  ·rw [List.getElem?_range hk, List.getElem?_eq_getElem (by omega)]
   simp [List.getD, List.getElem?_eq_getElem (show k < L.length by omega)]
  ·rw [List.getElem?_eq_none (by simpa using hk), List.getElem?_eq_none (by omega)]; rfl
 rw [h2] at h1; exact h1
end Go.Am

namespace Go.Am

def FcP (h : H) (R : Nat -> Prop) (sz : Nat) (v : V) (es : List (List V)) : Prop :=
 (es = [] ∧ (v = .nilsl ∨ ∃ k, v = .sl k 0 0 0 (some 0))) ∨ (es ≠ [] ∧ ∃ j, R j ∧ j < h.next ∧ v = .sl j es.flatten.length 0 es.length none ∧ h.get j = some (.grow sz es.flatten))
theorem Fc.p {h : H} {lo sz : Nat} {v : V} {es : List (List V)} (f : Fc h lo sz v es) : FcP h (fun j => lo ≤ j ∧ j < h.next) sz v es := by
 rcases f with ⟨e, e2 | ⟨k, _, e2⟩⟩ | ⟨hne, ⟨e, _⟩ | ⟨_, j, a, b, c, d⟩⟩
 ·exact .inl ⟨e, .inl e2⟩
 ·exact .inl ⟨e, .inr ⟨k, e2⟩⟩
 ·exact absurd e hne
 ·exact .inr ⟨hne, j, ⟨a, b⟩, b, c, d⟩
theorem FcP.mono {h : H} {R R' : Nat -> Prop} {sz : Nat} {v : V} {es : List (List V)} (f : FcP h R sz v es) (k : ∀ j, j < h.next -> R j -> R' j) : FcP h R' sz v es := by
 rcases f with e | ⟨hne, j, a, b, c, d⟩
 ·exact .inl e
 ·exact .inr ⟨hne, j, k j b a, b, c, d⟩
theorem FcP.keep {h h' : H} {R : Nat -> Prop} {sz : Nat} {v : V} {es : List (List V)} (f : FcP h R sz v es) (hn : h.next ≤ h'.next) (k : ∀ j s cs, R j -> j < h.next -> h.get j = some (.grow s cs) -> h'.get j = some (.grow s cs)) : FcP h' R sz v es := by
 rcases f with e | ⟨hne, j, a, b, c, d⟩
 ·exact .inl e
 ·exact .inr ⟨hne, j, a, Nat.lt_of_lt_of_le b hn, c, k j _ _ a b d⟩
theorem FcP.ge {h h' : H} {R : Nat -> Prop} {sz : Nat} {v : V} {es : List (List V)} (f : FcP h R sz v es) (g : Ge h h') : FcP h' R sz v es := f.keep g.1 fun j _ _ _ hj e => (g.2 j hj).trans e
theorem FcP.one {h : H} {R : Nat -> Prop} {sz : Nat} {v : V} {es : List (List V)} (f : FcP h R sz v es) : v.one = true := by
 rcases f with ⟨_, rfl | ⟨k, rfl⟩⟩ | ⟨_, j, _, _, rfl, _⟩ <;> rfl
theorem FcP.sls {h : H} {R : Nat -> Prop} {sz : Nat} {v : V} {es : List (List V)} (f : FcP h R sz v es) (hs : ∀ e ∈ es, e.length = sz) (hb : es.length < 9223372036854775808) : Sls h.get sz v es := by
 rcases f with ⟨rfl, rfl | ⟨k, rfl⟩⟩ | ⟨hne, j, _, b, c, d⟩
 ·exact ⟨.inl ⟨rfl, .inl rfl⟩, by simp, rfl, by simp⟩
 ·exact ⟨.inr ⟨_, _, _, _, rfl⟩, by simp, by simp [zaz], by simp⟩
 ·exact (Gl.sls (lo := 0) (.inr ⟨hne, j, Nat.zero_le _, b, c, d⟩) hs hb)
structure AttP (h : H) (R : Nat -> Prop) (a : Att) (vp vc vx vl vk : V) : Prop where
 path : ∃ es : List (List V), FcP h R 2 vp es ∧ es.length = a.path.length ∧ ∀ (i : Nat) (s : Sg), a.path[i]? = some s -> ∃ w, es[i]? = some [.int .i64 s.kind, w] ∧ FcP h R 1 w (s.ases.map cP)
 comms : FcP h R 1 vc (a.comms.map cP)
 exts : FcP h R 1 vx (a.exts.map cX)
 larges : FcP h R 3 vl (a.larges.map cL)
 clus : FcP h R 1 vk (a.clus.map cP)
 sz : AttSz a
theorem AttFr.p {h : H} {lo : Nat} {a : Att} {vp vc vx vl vk : V} (f : AttFr h lo a vp vc vx vl vk) : AttP h (fun j => lo ≤ j ∧ j < h.next) a vp vc vx vl vk := by
 obtain ⟨es, f1, f2, f3⟩ := f.path
 exact ⟨⟨es, f1.p, f2, fun i s hi => by obtain ⟨w, e, g⟩ := f3 i s hi; exact ⟨w, e, g.p⟩⟩, f.comms.p, f.exts.p, f.larges.p, f.clus.p, f.sz⟩
theorem AttP.mono {h : H} {R R' : Nat -> Prop} {a : Att} {vp vc vx vl vk : V} (f : AttP h R a vp vc vx vl vk) (k : ∀ j, j < h.next -> R j -> R' j) : AttP h R' a vp vc vx vl vk := by
 obtain ⟨es, f1, f2, f3⟩ := f.path
 exact ⟨⟨es, f1.mono k, f2, fun i s hi => by obtain ⟨w, e, g⟩ := f3 i s hi; exact ⟨w, e, g.mono k⟩⟩, f.comms.mono k, f.exts.mono k, f.larges.mono k, f.clus.mono k, f.sz⟩
theorem AttP.keep {h h' : H} {R : Nat -> Prop} {a : Att} {vp vc vx vl vk : V} (f : AttP h R a vp vc vx vl vk) (hn : h.next ≤ h'.next) (k : ∀ j s cs, R j -> j < h.next -> h.get j = some (.grow s cs) -> h'.get j = some (.grow s cs)) : AttP h' R a vp vc vx vl vk := by
 obtain ⟨es, f1, f2, f3⟩ := f.path
 exact ⟨⟨es, f1.keep hn k, f2, fun i s hi => by obtain ⟨w, e, g⟩ := f3 i s hi; exact ⟨w, e, g.keep hn k⟩⟩, f.comms.keep hn k, f.exts.keep hn k, f.larges.keep hn k, f.clus.keep hn k, f.sz⟩
theorem AttP.ge {h h' : H} {R : Nat -> Prop} {a : Att} {vp vc vx vl vk : V} (f : AttP h R a vp vc vx vl vk) (g : Ge h h') : AttP h' R a vp vc vx vl vk := f.keep g.1 fun j _ _ _ hj e => (g.2 j hj).trans e
theorem AttP.at {h : H} {R : Nat -> Prop} {a : Att} {vp vc vx vl vk : V} (f : AttP h R a vp vc vx vl vk) : AttAt h.get a vp vc vx vl vk := by
 have z := f.sz
 obtain ⟨es, f1, f2, f3⟩ := f.path
 have l1 := z.path
 have l2 := z.comms
 have l3 := z.exts
 have l4 := z.larges
 have l5 := z.clus
 refine ⟨⟨es, f1.sls (zdx f2 fun i s hi => by obtain ⟨w, e, _⟩ := f3 i s hi; exact ⟨w, e⟩) (by omega), f2, fun i s hi => ?_⟩, f.comms.sls (zcJ _) (by simp; omega), f.exts.sls (zhF _) (by simp; omega), f.larges.sls (zh7 _) (by simp; omega), f.clus.sls (zcJ _) (by simp; omega)⟩
 obtain ⟨w, e, g⟩ := f3 i s hi
 exact ⟨w, e, g.sls (zcJ _) (by have := z.segs s (List.mem_of_getElem? hi); simp; omega)⟩
theorem AttP.one {h : H} {R : Nat -> Prop} {a : Att} {vp vc vx vl vk : V} (f : AttP h R a vp vc vx vl vk) : vp.one = true ∧ vc.one = true ∧ vx.one = true ∧ vl.one = true ∧ vk.one = true := by
 obtain ⟨_, f1, _⟩ := f.path
 exact ⟨f1.one, f.comms.one, f.exts.one, f.larges.one, f.clus.one⟩
theorem AttAt.one {g : Nat -> Option O} {a : Att} {vp vc vx vl vk : V} (f : AttAt g a vp vc vx vl vk) : vp.one = true ∧ vc.one = true ∧ vx.one = true ∧ vl.one = true ∧ vk.one = true := by
 obtain ⟨_, f1⟩ := f.path
 exact ⟨f1.sls.one, f.comms.one, f.exts.one, f.larges.one, f.clus.one⟩
theorem zgn (h : H) (R : Nat -> Prop) : AttP h R att0 .nilsl .nilsl .nilsl .nilsl .nilsl :=
 ⟨⟨[], .inl ⟨rfl, .inl rfl⟩, rfl, by simp [att0]⟩, .inl ⟨rfl, .inl rfl⟩, .inl ⟨rfl, .inl rfl⟩, .inl ⟨rfl, .inl rfl⟩, .inl ⟨rfl, .inl rfl⟩, by constructor <;> simp [att0]⟩
def ChP (h : H) (R : Nat -> Prop) (c : Chg) (e : List V) : Prop := ∃ vp vc vx vl vk, e = chC c vp vc vx vl vk ∧ AttP h R c.att vp vc vx vl vk
def ChA (g : Nat -> Option O) (c : Chg) (e : List V) : Prop := ∃ vp vc vx vl vk, e = chC c vp vc vx vl vk ∧ AttAt g c.att vp vc vx vl vk
theorem ChP.mono {h : H} {R R' : Nat -> Prop} {c : Chg} {e : List V} (f : ChP h R c e) (k : ∀ j, j < h.next -> R j -> R' j) : ChP h R' c e := by
 obtain ⟨vp, vc, vx, vl, vk, a, b⟩ := f; exact ⟨vp, vc, vx, vl, vk, a, b.mono k⟩
theorem ChP.keep {h h' : H} {R : Nat -> Prop} {c : Chg} {e : List V} (f : ChP h R c e) (hn : h.next ≤ h'.next) (k : ∀ j s cs, R j -> j < h.next -> h.get j = some (.grow s cs) -> h'.get j = some (.grow s cs)) : ChP h' R c e := by
 obtain ⟨vp, vc, vx, vl, vk, a, b⟩ := f; exact ⟨vp, vc, vx, vl, vk, a, b.keep hn k⟩
theorem ChP.ge {h h' : H} {R : Nat -> Prop} {c : Chg} {e : List V} (f : ChP h R c e) (g : Ge h h') : ChP h' R c e := f.keep g.1 fun j _ _ _ hj e => (g.2 j hj).trans e
theorem ChP.at {h : H} {R : Nat -> Prop} {c : Chg} {e : List V} (f : ChP h R c e) : ChA h.get c e := by
 obtain ⟨vp, vc, vx, vl, vk, a, b⟩ := f; exact ⟨vp, vc, vx, vl, vk, a, b.at⟩
theorem ChP.sz {h : H} {R : Nat -> Prop} {c : Chg} {e : List V} (f : ChP h R c e) : AttSz c.att := by
 obtain ⟨vp, vc, vx, vl, vk, a, b⟩ := f; exact b.sz
theorem ChA.ge {a b : H} {c : Chg} {e : List V} (f : ChA a.get c e) (w : a.WF) (g : Ge a b) : ChA b.get c e := by
 obtain ⟨vp, vc, vx, vl, vk, x, y⟩ := f; exact ⟨vp, vc, vx, vl, vk, x, y.ge w g⟩
theorem ChA.len {g : Nat -> Option O} {c : Chg} {e : List V} (f : ChA g c e) : e.length = 23 := by
 obtain ⟨vp, vc, vx, vl, vk, rfl, y⟩ := f; rfl
theorem ChA.ones {g : Nat -> Option O} {c : Chg} {e : List V} (f : ChA g c e) : e.all V.one = true := by
 obtain ⟨vp, vc, vx, vl, vk, rfl, y⟩ := f
 obtain ⟨o1, o2, o3, o4, o5⟩ := y.one
 simp [chC, o1, o2, o3, o4, o5]
structure CsAt (g : Nat -> Option O) (v : V) (L : List Chg) (es : List (List V)) : Prop where
 sls : Sls g 23 v es
 len : es.length = L.length
 at' : ∀ (i : Nat) (c : Chg), L[i]? = some c -> ∃ e, es[i]? = some e ∧ ChA g c e
theorem CsAt.ge {a b : H} {v : V} {L : List Chg} {es : List (List V)} (s : CsAt a.get v L es) (w : a.WF) (g : Ge a b) : CsAt b.get v L es :=
 ⟨s.sls.ge w g, s.len, fun i c hi => by obtain ⟨e, h1, h2⟩ := s.at' i c hi; exact ⟨e, h1, h2.ge w g⟩⟩
def RwP (h : H) (R : Nat -> Prop) (sz : Nat) (v : V) (es : List (List V)) : Prop :=
 (es = [] ∧ (v = .nilsl ∨ ∃ k, v = .sl k 0 0 0 (some 0))) ∨ (es ≠ [] ∧ ∃ j ca o, R j ∧ j < h.next ∧ v = .sl j es.flatten.length 0 es.length ca ∧ h.get j = some o ∧ (o = .row es.flatten ∨ o = .grow sz es.flatten))
theorem FcP.rw {h : H} {R : Nat -> Prop} {sz : Nat} {v : V} {es : List (List V)} (f : FcP h R sz v es) : RwP h R sz v es := by
 rcases f with e | ⟨hne, j, a, b, c, d⟩
 ·exact .inl e
 ·exact .inr ⟨hne, j, none, _, a, b, c, d, .inr rfl⟩
theorem RwP.mono {h : H} {R R' : Nat -> Prop} {sz : Nat} {v : V} {es : List (List V)} (f : RwP h R sz v es) (k : ∀ j, j < h.next -> R j -> R' j) : RwP h R' sz v es := by
 rcases f with e | ⟨hne, j, ca, o, a, b, c⟩
 ·exact .inl e
 ·exact .inr ⟨hne, j, ca, o, k j b a, b, c⟩
theorem RwP.keep {h h' : H} {R : Nat -> Prop} {sz : Nat} {v : V} {es : List (List V)} (f : RwP h R sz v es) (hn : h.next ≤ h'.next) (k : ∀ j, R j -> j < h.next -> h'.get j = h.get j) : RwP h' R sz v es := by
 rcases f with e | ⟨hne, j, ca, o, a, b, c, d, e⟩
 ·exact .inl e
 ·exact .inr ⟨hne, j, ca, o, a, Nat.lt_of_lt_of_le b hn, c, (k j a b).trans d, e⟩
theorem RwP.one {h : H} {R : Nat -> Prop} {sz : Nat} {v : V} {es : List (List V)} (f : RwP h R sz v es) : v.one = true := by
 rcases f with ⟨_, rfl | ⟨k, rfl⟩⟩ | ⟨_, j, _, _, _, _, rfl, _⟩ <;> rfl
theorem RwP.sls {h : H} {R : Nat -> Prop} {sz : Nat} {v : V} {es : List (List V)} (f : RwP h R sz v es) (hs : ∀ e ∈ es, e.length = sz) (hb : es.length < 9223372036854775808) : Sls h.get sz v es := by
 rcases f with ⟨rfl, rfl | ⟨k, rfl⟩⟩ | ⟨hne, j, ca, o, _, b, c, d, e⟩
 ·exact ⟨.inl ⟨rfl, .inl rfl⟩, by simp, rfl, by simp⟩
 ·exact ⟨.inr ⟨_, _, _, _, rfl⟩, by simp, by simp [zaz], by simp⟩
 ·have hl := zau hs
  subst c
  refine ⟨.inr ⟨_, _, _, _, rfl⟩, hs, ?_, hb⟩
  rw [zaz, if_neg (by simpa using hne), zaf d (by rcases e with rfl | rfl <;> simp)]
  have ec : o.cells = es.flatten := by rcases e with rfl | rfl <;> simp
  simp only [ec, Nat.zero_add, hl, Nat.le_refl, if_true, List.drop_zero]
  rw [<- hl, List.take_length]
structure LsP (h : H) (R : Nat -> Prop) (v : V) (L : List Chg) (es : List (List V)) : Prop where
 fc : RwP h R 23 v es
 len : es.length = L.length
 at' : ∀ (i : Nat) (c : Chg), L[i]? = some c -> ∃ e, es[i]? = some e ∧ ChP h R c e
theorem LsP.mono {h : H} {R R' : Nat -> Prop} {v : V} {L : List Chg} {es : List (List V)} (s : LsP h R v L es) (k : ∀ j, j < h.next -> R j -> R' j) : LsP h R' v L es :=
 ⟨s.fc.mono k, s.len, fun i c hi => by obtain ⟨e, h1, h2⟩ := s.at' i c hi; exact ⟨e, h1, h2.mono k⟩⟩
theorem LsP.keep {h h' : H} {R : Nat -> Prop} {v : V} {L : List Chg} {es : List (List V)} (s : LsP h R v L es) (hn : h.next ≤ h'.next) (k : ∀ j, R j -> j < h.next -> h'.get j = h.get j) : LsP h' R v L es :=
 ⟨s.fc.keep hn k, s.len, fun i c hi => by obtain ⟨e, h1, h2⟩ := s.at' i c hi; exact ⟨e, h1, h2.keep hn fun j _ _ hj hl e => (k j hj hl).trans e⟩⟩
theorem LsP.ge {h h' : H} {R : Nat -> Prop} {v : V} {L : List Chg} {es : List (List V)} (s : LsP h R v L es) (g : Ge h h') : LsP h' R v L es := s.keep g.1 fun j _ hj => g.2 j hj
theorem LsP.lens {h : H} {R : Nat -> Prop} {v : V} {L : List Chg} {es : List (List V)} (s : LsP h R v L es) : ∀ e ∈ es, e.length = 23 := fun e he => by
 obtain ⟨i, hi, rfl⟩ := List.mem_iff_getElem.1 he
 obtain ⟨e', h1, h2⟩ := s.at' i (L[i]'(by rw [<- s.len]; exact hi)) (List.getElem?_eq_getElem _)
 rw [List.getElem?_eq_getElem hi, Option.some.injEq] at h1
 rw [h1]; exact h2.at.len
theorem LsP.at {h : H} {R : Nat -> Prop} {v : V} {L : List Chg} {es : List (List V)} (s : LsP h R v L es) (hb : L.length < 9223372036854775808) : CsAt h.get v L es :=
 ⟨s.fc.sls s.lens (by rw [s.len]; exact hb), s.len, fun i c hi => by obtain ⟨e, h1, h2⟩ := s.at' i c hi; exact ⟨e, h1, h2.at⟩⟩
theorem LsP.one {h : H} {R : Nat -> Prop} {v : V} {L : List Chg} {es : List (List V)} (s : LsP h R v L es) : v.one = true := s.fc.one
theorem LsP.nil (h : H) (R : Nat -> Prop) : LsP h R .nilsl [] [] := ⟨.inl ⟨rfl, .inl rfl⟩, rfl, by simp⟩
end Go.Am

namespace Go.Am
open Go.Proofs

set_option maxRecDepth 100000
theorem zb5 (g : H) (a b : O) {k : Nat} (hk : k = g.next) : (g.push a).set k b = g.push b := by
 have e : ∀ x, ((g.push a).set k b).get x = (g.push b).get x := fun x => by
  subst hk
  rw [H.get_set, H.get_push, H.get_push]
  split <;> rfl
 have n : ((g.push a).set k b).next = (g.push b).next := by simp
 cases h1 : (g.push a).set k b
 cases h2 : g.push b
 rw [h1, h2] at e n
 simp only at n
 have e' := funext e
 simp only at e'
 rw [n, e']
def chZ : List V := [.bool false, .int .i64 0, .int .u64 0, .str [], .int .i64 0, .int .u32 0, .int .u32 0, .int .i64 0, .nilsl, .str [], .bool false, .int .u32 0, .bool false, .int .u32 0, .bool false, .int .u32 0, .int .u32 0, .nilsl, .nilsl, .nilsl, .bool false, .int .u32 0, .nilsl]
theorem zbM (g : Nat -> Option O) (sz : Nat) : Sls g sz .nilsl [] := ⟨.inl ⟨rfl, .inl rfl⟩, by simp, rfl, by simp⟩
theorem zm1 (g : Nat -> Option O) : AttAt g att0 .nilsl .nilsl .nilsl .nilsl .nilsl := ⟨⟨[], zbM _ _, rfl, by simp [att0]⟩, zbM _ _, zbM _ _, zbM _ _, zbM _ _⟩
theorem zjk {h : H} {c : Chg} {vp vc vx vl vk : V} (A : AttAt h.get c.att vp vc vx vl vk) (z : AttSz c.att) {Q : V -> H -> Prop}
  (q : ∀ wp wc wx wl wk h', Ge h h' -> h'.WF -> AttFr h' h.next c.att wp wc wx wl wk -> Q (.agg (chC c wp wc wx wl wk)) h') : Acalls Tryz.prog 74 [.agg (chC c vp vc vx vl vk)] h Q := by
 refine zan Tryz.func74 S.a31c S.a31e (Nat.le_of_ble_eq_true rfl) fun wf => ?_; simp only [S.a31]
 obtain ⟨o1, o2, o3, o4, o5⟩ := A.one
 obtain ⟨h2, hh2⟩ : ∃ h2, h2 = (h.push (.row (chC c vp vc vx vl vk))).push (.row chZ) := ⟨_, rfl⟩
 have g2 : Ge h h2 := by rw [hh2]; exact ((Ge.refl _).push _).push _
 have w2 : h2.WF := by rw [hh2]; exact (wf.push _).push _
 have n2 : h2.next = h.next + 2 := by rw [hh2]; simp
 have x1 : h2.get h.next = some (.row (chC c vp vc vx vl vk)) := by rw [hh2]; simp
 have x2 : h2.get (h.next + 1) = some (.row chZ) := by rw [hh2]; simp
 have A2 := A.ge wf g2
 have n01 : ¬ h.next = h.next + 1 := by omega
 have ow : ∀ Q : V -> H -> Prop, (∀ wp wc wx wl wk h', Ge h2 h' -> h'.WF -> AttFr h' h2.next c.att wp wc wx wl wk -> Q (.agg (attC c.att wp wc wx wl wk)) h') -> Acalls Tryz.prog 93 [.agg (attC c.att vp vc vx vl vk)] h2 Q := fun Q q => zkX A2 z q
 simp only [chC, chZ] at hh2
 simp only [attC] at ow
 simp [chC, o1, o2, o3, o4, o5]
 rw [<- hh2]
 refine ow _ fun wp wc wx wl wk h3 g3 w3 F3 => ?_
 obtain ⟨f1, f2, f3, f4, f5⟩ := F3.one
 have nn3 := g3.1
 have x3 : h3.get h.next = some (.row (chC c vp vc vx vl vk)) := (g3.2 _ (by omega)).trans x1
 have y3 : h3.get (h.next + 1) = some (.row chZ) := (g3.2 _ (by omega)).trans x2
 obtain ⟨h4, hh4⟩ : ∃ h4, h4 = h3.set h.next (.row (chC c wp wc wx wl wk)) := ⟨_, rfl⟩
 have c4 : zac h4.get h.next 23 = some (chC c wp wc wx wl wk) := (zaf (n := 23) (show h4.get h.next = some (.row (chC c wp wc wx wl wk)) by rw [hh4]; simp) rfl).trans rfl
 simp only [chC, chZ] at hh4 x3 y3 c4
 simp [x3, f1, f2, f3, f4, f5]
 rw [<- hh4]
 simp [y3]
 obtain ⟨hF, hhF⟩ : ∃ hF, hF = h4.set (h.next + 1) (.row (chC c wp wc wx wl wk)) := ⟨_, rfl⟩
 have g4 : Ge h h4 := by rw [hh4]; exact (g2.trans g3).set (by omega) _
 have w4 : h4.WF := by rw [hh4]; exact w3.set (by omega) _
 have n4 : h4.next = h3.next := by rw [hh4]; simp
 simp only [chC] at hhF
 rw [<- hhF]
 have kF : ∀ j, h.next + 1 < j -> hF.get j = h3.get j := fun j hj => by rw [hhF, H.get_set, if_neg (by omega), hh4, H.get_set, if_neg (by omega)]
 refine q _ _ _ _ _ hF (by rw [hhF]; exact g4.set (by omega) _) (by rw [hhF]; exact w4.set (by omega) _) ?_
 have nF : hF.next = h3.next := by rw [hhF]; simpa using n4
 have F4 := F3.le (lo' := h.next + 2) (by omega)
 exact (F4.keep3 (Nat.le_refl _) ⟨by omega, fun i sz cs hl _ e => by rw [kF i (by omega)]; exact e⟩).le (by omega)
def zbp (c : Chg) : Bool := mayN c.n && (if c.gone = true then decide (c.n.label = 0) && decide (c.att = att0) else attB c.att)
theorem znh {h : H} {c : Chg} {vp vc vx vl vk : V} (A : AttAt h.get c.att vp vc vx vl vk) : Pure Tryz.prog 73 [.agg (chC c vp vc vx vl vk)] h (.bool (zbp c)) := by
 refine zae Tryz.func73 S.a30c S.a30e rfl (Nat.le_of_ble_eq_true rfl) fun wf => ?_; simp only [S.a30]
 obtain ⟨o1, o2, o3, o4, o5⟩ := A.one
 obtain ⟨h2, hh2⟩ : ∃ h2, h2 = h.push (.row (chC c vp vc vx vl vk)) := ⟨_, rfl⟩
 have g2 : Ge h h2 := by rw [hh2]; exact (Ge.refl _).push _
 have c2 : zac h2.get h.next 23 = some (chC c vp vc vx vl vk) := by rw [hh2]; simp [chC]
 have A2 := A.ge wf g2
 have nc := zjw (h := h2) (n := c.n)
 have sa := zk4 A2 (zm1 h2.get)
 have ck := zjr A2
 simp only [chC] at hh2 c2
 simp only [nlC] at nc
 simp only [attC, att0] at sa ck
 simp [chC, o1, o2, o3, o4, o5]
 rw [<- hh2]
 refine nc _ ?_
 cases hm : mayN c.n with
 | false => simp [zbp, hm, g2]
 | true =>
  simp [c2]
  cases hg : c.gone with
  | true =>
   simp
   by_cases hl : c.n.label = 0
   ·simp [hl, c2]
    refine sa _ ?_
    simp [zbp, hm, hg, hl, g2, att0]
   ·have hl2 : ((c.n.label : Int) == 0) = false := by simpa using hl
    simp [hl, hl2, c2, zbp, hm, hg, g2]
  | false =>
   simp [c2]
   refine ck _ ?_
   cases hb : attB c.att <;> simp [zbp, hm, hg, hb, g2]
theorem zk7 {h : H} {c : Chg} {vp vc vx vl vk : V} (A : AttAt h.get c.att vp vc vx vl vk) : Pure Tryz.prog 72 [.agg (chC c vp vc vx vl vk)] h (.bool (!zbp c)) := by
 refine zae Tryz.func72 S.a29c S.a29e rfl (Nat.le_of_ble_eq_true rfl) fun wf => ?_; simp only [S.a29]
 obtain ⟨o1, o2, o3, o4, o5⟩ := A.one
 obtain ⟨h2, hh2⟩ : ∃ h2, h2 = h.push (.row (chC c vp vc vx vl vk)) := ⟨_, rfl⟩
 have g2 : Ge h h2 := by rw [hh2]; exact (Ge.refl _).push _
 have c2 : zac h2.get h.next 23 = some (chC c vp vc vx vl vk) := by rw [hh2]; simp [chC]
 have pm := znh (A.ge wf g2)
 simp only [chC] at hh2 c2 pm
 simp [chC, o1, o2, o3, o4, o5]
 rw [<- hh2]
 refine pm _ ?_
 simp [g2]
theorem CsAt.atG {a : H} {v : V} {L : List Chg} {es : List (List V)} (s : CsAt a.get v L es) (w : a.WF) {k : Nat} (hk : k < L.length) :
  ∃ p q o cs vp vc vx vl vk, (∀ kd, zaA 23 v (.int kd (k : Int)) = some (.ptr p q o)) ∧ p < a.next ∧ (∀ b, Ge a b -> zac b.get p q = some cs) ∧ o + 23 ≤ cs.length ∧ (cs.drop o).take 23 = chC L[k] vp vc vx vl vk ∧ AttAt a.get L[k].att vp vc vx vl vk ∧ es[k]? = some (chC L[k] vp vc vx vl vk) ∧ ∀ j, j < 23 -> cs[o + j]? = (chC L[k] vp vc vx vl vk)[j]? := by
 obtain ⟨e, e1, vp, vc, vx, vl, vk, rfl, e3⟩ := s.at' k L[k] (List.getElem?_eq_getElem hk)
 have hie : k < es.length := by rw [s.len]; exact hk
 obtain ⟨p, q, o, cs, f1, f2, f3, f4, f5, f6⟩ := s.sls.atG w hie
 have e1' := e1
 rw [List.getElem?_eq_getElem hie, Option.some.injEq] at e1
 rw [e1] at f5
 simp only [e1] at f6
 exact ⟨p, q, o, cs, vp, vc, vx, vl, vk, f1, f2, f3, f4, f5, e3, e1', f6⟩
theorem zmu {h : H} {v : V} {L : List Chg} {es : List (List V)} {g : FuncId} {first cap : List V} {f : Chg -> Bool} (hs : CsAt h.get v L es) (hf : ∀ x ∈ L, ∀ vp vc vx vl vk, AttAt h.get x.att vp vc vx vl vk -> Pure Tryz.prog g (first ++ [.agg (chC x vp vc vx vl vk)] ++ cap) h (.bool (f x))) {Q : V -> H -> Prop} (q : ∀ k : Int, decide (0 ≤ k) = L.any f -> Q (.int .i64 k) h) : Acalls Tryz.prog 111 [v, .func (.func g) first cap] h Q := by
 refine zan Tryz.func111 S.a54c S.a54e (Nat.le_of_ble_eq_true rfl) fun wf => ?_; simp only [S.a54]
 have hlen := hs.sls.len
 have hb := hs.sls.bound
 rw [hs.len] at hlen hb
 simp [hlen]
 refine zaO (fun i t h' => (t 0 = v ∧ t 1 = .func (.func g) first cap ∧ t 6 = v ∧ t 7 = .int .i64 (L.length : Nat) ∧ t 8 = .int .i64 (i : Nat)) ∧ h = h' ∧ (L.take i).any f = false) L.length ⟨by simp, rfl, by simp⟩ ?_
 rintro i t h' hi ⟨⟨t0, t1, t6, t7, t8⟩, rfl, hn⟩ K hK
 by_cases hlt : i < L.length
 ·obtain ⟨p, qq, o, cs, vp, vc, vx, vl, vk, e1, _, e2, e3, e4, e5, _⟩ := hs.atG wf hlt
  have e2' := e2 h (Ge.refl _)
  have hw := zaZ hlt hb
  have hc := hf _ (List.getElem_mem hlt) _ _ _ _ _ e5
  simp only [List.append_assoc, List.singleton_append] at hc
  simp [t0, t1, t7, t8, hlt, e1, e2', e3, e4]
  refine hc _ ?_
  cases hx : f L[i] with
  | true =>
   have hm : L.any f = true := List.any_eq_true.2 ⟨_, List.getElem_mem hlt, hx⟩
   simp
   exact q _ (by simp [hm])
  | false =>
   simp [t8, hw]
   refine hK _ _ hlt ⟨by simp [t0, t1, t6, t7], rfl, ?_⟩
   rw [List.take_add_one, List.getElem?_eq_getElem hlt, List.any_append, hn]
   simp [hx]
 ·have : i = L.length := by omega
  subst this
  rw [List.take_length] at hn
  simp [t7, t8]
  exact q _ (by simp [hn])
theorem zmO {h : H} {v : V} {L : List Chg} {es : List (List V)} {g : FuncId} {first cap : List V} {f : Chg -> Bool} (hs : CsAt h.get v L es) (hf : ∀ x ∈ L, ∀ vp vc vx vl vk, AttAt h.get x.att vp vc vx vl vk -> Pure Tryz.prog g (first ++ [.agg (chC x vp vc vx vl vk)] ++ cap) h (.bool (f x))) : Pure Tryz.prog 71 [v, .func (.func g) first cap] h (.bool (L.any f)) := by
 refine zae Tryz.func71 S.a28c S.a28e rfl (Nat.le_of_ble_eq_true rfl) fun wf => ?_; simp only [S.a28]
 simp
 refine zmu hs hf fun k hk => ?_
 simp [hk]
end Go.Am

namespace Go.Am
open Go.Proofs

set_option maxRecDepth 100000
def ChO (e : List V) : Prop := ∃ c vp vc vx vl vk, e = chC c vp vc vx vl vk ∧ vp.one = true ∧ vc.one = true ∧ vx.one = true ∧ vl.one = true ∧ vk.one = true
theorem ChO.len {e : List V} (h : ChO e) : e.length = 23 := by obtain ⟨c, vp, vc, vx, vl, vk, rfl, _⟩ := h; rfl
theorem ChO.ones {e : List V} (h : ChO e) : e.all V.one = true := by
 obtain ⟨c, vp, vc, vx, vl, vk, rfl, o1, o2, o3, o4, o5⟩ := h
 simp [chC, o1, o2, o3, o4, o5]
def zc5 (es : List (V × V)) (i : Nat) : List V := match es[i]? with
 | some (_, .agg e) => e
 | _ => []
theorem zgQ {es : List (V × V)} {i : Nat} {k : V} {e : List V} (h : es[i]? = some (k, .agg e)) : zc5 es i = e := by simp [zc5, h]
theorem zjo {h : H} {y b m tk : Nat} {es : List (V × V)} {bs : List Nat} (hb : h.get b = some (.row [.map m])) (hm : h.get m = some (.mapo es bs tk)) (mb : MapB es bs tk) (hes : ∀ (i : Nat) (x : V × V), es[i]? = some x -> ∃ e, x.2 = .agg e ∧ ChO e) (J : List (List V) -> H -> Prop)
  (J0 : J [] h) (Jwf : ∀ fs g, J fs g -> g.WF) (Jm : ∀ fs g, J fs g -> g.get m = h.get m ∧ g.get b = h.get b ∧ h.next ≤ g.next) (Jge : ∀ fs g g', J fs g -> Ge g g' -> g'.WF -> J fs g')
  (Jmi : ∀ fs g j m' t' s' st s2 st2, J fs g -> h.next ≤ j -> g.get j = some (.miter m' t' s' st) -> J fs (g.set j (.miter m' t' s2 st2)))
  (round : ∀ fs g e, J fs g -> fs.length < es.length -> ChO e -> Ayields Tryz.prog y [.agg e] g fun r g' => r = .bool true ∧ J (fs ++ [e]) g' ∧ g.next ≤ g'.next ∧ ∀ j m' t' s' st, g.get j = some (.miter m' t' s' st) -> g'.get j = some (.miter m' t' s' st)) :
  Acalls Tryz.prog 113 [.yl y, .ptr b 1 0] h fun r h' => r = .tup [] ∧ ∃ dn : List Nat, dn.Perm (List.range es.length) ∧ J (dn.map (zc5 es)) h' := by
 refine zan Tryz.func113 S.a55c S.a55e (Nat.le_of_ble_eq_true rfl) fun wf => ?_; simp only [S.a55]
 have cb : zac h.get b 1 = some [.map m] := (zaf (n := 1) hb rfl).trans rfl
 have hlt := wf.lt hm
 have hblt := wf.lt hb
 simp [cb]
 refine ⟨m, es, bs, tk, rfl, hm, ?_⟩
 simp
 obtain ⟨h1, hh1⟩ : ∃ h1, h1 = h.push (.miter m tk [] tk) := ⟨_, rfl⟩
 have g1 : Ge h h1 := by rw [hh1]; exact (Ge.refl _).push _
 have w1 : h1.WF := by rw [hh1]; exact wf.push _
 rw [<- hh1]
 refine zaO (fun k t h' => (t 0 = .yl y ∧ t 6 = .ptr h.next 0 0) ∧ ∃ dn seen st, Vis bs seen dn ∧ dn.length = k ∧ h'.get h.next = some (.miter m tk seen st) ∧ J (dn.map (zc5 es)) h' ∧ h1.next ≤ h'.next) bs.length ⟨by simp, [], [], tk, Vis.nil _, rfl, by rw [hh1]; simp, Jge _ _ _ J0 g1 w1, Nat.le_refl _⟩ ?_
 rintro k t h' hk ⟨⟨t0, t6⟩, dn, seen, st, vis, hdn, hi, hJ, hn1⟩ K hK
 have hm' : h'.get m = some (.mapo es bs tk) := (Jm _ _ hJ).1.trans hm
 simp [t6]
 refine ⟨h.next, m, tk, seen, st, es, bs, rfl, hi, hm', fun i e b' he hb' hbs => ?_, fun hall => ?_⟩
 ·simp [t6]
  obtain ⟨ec, hec, co⟩ := hes i e he
  have hne : ¬ m = h.next := by omega
  obtain ⟨h2, hh2⟩ : ∃ h2, h2 = h'.set h.next (.miter m tk (seen ++ [b']) tk) := ⟨_, rfl⟩
  have J2 : J (dn.map (zc5 es)) h2 := by rw [hh2]; exact Jmi _ _ _ _ _ _ _ _ _ hJ (Nat.le_refl _) hi
  have w2 := Jwf _ _ J2
  refine ⟨h.next, m, tk, tk, seen, b', es, bs, i, e, rfl, by simp, by simp [hne, hm'], he, hb', ?_⟩
  have v2 := vis.snoc hb' hbs
  have hlen : dn.length < bs.length := by have := v2.le; simp at this; omega
  obtain ⟨c, vp, vc, vx, vl, vk, rfl, o1, o2, o3, o4, o5⟩ := co
  have hce : zc5 es i = chC c vp vc vx vl vk := zgQ (k := e.1) (by rw [he, <- hec])
  obtain ⟨h3, hh3⟩ : ∃ h3, h3 = h2.push (.row (chC c vp vc vx vl vk)) := ⟨_, rfl⟩
  have g3 : Ge h2 h3 := by rw [hh3]; exact (Ge.refl _).push _
  have w3 : h3.WF := by rw [hh3]; exact w2.push _
  have c3 : zac h3.get h2.next 23 = some (chC c vp vc vx vl vk) := by rw [hh3]; simp [chC]
  have n2 : h2.next = h'.next := by rw [hh2]; simp
  rw [n2] at c3
  have i2 : h2.get h.next = some (.miter m tk (seen ++ [b']) tk) := by rw [hh2]; simp
  have hn' : h.next < h'.next := by rw [hh1] at hn1; simp at hn1; omega
  have i3 : h3.get h.next = some (.miter m tk (seen ++ [b']) tk) := (g3.2 _ (by omega)).trans i2
  have rd := round _ h3 _ (Jge _ _ _ J2 g3 w3) (by simp; rw [<- mb.len]; omega) ⟨c, vp, vc, vx, vl, vk, rfl, o1, o2, o3, o4, o5⟩
  simp only [chC] at hec hh3 c3 rd
  simp [hec, o1, o2, o3, o4, o5, t0]
  rw [<- hh2, <- n2, zb5 _ _ _ rfl, <- hh3, n2]
  refine rd.mono ?_
  rintro r g' ⟨rfl, hJ3, hn3, hmi⟩
  simp
  refine hK _ _ (by omega) ⟨by simp [t0, t6], dn ++ [i], seen ++ [b'], tk, v2, by simp [hdn], hmi _ _ _ _ _ i3, ?_, ?_⟩
  ·rw [List.map_append]; simpa [hce, chC] using hJ3
  ·have := g3.1; omega
 ·simp
  refine ⟨dn, ?_, hJ⟩
  have := vis.full mb.nd hall
  rwa [mb.len] at this
end Go.Am

namespace Go.Am
open Go.Proofs

set_option maxRecDepth 100000
theorem zo4 (f : Fn) (a b : List V) : eqV .func (.func f a b) .nilfunc = some false := rfl
def outC (h3 : H) (ob : Nat) (r0 : LoopV) (fs : List (List V)) (h : H) : Prop :=
 h.WF ∧ h3.next + 2 ≤ h.next ∧ (∀ j, j < h3.next -> j ≠ ob -> h.get j = h3.get j) ∧ h.get h3.next = some (.defo true) ∧ h.get (h3.next + 1) = some (.loopo r0) ∧ (∀ e ∈ fs, e.length = 23) ∧ ∃ ov, h.get ob = some (.row [ov]) ∧ Gl h (h3.next + 2) 23 ov fs
theorem znp {h3 : H} {ob : Nat} {r0 : LoopV} (hob : ob < h3.next) {fs : List (List V)} {h h' : H} (j : outC h3 ob r0 fs h) (g : Ge h h') (w : h'.WF) : outC h3 ob r0 fs h' := by
 obtain ⟨a, b, c, d, e, l, ov, f, gl⟩ := j
 exact ⟨w, Nat.le_trans b g.1, fun j hj hn => (g.2 j (by omega)).trans (c j hj hn), (g.2 _ (by omega)).trans d, (g.2 _ (by omega)).trans e, l, ov, (g.2 _ (by omega)).trans f, gl.keep g.1 fun i hi => g.2 i (gl.lo i hi).2⟩
theorem znb {h3 : H} {ob : Nat} {r0 : LoopV} {fs : List (List V)} {h : H} {j m' t' st st2 : Nat} {s' ss : List Nat} (hj3 : h3.next + 2 ≤ j) (hob : ob < h3.next) (x : outC h3 ob r0 fs h) (hj : h.get j = some (.miter m' t' s' st)) : outC h3 ob r0 fs (h.set j (.miter m' t' ss st2)) := by
 obtain ⟨a, b, c, d, e, l, ov, f, gl⟩ := x
 refine ⟨a.set (a.lt hj) _, by simpa using b, fun i hi hn => by rw [H.get_set, if_neg (by omega)]; exact c i hi hn, by rw [H.get_set, if_neg (by omega)]; exact d, by rw [H.get_set, if_neg (by omega)]; exact e, l, ov, by rw [H.get_set, if_neg (by omega)]; exact f, gl.keep (by simp) fun i hi => ?_⟩
 rcases gl with ⟨_, e2⟩ | ⟨_, k, _, _, e2, e3⟩
 ·rw [e2] at hi; simp [V.ids] at hi
 ·rw [e2] at hi; simp [V.ids] at hi
  subst hi
  rw [H.get_set, if_neg (fun e => by subst e; rw [hj] at e3; cases e3)]
theorem zeZ {h3 : H} {ob : Nat} {r0 : LoopV} (hob : ob < h3.next) (hst : r0.st = .ready) (hpd : r0.pending = none) (has : r0.assign = S.slices_AppendSeq_api_Change_api_Change_as) (hbd : r0.body = S.slices_AppendSeq_api_Change_api_Change_bd)
  (hps : r0.params = #[7]) (htl : r0.tmps.length = 13) (t2 : r0.tmps[2]? = some (.ptr ob 1 0)) {fs : List (List V)} {e : List V} {h : H} (hJ : outC h3 ob r0 fs h) (he : ChO e) (hl : fs.length ≤ 1000000) :
  Ayields Tryz.prog (h3.next + 1) [.agg e] h fun r h' => r = .bool true ∧ outC h3 ob r0 (fs ++ [e]) h' ∧ h.next ≤ h'.next ∧ ∀ j m' t' s' st, h.get j = some (.miter m' t' s' st) -> h'.get j = some (.miter m' t' s' st) := by
 obtain ⟨w, b1, k1, d1, l1, ls, ov, f1, gl⟩ := hJ
 obtain ⟨c, vp, vc, vx, vl, vk, rfl, o1, o2, o3, o4, o5⟩ := he
 refine ziy l1 (ca := S.slices_AppendSeq_api_Change_api_Change_ca) (cb := S.slices_AppendSeq_api_Change_api_Change_cb) (by rw [htl, has]; exact S.slices_AppendSeq_api_Change_api_Change_cas) (by rw [htl, hbd]; exact S.slices_AppendSeq_api_Change_api_Change_cbd) (by rw [hps]; rfl) (by rw [hps, htl]; simp) ?_
 rw [hps]
 simp only [S.slices_AppendSeq_api_Change_api_Change_ca, chC]
 simp [o1, o2, o3, o4, o5]
 rw [zb5 _ _ _ rfl]
 obtain ⟨h1, hh1⟩ : ∃ h1, h1 = h.push (.row (chC c vp vc vx vl vk)) := ⟨_, rfl⟩
 have n1 : h1.next = h.next + 1 := by rw [hh1]; simp
 have w1 : h1.WF := by rw [hh1]; exact w.push _
 have g1 : Ge h h1 := by rw [hh1]; exact (Ge.refl _).push _
 have p1 : h1.get h.next = some (.row (chC c vp vc vx vl vk)) := by rw [hh1]; simp
 simp only [chC] at hh1
 rw [<- hh1]
 refine ⟨r0, by simp [show ¬ h3.next + 1 = h.next by omega, l1], hst, ?_⟩
 obtain ⟨r1, hr1⟩ : ∃ r1 : LoopV, r1 = { r0 with st := .busy, pending := r0.pending } := ⟨_, rfl⟩
 have hr2 : ({ r1 with st := .ready, pending := none } : LoopV) = r0 := by rw [hr1]; cases r0; simp_all
 rw [<- hr1]
 obtain ⟨h2, hh2⟩ : ∃ h2, h2 = h1.set (h3.next + 1) (.loopo r1) := ⟨_, rfl⟩
 rw [<- hh2]
 have k2 : ∀ j, j ≠ h3.next + 1 -> h2.get j = h1.get j := fun j hj => by rw [hh2, H.get_set, if_neg hj]
 have n2 : h2.next = h.next + 1 := by rw [hh2]; simpa using n1
 have w2 : h2.WF := by rw [hh2]; exact w1.set (by omega) _
 have l2 : h2.get (h3.next + 1) = some (.loopo r1) := by rw [hh2]; simp
 have o2' : h2.get ob = some (.row [ov]) := (k2 ob (by omega)).trans ((g1.2 ob (by omega)).trans f1)
 have q2 : h2.get h.next = some (.row (chC c vp vc vx vl vk)) := (k2 h.next (by omega)).trans p1
 have co : zac h2.get ob 1 = some [ov] := by rw [zaf o2' (by rfl)]; rfl
 have cq : zac h2.get h.next 23 = some (chC c vp vc vx vl vk) := by rw [zaf q2 (by rfl)]; rfl
 have gl2 : Gl h2 (h3.next + 2) 23 ov fs := gl.keep (by omega) fun i hi => by
  have := gl.lo i hi
  rw [k2 i (by omega), g1.2 i this.2]
 obtain ⟨ov', dd, A1, A2, A3, A4, A5, _⟩ := zkw (bytes := 240) (chC c vp vc vx vl vk) gl2 (by omega) ls rfl (by simp [chC, o1, o2, o3, o4, o5]) (by decide) (by omega) (by omega)
 obtain ⟨h5, hh5⟩ : ∃ h5, h5 = (h2.push (.row (chC c vp vc vx vl vk))).app dd := ⟨_, rfl⟩
 rw [<- hh5] at A2 A3 A4 A5
 have nov : ∀ j, j < h3.next + 2 -> j ∉ ov.ids := fun j hj hm => by have := (gl.lo j hm).1; omega
 have ob5 : h5.get ob = some (.row [ov]) := (A4 ob (nov ob (by omega)) (by omega)).trans o2'
 have oo := gl2.one
 have cov := zaL oo
 have sov := zaN oo
 have oo' := A2.one
 have cov' := zaL oo'
 have sov' := zaN oo'
 simp only [S.slices_AppendSeq_api_Change_api_Change_cb]
 simp only [chC] at cq A1 hh5
 simp [t2, co, cq, o1, o2, o3, o4, o5, A1]
 rw [<- hh5]
 simp [ob5, cov', sov']
 obtain ⟨h6, hh6⟩ : ∃ h6, h6 = h5.set ob (.row [ov']) := ⟨_, rfl⟩
 rw [<- hh6]
 have k6 : ∀ j, j ≠ ob -> h6.get j = h5.get j := fun j hj => by rw [hh6, H.get_set, if_neg hj]
 have n6 : h6.next = h5.next := by rw [hh6]; simp
 have w6 : h6.WF := by rw [hh6]; exact (A5 w2).set (by omega) _
 have l6 : h6.get (h3.next + 1) = some (.loopo r1) := (k6 _ (by omega)).trans ((A4 _ (nov _ (by omega)) (by omega)).trans l2)
 have kk : ∀ j, j < h3.next + 2 -> j ≠ ob -> j ≠ h3.next + 1 -> h6.get j = h.get j := fun j a b cc => (k6 j b).trans ((A4 j (nov j a) (by omega)).trans ((k2 j cc).trans (g1.2 j (by omega))))
 have l5 : h5.get (h3.next + 1) = some (.loopo r1) := (A4 _ (nov _ (by omega)) (by omega)).trans l2
 refine ⟨r1, by rw [if_neg (by omega)]; exact l5, ?_, by omega, fun j m' t' s' st hj => ?_⟩
 ·show outC h3 ob r0 (fs ++ [chC c vp vc vx vl vk]) (h6.set (h3.next + 1) (.loopo { r1 with st := .ready, pending := none }))
  rw [hr2]
  refine ⟨w6.set (by omega) _, by simp; omega, fun j hj hn => ?_, ?_, by simp, fun e he => ?_, ov', ?_, ?_⟩
  ·rw [H.get_set, if_neg (by omega), kk j (by omega) hn (by omega), k1 j hj hn]
  ·rw [H.get_set, if_neg (by omega), kk _ (by omega) (by omega) (by omega), d1]
  ·rcases List.mem_append.1 he with he | he
   ·exact ls e he
   ·rw [List.mem_singleton] at he; subst he; rfl
  ·rw [H.get_set, if_neg (by omega), hh6]; simp
  ·exact A2.keep (by simp; omega) fun i hi => by
    have := (A2.lo i hi).1
    rw [H.get_set, if_neg (by omega), k6 i (by omega)]
 ·have j1 : ¬ j = h3.next + 1 := fun e => by subst e; rw [l1] at hj; cases hj
  have j2 : ¬ j = ob := fun e => by subst e; rw [f1] at hj; cases hj
  have jl := w.lt hj
  rw [if_neg j1, if_neg j2, A4 j (fun hm => ?_) (by omega), k2 j j1, g1.2 j jl]
  ·exact hj
  ·rcases gl with ⟨_, e2⟩ | ⟨_, k, _, _, e2, e3⟩
   ·rw [e2] at hm; simp [V.ids] at hm
   ·rw [e2] at hm; simp [V.ids] at hm
    subst hm; rw [hj] at e3; cases e3
theorem ze7 {h3 : H} (t : Tm) (w3 : h3.WF) {ob b m tk : Nat} {es : List (V × V)} {bs : List Nat} (hob : ob < h3.next) (ob3 : h3.get ob = some (.row [.nilsl])) (hb : h3.get b = some (.row [.map m])) (hm : h3.get m = some (.mapo es bs tk)) (mb : MapB es bs tk) (hes : ∀ (i : Nat) (x : V × V), es[i]? = some x -> ∃ e, x.2 = .agg e ∧ ChO e) (hl : es.length ≤ 1000000) (t2 : t 2 = .ptr ob 1 0) :
  Acalls Tryz.prog 113 [.yl (h3.next + 1), .ptr b 1 0] (zdD 13 t #[7] S.slices_AppendSeq_api_Change_api_Change_as S.slices_AppendSeq_api_Change_api_Change_bd h3) fun r h2 => r = .tup [] ∧
   ∃ dn : List Nat, dn.Perm (List.range es.length) ∧ outC h3 ob ⟨.ready, none, (List.range 13).map t, #[7], S.slices_AppendSeq_api_Change_api_Change_as, S.slices_AppendSeq_api_Change_api_Change_bd, h3.next⟩ (dn.map (zc5 es)) h2 := by
 obtain ⟨r0, hr0⟩ : ∃ r0 : LoopV, r0 = ⟨.ready, none, (List.range 13).map t, #[7], S.slices_AppendSeq_api_Change_api_Change_as, S.slices_AppendSeq_api_Change_api_Change_bd, h3.next⟩ := ⟨_, rfl⟩
 have mlt := w3.lt hm
 have blt := w3.lt hb
 have mo : m ≠ ob := fun e => by subst e; rw [hm] at ob3; cases ob3
 have bo : b ≠ ob := fun e => by subst e; rw [hb] at ob3; cases ob3
 obtain ⟨hL, hhL⟩ : ∃ hL, hL = zdD 13 t #[7] S.slices_AppendSeq_api_Change_api_Change_as S.slices_AppendSeq_api_Change_api_Change_bd h3 := ⟨_, rfl⟩
 have nL : hL.next = h3.next + 2 := by rw [hhL]; simp [zdD]
 have kL : ∀ j, j < h3.next -> hL.get j = h3.get j := fun j hj => by rw [hhL]; simp [zdD, show ¬ j = h3.next by omega, show ¬ j = h3.next + 1 by omega]
 have J0 : outC h3 ob r0 [] hL := by
  refine ⟨by rw [hhL]; exact (w3.push _).push _, by omega, fun j hj hn => kL j hj, by rw [hhL]; simp [zdD], by rw [hhL]; simp [zdD, hr0], by simp, .nilsl, (kL ob hob).trans ob3, .inl ⟨rfl, rfl⟩⟩
 rw [<- hr0, <- hhL]
 refine zjo ((kL b blt).trans hb) ((kL m mlt).trans hm) mb hes (outC h3 ob r0) J0 (fun _ _ j => j.1) (fun fs g j => ⟨?_, ?_, by have := j.2.1; omega⟩) (fun fs g g' j gg w => znp hob j gg w) (fun fs g j m' t' s' st s2 st2 jj hj he => znb (by omega) hob jj he) fun fs g e j hlen he => ?_
 ·rw [j.2.2.1 m mlt mo, kL m mlt]
 ·rw [j.2.2.1 b blt bo, kL b blt]
 ·exact zeZ hob (by rw [hr0]) (by rw [hr0]) (by rw [hr0]) (by rw [hr0]) (by rw [hr0]) (by rw [hr0]; simp) (by rw [hr0]; simp [t2]) j he (by omega)
theorem zgl {h : H} {b m tk : Nat} {es : List (V × V)} {bs : List Nat} (hb : h.get b = some (.row [.map m])) (hm : h.get m = some (.mapo es bs tk)) (mb : MapB es bs tk) (hes : ∀ (i : Nat) (x : V × V), es[i]? = some x -> ∃ e, x.2 = .agg e ∧ ChO e) (hl : es.length ≤ 1000000) {Q : V -> H -> Prop}
  (q : ∀ w (dn : List Nat) h', Ge h h' -> h'.WF -> dn.Perm (List.range es.length) -> Gl h' h.next 23 w (dn.map (zc5 es)) -> Q w h') :
  Acalls Tryz.prog 112 [.nilsl, .func (.func 113) [] [.ptr b 1 0]] h Q := by
 refine zeD Tryz.func112 S.slices_AppendSeq_api_Change_api_Change_rcode S.slices_AppendSeq_api_Change_api_Change_enter (Nat.le_of_ble_eq_true rfl) fun wf => ?_
 simp only [S.slices_AppendSeq_api_Change_api_Change_r]
 simp [boxV]
 have mlt := wf.lt hm
 have blt := wf.lt hb
 obtain ⟨h3, hh3⟩ : ∃ h3, h3 = h.push (.row [.nilsl]) := ⟨_, rfl⟩
 rw [<- hh3]
 have w3 : h3.WF := by rw [hh3]; exact wf.push _
 have n3 : h3.next = h.next + 1 := by rw [hh3]; simp
 have g3 : Ge h h3 := by rw [hh3]; exact (Ge.refl _).push _
 have ob3 : h3.get h.next = some (.row [.nilsl]) := by rw [hh3]; simp
 refine zmR _ ?_
 refine Acalls.mono (ze7 _ w3 (ob := h.next) (by omega) ob3 ((g3.2 b blt).trans hb) ((g3.2 m mlt).trans hm) mb hes hl (by simp)) ?_
 rintro _ h2 ⟨rfl, dn, hp, hJ2⟩
 obtain ⟨w2, b2, k2, d2, l2, ls, ov, f2, gl⟩ := hJ2
 refine ⟨by simpa using d2, _, l2, by simp, ?_⟩
 have co : zac h2.get h.next 1 = some [ov] := by rw [zaf f2 (by rfl)]; rfl
 have ov1 := gl.one
 have cov := zaL ov1
 have sov := zaN ov1
 have m1 : ¬ h.next = h3.next + 1 := by omega
 have m2 : ¬ h.next = h3.next := by omega
 have m3 : ¬ h3.next = h.next := by omega
 simp [co, m1, d2]
 refine q ov dn _ ⟨by simp; omega, fun j hj => ?_⟩ ((w2.set (by omega) _).set (by simp; omega) _) hp ?_
 ·rw [H.get_set, if_neg (by omega), H.get_set, if_neg (by omega), k2 j (by omega) (by omega)]; exact g3.2 j hj
 ·rcases gl with e | ⟨e1, j, j1, j2, j3, j4⟩
  ·exact .inl e
  ·exact .inr ⟨e1, j, by omega, by simpa using j2, j3, by rw [H.get_set, if_neg (by omega), H.get_set, if_neg (by omega)]; exact j4⟩
theorem ziz {h : H} {b m tk : Nat} {es : List (V × V)} {bs : List Nat} (hb : h.get b = some (.row [.map m])) (hm : h.get m = some (.mapo es bs tk)) (mb : MapB es bs tk) (hes : ∀ (i : Nat) (x : V × V), es[i]? = some x -> ∃ e, x.2 = .agg e ∧ ChO e) (hl : es.length ≤ 1000000) {Q : V -> H -> Prop}
  (q : ∀ w (dn : List Nat) h', Ge h h' -> h'.WF -> dn.Perm (List.range es.length) -> Gl h' h.next 23 w (dn.map (zc5 es)) -> Q w h') :
  Acalls Tryz.prog 76 [.func (.func 113) [] [.ptr b 1 0]] h Q := by
 refine zan Tryz.func76 S.a33c S.a33e (Nat.le_of_ble_eq_true rfl) fun wf => ?_; simp only [S.a33]
 simp
 refine zgl hb hm mb hes hl fun w dn h' a b c d => ?_
 simp
 exact q w dn h' a b c d
theorem ziN {h : H} {m : Nat} {Q : V -> H -> Prop} (q : h.WF -> Q (.func (.func 113) [] [.ptr h.next 1 0]) (h.push (.row [.map m]))) :
  Acalls Tryz.prog 77 [.map m] h Q := by
 refine zan Tryz.func77 S.a34c S.a34e (Nat.le_of_ble_eq_true rfl) fun wf => ?_; simp only [S.a34]
 simp [boxV]
 exact q wf
end Go.Am
