/-
 PC0, RM, PC1, PC2, PC3, PC4, in one text.
-/
import Derived.Test.YtpgcodeckphanaaGreatDoorIMA
import Derived.Test.YtpgcodeckphanaaGreatDoorIMB
import Derived.Test.YtpgcodeckphanaaGreatDoorISkRg
import Derived.Test.YtpgcodeckphanaaGreatDoorIAmL
namespace Go.Am

structure Chg where
 gone : Bool
 n : Nl
 att : Att
 deriving DecidableEq
def chC (c : Chg) (vp vc vx vl vk : V) : List V := [.bool c.gone, .int .i64 c.n.p.fam, .int .u64 (c.n.p.rd : Nat), .str c.n.p.addr, .int .i64 c.n.p.len, .int .u32 (c.n.id : Nat), .int .u32 (c.n.label : Nat),
 .int .i64 c.att.origin, vp, .str c.att.next, .bool c.att.hasMed, .int .u32 (c.att.med : Nat), .bool c.att.hasPref, .int .u32 (c.att.pref : Nat), .bool c.att.atomic, .int .u32 (c.att.aggAS : Nat), .int .u32 (c.att.aggId : Nat), vc, vx, vl, .bool c.att.hasOrig, .int .u32 (c.att.orig : Nat), vk]
structure Ky where
 p : Pfx
 id : Nat
 deriving DecidableEq
def zad (c : Chg) : Ky := ⟨c.n.p, c.n.id⟩
def kyV (k : Ky) : V := .agg [.int .i64 k.p.fam, .int .u64 (k.p.rd : Nat), .str k.p.addr, .int .i64 k.p.len, .int .u32 (k.id : Nat)]
def zi2 (a b : Ky) : Int := orI (zfl a.p b.p) (cmpI a.id b.id)
theorem ordr_ky : Ordr zi2 := (ordr_pf.on Ky.p).or (ordr_int.on fun k : Ky => (k.id : Int))
theorem zlZ {a b : Ky} (h : zi2 a b = 0) : a = b := by
 simp only [zi2, zmV, zcs] at h
 have := zlV h.1
 cases a; cases b
 simp only at this h
 simp only [Ky.mk.injEq]
 exact ⟨this, by omega⟩
def cmpC (a b : Chg) : Int := zi2 (zad a) (zad b)
theorem ordr_c : Ordr cmpC := ordr_ky.on zad
theorem zhh {a b : Chg} (h : cmpC a b = 0) : zad a = zad b := zlZ h
def putC : List Chg -> Chg -> List Chg
 | [], c => [c]
 | d :: l, c => if cmpC c d < 0 then c :: d :: l else if cmpC c d = 0 then c :: l else d :: putC l c
def upC : List Chg -> Chg -> List Chg
 | [], c => [c]
 | d :: l, c => if zad d = zad c then c :: l else d :: upC l c
def zas (L : List Chg) : Prop := (L.map zad).Nodup
theorem zhN {c x : Chg} : ∀ {L : List Chg}, zas L -> (x ∈ upC L c ↔ x = c ∨ x ∈ L ∧ zad x ≠ zad c)
 | [], _ => by simp [upC]
 | d :: l, h => by
  have h' : zad d ∉ l.map zad ∧ (l.map zad).Nodup := by simpa [zas] using h
  unfold upC
  split
  ·rename_i e
   rw [List.mem_cons]
   constructor
   ·rintro (rfl | hx)
    ·exact .inl rfl
    ·exact .inr ⟨List.mem_cons_of_mem _ hx, fun e2 => h'.1 (by rw [e, <- e2]; exact List.mem_map_of_mem hx)⟩
   ·rintro (rfl | ⟨hx, hne⟩)
    ·exact .inl rfl
    ·rcases List.mem_cons.1 hx with rfl | hx
     ·exact absurd e hne
     ·exact .inr hx
  ·rename_i e
   rw [List.mem_cons, zhN (show zas l from h'.2), List.mem_cons]
   constructor
   ·rintro (rfl | rfl | ⟨hx, hne⟩)
    ·exact .inr ⟨.inl rfl, e⟩
    ·exact .inl rfl
    ·exact .inr ⟨.inr hx, hne⟩
   ·rintro (rfl | ⟨rfl | hx, hne⟩)
    ·exact .inr (.inl rfl)
    ·exact .inl rfl
    ·exact .inr (.inr ⟨hx, hne⟩)
theorem zic {c : Chg} : ∀ {L : List Chg}, zas L -> zas (upC L c)
 | [], _ => by simp [upC, zas]
 | d :: l, h => by
  have h' : zad d ∉ l.map zad ∧ (l.map zad).Nodup := by simpa [zas] using h
  unfold upC
  split
  ·rename_i e
   unfold zas
   rw [List.map_cons, List.nodup_cons, <- e]
   exact h'
  ·rename_i e
   unfold zas
   rw [List.map_cons, List.nodup_cons]
   refine ⟨fun hm => ?_, zic (show zas l from h'.2)⟩
   obtain ⟨x, hx, hk⟩ := List.mem_map.1 hm
   rcases (zhN (show zas l from h'.2)).1 hx with rfl | ⟨hx, _⟩
   ·exact e hk.symm
   ·exact h'.1 (by rw [<- hk]; exact List.mem_map_of_mem hx)
theorem zaZ {S : List Chg} (h : Rise cmpC S) : zas S := by
 unfold zas List.Nodup
 rw [List.pairwise_map]
 refine h.imp fun {a b} hab e => ?_
 have : cmpC a b = 0 := by unfold cmpC; rw [e]; exact ordr_ky.self _
 omega
theorem zce {c x : Chg} : ∀ {S : List Chg}, Rise cmpC S -> (x ∈ putC S c ↔ x = c ∨ x ∈ S ∧ zad x ≠ zad c)
 | [], _ => by simp [putC]
 | d :: l, h => by
  obtain ⟨h1, h2⟩ := List.pairwise_cons.1 h
  have ne_of : ∀ y, cmpC c y < 0 -> zad y ≠ zad c := fun y hy e => by
   have : cmpC c y = 0 := by unfold cmpC; rw [e]; exact ordr_ky.self _
   omega
  unfold putC
  split
  ·rename_i e
   rw [List.mem_cons]
   constructor
   ·rintro (rfl | hx)
    ·exact .inl rfl
    ·refine .inr ⟨hx, ?_⟩
     rcases List.mem_cons.1 hx with rfl | hx'
     ·exact ne_of _ e
     ·exact ne_of _ (ordr_c.down _ _ _ e (h1 x hx'))
   ·rintro (rfl | ⟨hx, _⟩)
    ·exact .inl rfl
    ·exact .inr hx
  ·split
   ·rename_i _ e
    have ek := zhh e
    rw [List.mem_cons]
    constructor
    ·rintro (rfl | hx)
     ·exact .inl rfl
     ·refine .inr ⟨List.mem_cons_of_mem _ hx, fun e2 => ?_⟩
      have h3 := h1 x hx
      have : cmpC d x = 0 := by unfold cmpC; rw [e2, ek]; exact ordr_ky.self _
      omega
    ·rintro (rfl | ⟨hx, hne⟩)
     ·exact .inl rfl
     ·rcases List.mem_cons.1 hx with rfl | hx
      ·exact absurd ek.symm hne
      ·exact .inr hx
   ·rename_i e1 e2
    rw [List.mem_cons, zce h2, List.mem_cons]
    constructor
    ·rintro (rfl | rfl | ⟨hx, hne⟩)
     ·refine .inr ⟨.inl rfl, fun e => e2 ?_⟩
      unfold cmpC; rw [e]; exact ordr_ky.self _
     ·exact .inl rfl
     ·exact .inr ⟨.inr hx, hne⟩
    ·rintro (rfl | ⟨rfl | hx, hne⟩)
     ·exact .inr (.inl rfl)
     ·exact .inl rfl
     ·exact .inr (.inr ⟨hx, hne⟩)
theorem zbE {c : Chg} : ∀ {S : List Chg}, Rise cmpC S -> Rise cmpC (putC S c)
 | [], _ => by simp [putC, Rise]
 | d :: l, h => by
  obtain ⟨h1, h2⟩ := List.pairwise_cons.1 h
  unfold putC
  split
  ·rename_i e
   refine List.pairwise_cons.2 ⟨fun x hx => ?_, h⟩
   rcases List.mem_cons.1 hx with rfl | hx
   ·exact e
   ·exact ordr_c.down _ _ _ e (h1 x hx)
  ·split
   ·rename_i _ e
    have ek := zhh e
    refine List.pairwise_cons.2 ⟨fun x hx => ?_, h2⟩
    have := h1 x hx
    unfold cmpC at this ⊢
    rw [ek]; exact this
   ·rename_i e1 e2
    refine List.pairwise_cons.2 ⟨fun x hx => ?_, zbE h2⟩
    rcases (zce h2).1 hx with rfl | ⟨hx, _⟩
    ·have := ordr_c.anti x d
     omega
    ·exact h1 x hx
structure Srt (L S : List Chg) : Prop where
 perm : L.Perm S
 rise : Rise cmpC S
theorem Srt.keys {L S : List Chg} (s : Srt L S) : zas L := by
 have := zaZ s.rise
 unfold zas at this ⊢
 exact (s.perm.map zad).nodup_iff.2 this
theorem zei {L M : List Chg} (h1 : zas L) (h2 : zas M) (hm : ∀ x, x ∈ L ↔ x ∈ M) : L.Perm M := by
 have n1 : L.Nodup := by unfold zas List.Nodup at h1; rw [List.pairwise_map] at h1; exact h1.imp fun hab e => hab (by rw [e])
 have n2 : M.Nodup := by unfold zas List.Nodup at h2; rw [List.pairwise_map] at h2; exact h2.imp fun hab e => hab (by rw [e])
 exact (List.perm_ext_iff_of_nodup n1 n2).2 hm
theorem Srt.put {L S : List Chg} (s : Srt L S) (c : Chg) : Srt (upC L c) (putC S c) :=
 ⟨zei (zic s.keys) (zaZ (zbE s.rise)) fun x => by rw [zhN s.keys, zce s.rise, s.perm.mem_iff], zbE s.rise⟩
theorem Srt.uniq {L S S' : List Chg} (s : Srt L S) (s' : Srt L S') : S = S' := zf8 ordr_c s.rise s'.rise fun x => by rw [<- s.perm.mem_iff, s'.perm.mem_iff]
theorem zmf (S : List Chg) (c : Chg) : (putC S c).length ≤ S.length + 1 := by
 induction S with
 | nil => simp [putC]
 | cons d l ih =>
  unfold putC
  split
  ·simp
  ·split
   ·simp
   ·simp; omega
theorem zjG : ∀ (L : List Chg) (c : Chg), (∃ j, ∃ h : j < L.length, zad L[j] = zad c ∧ upC L c = L.set j c ∧ ∀ k (hk : k < j), zad L[k] ≠ zad c) ∨ ((∀ x ∈ L, zad x ≠ zad c) ∧ upC L c = L ++ [c])
 | [], c => .inr ⟨by simp, rfl⟩
 | d :: l, c => by
  unfold upC
  split
  ·rename_i e
   exact .inl ⟨0, by simp, e, rfl, fun k hk => by omega⟩
  ·rename_i e
   rcases zjG l c with ⟨j, h, a, b, f⟩ | ⟨a, b⟩
   ·refine .inl ⟨j + 1, by simpa using h, a, by rw [b]; rfl, fun k hk => ?_⟩
    cases k with
    | zero => exact e
    | succ k => exact f k (by omega)
   ·exact .inr ⟨fun x hx => (List.mem_cons.1 hx).elim (fun h => h ▸ e) (a x), by rw [b]; rfl⟩
end Go.Am

namespace Go.Am

structure MapB (es : List (V × V)) (bs : List Nat) (tk : Nat) : Prop where
 len : bs.length = es.length
 nd : bs.Nodup
 lt : ∀ b ∈ bs, b < tk
theorem MapB.nil (tk : Nat) : MapB [] [] tk := ⟨rfl, List.nodup_nil, by simp⟩
theorem MapB.set {es : List (V × V)} {bs : List Nat} {tk j : Nat} {e : V × V} (m : MapB es bs tk) : MapB (es.set j e) bs tk := ⟨by simpa using m.len, m.nd, m.lt⟩
theorem MapB.snoc {es : List (V × V)} {bs : List Nat} {tk : Nat} {e : V × V} (m : MapB es bs tk) : MapB (es ++ [e]) (bs ++ [tk]) (tk + 1) := by
 refine ⟨by simp [m.len], List.nodup_append.2 ⟨m.nd, by simp, fun x hx y hy e => ?_⟩, fun b hb => ?_⟩
 ·rw [List.mem_singleton] at hy
  have := m.lt x hx
  omega
 ·rcases List.mem_append.1 hb with hb | hb
  ·have := m.lt b hb; omega
  ·rw [List.mem_singleton] at hb; omega
theorem MapB.erase {es : List (V × V)} {bs : List Nat} {tk j : Nat} (m : MapB es bs tk) : MapB (es.eraseIdx j) (bs.eraseIdx j) tk :=
 ⟨by rw [List.length_eraseIdx, List.length_eraseIdx, m.len], m.nd.sublist (List.eraseIdx_sublist _ _), fun b hb => m.lt b ((List.eraseIdx_sublist _ _).mem hb)⟩
structure Vis (bs seen dn : List Nat) : Prop where
 nd : dn.Nodup
 lt : ∀ i ∈ dn, i < bs.length
 eq : seen = dn.map fun i => bs.getD i 0
theorem Vis.nil (bs : List Nat) : Vis bs [] [] := ⟨List.nodup_nil, by simp, rfl⟩
theorem Vis.snoc {bs seen dn : List Nat} (v : Vis bs seen dn) {i b : Nat} (hb : bs[i]? = some b) (hn : b ∉ seen) : Vis bs (seen ++ [b]) (dn ++ [i]) := by
 have hi := (List.getElem?_eq_some_iff.1 hb).1
 have hg : bs.getD i 0 = b := by simp [List.getD, hb]
 refine ⟨List.nodup_append.2 ⟨v.nd, by simp, fun x hx y hy e => ?_⟩, fun j hj => ?_, by rw [v.eq, List.map_append, List.map_singleton, hg]⟩
 ·rw [List.mem_singleton] at hy
  subst hy; subst e
  exact hn (by rw [v.eq, <- hg]; exact List.mem_map_of_mem (f := fun i => bs.getD i 0) hx)
 ·rcases List.mem_append.1 hj with hj | hj
  ·exact v.lt j hj
  ·rw [List.mem_singleton] at hj; omega
theorem zlm {a : List Nat} {n : Nat} (h : a.Nodup) (hl : ∀ i ∈ a, i < n) : a.length ≤ n := by
 have : ∀ {a b : List Nat}, a.Nodup -> (∀ x ∈ a, x ∈ b) -> a.length ≤ b.length := by
  intro a
  induction a with
  | nil => intros; simp
  | cons x a ih =>
   intro b hn hs
   obtain ⟨h1, h2⟩ := List.nodup_cons.1 hn
   have hx := hs x (by simp)
   have := ih (b := b.erase x) h2 fun y hy => (List.mem_erase_of_ne (show y ≠ x from fun e => h1 (e ▸ hy))).2 (hs y (by simp [hy]))
   rw [List.length_erase_of_mem hx] at this
   have : 0 < b.length := List.length_pos_of_mem hx
   simp; omega
 simpa using this (b := List.range n) h fun x hx => by simpa using hl x hx
theorem Vis.le {bs seen dn : List Nat} (v : Vis bs seen dn) : dn.length ≤ bs.length := zlm v.nd v.lt
theorem Vis.len {bs seen dn : List Nat} (v : Vis bs seen dn) : seen.length = dn.length := by rw [v.eq, List.length_map]
theorem Vis.full {bs seen dn : List Nat} (v : Vis bs seen dn) (hn : bs.Nodup) (ha : ∀ b ∈ bs, b ∈ seen) : dn.Perm (List.range bs.length) := by
 refine (List.perm_ext_iff_of_nodup v.nd List.nodup_range).2 fun i => ⟨fun hi => by simpa using v.lt i hi, fun hi => ?_⟩
 have hi : i < bs.length := by simpa using hi
 have := ha bs[i] (List.getElem_mem hi)
 rw [v.eq] at this
 obtain ⟨j, hj, e⟩ := List.mem_map.1 this
 have hjl := v.lt j hj
 have e2 : bs[j] = bs[i] := by simpa [List.getD, List.getElem?_eq_getElem hjl] using e
 have : j = i := (List.getElem_inj (h₀ := hjl) (h₁ := hi) hn).1 e2
 exact this ▸ hj
theorem zjM {α : Type} {dn : List Nat} {n : Nat} (h : dn.Perm (List.range n)) {L : List α} (hl : L.length = n) (d : α) : (dn.map fun i => L.getD i d).Perm L := by
 have h1 := h.map fun i => L.getD i d
 have h2 : ((List.range n).map fun i => L.getD i d) = L := by
  apply List.ext_getElem?
  intro k
  rw [List.getElem?_map]
  by_cases hk : k < n
  ·rw [List.getElem?_range hk, List.getElem?_eq_getElem (by omega)]
   simp [List.getD, List.getElem?_eq_getElem (show k < L.length by omega)]
  ·rw [List.getElem?_eq_none (by simpa using hk), List.getElem?_eq_none (by omega)]; rfl
 rw [h2] at h1; exact h1
end Go.Am

namespace Go.Am

def FcP (h : H) (R : Nat -> Prop) (sz : Nat) (v : V) (es : List (List V)) : Prop :=
 (es = [] ∧ (v = .nilsl ∨ ∃ k, v = .sl k 0 0 0 (some 0))) ∨ (es ≠ [] ∧ ∃ j, R j ∧ j < h.next ∧ v = .sl j es.flatten.length 0 es.length none ∧ h.get j = some (.grow sz es.flatten))
theorem Fc.p {h : H} {lo sz : Nat} {v : V} {es : List (List V)} (f : Fc h lo sz v es) : FcP h (fun j => lo ≤ j ∧ j < h.next) sz v es := by
 rcases f with ⟨e, e2 | ⟨k, _, e2⟩⟩ | ⟨hne, ⟨e, _⟩ | ⟨_, j, a, b, c, d⟩⟩
 ·exact .inl ⟨e, .inl e2⟩
 ·exact .inl ⟨e, .inr ⟨k, e2⟩⟩
 ·exact absurd e hne
 ·exact .inr ⟨hne, j, ⟨a, b⟩, b, c, d⟩
theorem FcP.mono {h : H} {R R' : Nat -> Prop} {sz : Nat} {v : V} {es : List (List V)} (f : FcP h R sz v es) (k : ∀ j, j < h.next -> R j -> R' j) : FcP h R' sz v es := by
 rcases f with e | ⟨hne, j, a, b, c, d⟩
 ·exact .inl e
 ·exact .inr ⟨hne, j, k j b a, b, c, d⟩
theorem FcP.keep {h h' : H} {R : Nat -> Prop} {sz : Nat} {v : V} {es : List (List V)} (f : FcP h R sz v es) (hn : h.next ≤ h'.next) (k : ∀ j s cs, R j -> j < h.next -> h.get j = some (.grow s cs) -> h'.get j = some (.grow s cs)) : FcP h' R sz v es := by
 rcases f with e | ⟨hne, j, a, b, c, d⟩
 ·exact .inl e
 ·exact .inr ⟨hne, j, a, Nat.lt_of_lt_of_le b hn, c, k j _ _ a b d⟩
theorem FcP.ge {h h' : H} {R : Nat -> Prop} {sz : Nat} {v : V} {es : List (List V)} (f : FcP h R sz v es) (g : Ge h h') : FcP h' R sz v es := f.keep g.1 fun j _ _ _ hj e => (g.2 j hj).trans e
theorem FcP.one {h : H} {R : Nat -> Prop} {sz : Nat} {v : V} {es : List (List V)} (f : FcP h R sz v es) : v.one = true := by
 rcases f with ⟨_, rfl | ⟨k, rfl⟩⟩ | ⟨_, j, _, _, rfl, _⟩ <;> rfl
theorem FcP.sls {h : H} {R : Nat -> Prop} {sz : Nat} {v : V} {es : List (List V)} (f : FcP h R sz v es) (hs : ∀ e ∈ es, e.length = sz) (hb : es.length < 9223372036854775808) : Sls h.get sz v es := by
 rcases f with ⟨rfl, rfl | ⟨k, rfl⟩⟩ | ⟨hne, j, _, b, c, d⟩
 ·exact ⟨.inl ⟨rfl, .inl rfl⟩, by simp, rfl, by simp⟩
 ·exact ⟨.inr ⟨_, _, _, _, rfl⟩, by simp, by simp [zax], by simp⟩
 ·exact (Gl.sls (lo := 0) (.inr ⟨hne, j, Nat.zero_le _, b, c, d⟩) hs hb)
structure AttP (h : H) (R : Nat -> Prop) (a : Att) (vp vc vx vl vk : V) : Prop where
 path : ∃ es : List (List V), FcP h R 2 vp es ∧ es.length = a.path.length ∧ ∀ (i : Nat) (s : Sg), a.path[i]? = some s -> ∃ w, es[i]? = some [.int .i64 s.kind, w] ∧ FcP h R 1 w (s.ases.map cP)
 comms : FcP h R 1 vc (a.comms.map cP)
 exts : FcP h R 1 vx (a.exts.map cX)
 larges : FcP h R 3 vl (a.larges.map cL)
 clus : FcP h R 1 vk (a.clus.map cP)
 sz : AttSz a
theorem AttFr.p {h : H} {lo : Nat} {a : Att} {vp vc vx vl vk : V} (f : AttFr h lo a vp vc vx vl vk) : AttP h (fun j => lo ≤ j ∧ j < h.next) a vp vc vx vl vk := by
 obtain ⟨es, f1, f2, f3⟩ := f.path
 exact ⟨⟨es, f1.p, f2, fun i s hi => by obtain ⟨w, e, g⟩ := f3 i s hi; exact ⟨w, e, g.p⟩⟩, f.comms.p, f.exts.p, f.larges.p, f.clus.p, f.sz⟩
theorem AttP.mono {h : H} {R R' : Nat -> Prop} {a : Att} {vp vc vx vl vk : V} (f : AttP h R a vp vc vx vl vk) (k : ∀ j, j < h.next -> R j -> R' j) : AttP h R' a vp vc vx vl vk := by
 obtain ⟨es, f1, f2, f3⟩ := f.path
 exact ⟨⟨es, f1.mono k, f2, fun i s hi => by obtain ⟨w, e, g⟩ := f3 i s hi; exact ⟨w, e, g.mono k⟩⟩, f.comms.mono k, f.exts.mono k, f.larges.mono k, f.clus.mono k, f.sz⟩
theorem AttP.keep {h h' : H} {R : Nat -> Prop} {a : Att} {vp vc vx vl vk : V} (f : AttP h R a vp vc vx vl vk) (hn : h.next ≤ h'.next) (k : ∀ j s cs, R j -> j < h.next -> h.get j = some (.grow s cs) -> h'.get j = some (.grow s cs)) : AttP h' R a vp vc vx vl vk := by
 obtain ⟨es, f1, f2, f3⟩ := f.path
 exact ⟨⟨es, f1.keep hn k, f2, fun i s hi => by obtain ⟨w, e, g⟩ := f3 i s hi; exact ⟨w, e, g.keep hn k⟩⟩, f.comms.keep hn k, f.exts.keep hn k, f.larges.keep hn k, f.clus.keep hn k, f.sz⟩
theorem AttP.ge {h h' : H} {R : Nat -> Prop} {a : Att} {vp vc vx vl vk : V} (f : AttP h R a vp vc vx vl vk) (g : Ge h h') : AttP h' R a vp vc vx vl vk := f.keep g.1 fun j _ _ _ hj e => (g.2 j hj).trans e
theorem AttP.at {h : H} {R : Nat -> Prop} {a : Att} {vp vc vx vl vk : V} (f : AttP h R a vp vc vx vl vk) : AttAt h.get a vp vc vx vl vk := by
 have z := f.sz
 obtain ⟨es, f1, f2, f3⟩ := f.path
 have l1 := z.path
 have l2 := z.comms
 have l3 := z.exts
 have l4 := z.larges
 have l5 := z.clus
 refine ⟨⟨es, f1.sls (zdU f2 fun i s hi => by obtain ⟨w, e, _⟩ := f3 i s hi; exact ⟨w, e⟩) (by omega), f2, fun i s hi => ?_⟩, f.comms.sls (zdg _) (by simp; omega), f.exts.sls (zhW _) (by simp; omega), f.larges.sls (zim _) (by simp; omega), f.clus.sls (zdg _) (by simp; omega)⟩
 obtain ⟨w, e, g⟩ := f3 i s hi
 exact ⟨w, e, g.sls (zdg _) (by have := z.segs s (List.mem_of_getElem? hi); simp; omega)⟩
theorem AttP.one {h : H} {R : Nat -> Prop} {a : Att} {vp vc vx vl vk : V} (f : AttP h R a vp vc vx vl vk) : vp.one = true ∧ vc.one = true ∧ vx.one = true ∧ vl.one = true ∧ vk.one = true := by
 obtain ⟨_, f1, _⟩ := f.path
 exact ⟨f1.one, f.comms.one, f.exts.one, f.larges.one, f.clus.one⟩
theorem AttAt.one {g : Nat -> Option O} {a : Att} {vp vc vx vl vk : V} (f : AttAt g a vp vc vx vl vk) : vp.one = true ∧ vc.one = true ∧ vx.one = true ∧ vl.one = true ∧ vk.one = true := by
 obtain ⟨_, f1⟩ := f.path
 exact ⟨f1.sls.one, f.comms.one, f.exts.one, f.larges.one, f.clus.one⟩
theorem zkt (h : H) (R : Nat -> Prop) : AttP h R att0 .nilsl .nilsl .nilsl .nilsl .nilsl :=
 ⟨⟨[], .inl ⟨rfl, .inl rfl⟩, rfl, by simp [att0]⟩, .inl ⟨rfl, .inl rfl⟩, .inl ⟨rfl, .inl rfl⟩, .inl ⟨rfl, .inl rfl⟩, .inl ⟨rfl, .inl rfl⟩, by constructor <;> simp [att0]⟩
def ChP (h : H) (R : Nat -> Prop) (c : Chg) (e : List V) : Prop := ∃ vp vc vx vl vk, e = chC c vp vc vx vl vk ∧ AttP h R c.att vp vc vx vl vk
def ChA (g : Nat -> Option O) (c : Chg) (e : List V) : Prop := ∃ vp vc vx vl vk, e = chC c vp vc vx vl vk ∧ AttAt g c.att vp vc vx vl vk
theorem ChP.mono {h : H} {R R' : Nat -> Prop} {c : Chg} {e : List V} (f : ChP h R c e) (k : ∀ j, j < h.next -> R j -> R' j) : ChP h R' c e := by
 obtain ⟨vp, vc, vx, vl, vk, a, b⟩ := f; exact ⟨vp, vc, vx, vl, vk, a, b.mono k⟩
theorem ChP.keep {h h' : H} {R : Nat -> Prop} {c : Chg} {e : List V} (f : ChP h R c e) (hn : h.next ≤ h'.next) (k : ∀ j s cs, R j -> j < h.next -> h.get j = some (.grow s cs) -> h'.get j = some (.grow s cs)) : ChP h' R c e := by
 obtain ⟨vp, vc, vx, vl, vk, a, b⟩ := f; exact ⟨vp, vc, vx, vl, vk, a, b.keep hn k⟩
theorem ChP.ge {h h' : H} {R : Nat -> Prop} {c : Chg} {e : List V} (f : ChP h R c e) (g : Ge h h') : ChP h' R c e := f.keep g.1 fun j _ _ _ hj e => (g.2 j hj).trans e
theorem ChP.at {h : H} {R : Nat -> Prop} {c : Chg} {e : List V} (f : ChP h R c e) : ChA h.get c e := by
 obtain ⟨vp, vc, vx, vl, vk, a, b⟩ := f; exact ⟨vp, vc, vx, vl, vk, a, b.at⟩
theorem ChP.sz {h : H} {R : Nat -> Prop} {c : Chg} {e : List V} (f : ChP h R c e) : AttSz c.att := by
 obtain ⟨vp, vc, vx, vl, vk, a, b⟩ := f; exact b.sz
theorem ChA.ge {a b : H} {c : Chg} {e : List V} (f : ChA a.get c e) (w : a.WF) (g : Ge a b) : ChA b.get c e := by
 obtain ⟨vp, vc, vx, vl, vk, x, y⟩ := f; exact ⟨vp, vc, vx, vl, vk, x, y.ge w g⟩
theorem ChA.len {g : Nat -> Option O} {c : Chg} {e : List V} (f : ChA g c e) : e.length = 23 := by
 obtain ⟨vp, vc, vx, vl, vk, rfl, y⟩ := f; rfl
theorem ChA.ones {g : Nat -> Option O} {c : Chg} {e : List V} (f : ChA g c e) : e.all V.one = true := by
 obtain ⟨vp, vc, vx, vl, vk, rfl, y⟩ := f
 obtain ⟨o1, o2, o3, o4, o5⟩ := y.one
 simp [chC, o1, o2, o3, o4, o5]
structure CsAt (g : Nat -> Option O) (v : V) (L : List Chg) (es : List (List V)) : Prop where
 sls : Sls g 23 v es
 len : es.length = L.length
 at' : ∀ (i : Nat) (c : Chg), L[i]? = some c -> ∃ e, es[i]? = some e ∧ ChA g c e
theorem CsAt.ge {a b : H} {v : V} {L : List Chg} {es : List (List V)} (s : CsAt a.get v L es) (w : a.WF) (g : Ge a b) : CsAt b.get v L es :=
 ⟨s.sls.ge w g, s.len, fun i c hi => by obtain ⟨e, h1, h2⟩ := s.at' i c hi; exact ⟨e, h1, h2.ge w g⟩⟩
def RwP (h : H) (R : Nat -> Prop) (sz : Nat) (v : V) (es : List (List V)) : Prop :=
 (es = [] ∧ (v = .nilsl ∨ ∃ k, v = .sl k 0 0 0 (some 0))) ∨ (es ≠ [] ∧ ∃ j ca o, R j ∧ j < h.next ∧ v = .sl j es.flatten.length 0 es.length ca ∧ h.get j = some o ∧ (o = .row es.flatten ∨ o = .grow sz es.flatten))
theorem FcP.rw {h : H} {R : Nat -> Prop} {sz : Nat} {v : V} {es : List (List V)} (f : FcP h R sz v es) : RwP h R sz v es := by
 rcases f with e | ⟨hne, j, a, b, c, d⟩
 ·exact .inl e
 ·exact .inr ⟨hne, j, none, _, a, b, c, d, .inr rfl⟩
theorem RwP.mono {h : H} {R R' : Nat -> Prop} {sz : Nat} {v : V} {es : List (List V)} (f : RwP h R sz v es) (k : ∀ j, j < h.next -> R j -> R' j) : RwP h R' sz v es := by
 rcases f with e | ⟨hne, j, ca, o, a, b, c⟩
 ·exact .inl e
 ·exact .inr ⟨hne, j, ca, o, k j b a, b, c⟩
theorem RwP.keep {h h' : H} {R : Nat -> Prop} {sz : Nat} {v : V} {es : List (List V)} (f : RwP h R sz v es) (hn : h.next ≤ h'.next) (k : ∀ j, R j -> j < h.next -> h'.get j = h.get j) : RwP h' R sz v es := by
 rcases f with e | ⟨hne, j, ca, o, a, b, c, d, e⟩
 ·exact .inl e
 ·exact .inr ⟨hne, j, ca, o, a, Nat.lt_of_lt_of_le b hn, c, (k j a b).trans d, e⟩
theorem RwP.one {h : H} {R : Nat -> Prop} {sz : Nat} {v : V} {es : List (List V)} (f : RwP h R sz v es) : v.one = true := by
 rcases f with ⟨_, rfl | ⟨k, rfl⟩⟩ | ⟨_, j, _, _, _, _, rfl, _⟩ <;> rfl
theorem RwP.sls {h : H} {R : Nat -> Prop} {sz : Nat} {v : V} {es : List (List V)} (f : RwP h R sz v es) (hs : ∀ e ∈ es, e.length = sz) (hb : es.length < 9223372036854775808) : Sls h.get sz v es := by
 rcases f with ⟨rfl, rfl | ⟨k, rfl⟩⟩ | ⟨hne, j, ca, o, _, b, c, d, e⟩
 ·exact ⟨.inl ⟨rfl, .inl rfl⟩, by simp, rfl, by simp⟩
 ·exact ⟨.inr ⟨_, _, _, _, rfl⟩, by simp, by simp [zax], by simp⟩
 ·have hl := zaF hs
  subst c
  refine ⟨.inr ⟨_, _, _, _, rfl⟩, hs, ?_, hb⟩
  rw [zax, if_neg (by simpa using hne), zai d (by rcases e with rfl | rfl <;> simp)]
  have ec : o.cells = es.flatten := by rcases e with rfl | rfl <;> simp
  simp only [ec, Nat.zero_add, hl, Nat.le_refl, if_true, List.drop_zero]
  rw [<- hl, List.take_length]
structure LsP (h : H) (R : Nat -> Prop) (v : V) (L : List Chg) (es : List (List V)) : Prop where
 fc : RwP h R 23 v es
 len : es.length = L.length
 at' : ∀ (i : Nat) (c : Chg), L[i]? = some c -> ∃ e, es[i]? = some e ∧ ChP h R c e
theorem LsP.mono {h : H} {R R' : Nat -> Prop} {v : V} {L : List Chg} {es : List (List V)} (s : LsP h R v L es) (k : ∀ j, j < h.next -> R j -> R' j) : LsP h R' v L es :=
 ⟨s.fc.mono k, s.len, fun i c hi => by obtain ⟨e, h1, h2⟩ := s.at' i c hi; exact ⟨e, h1, h2.mono k⟩⟩
theorem LsP.keep {h h' : H} {R : Nat -> Prop} {v : V} {L : List Chg} {es : List (List V)} (s : LsP h R v L es) (hn : h.next ≤ h'.next) (k : ∀ j, R j -> j < h.next -> h'.get j = h.get j) : LsP h' R v L es :=
 ⟨s.fc.keep hn k, s.len, fun i c hi => by obtain ⟨e, h1, h2⟩ := s.at' i c hi; exact ⟨e, h1, h2.keep hn fun j _ _ hj hl e => (k j hj hl).trans e⟩⟩
theorem LsP.ge {h h' : H} {R : Nat -> Prop} {v : V} {L : List Chg} {es : List (List V)} (s : LsP h R v L es) (g : Ge h h') : LsP h' R v L es := s.keep g.1 fun j _ hj => g.2 j hj
theorem LsP.lens {h : H} {R : Nat -> Prop} {v : V} {L : List Chg} {es : List (List V)} (s : LsP h R v L es) : ∀ e ∈ es, e.length = 23 := fun e he => by
 obtain ⟨i, hi, rfl⟩ := List.mem_iff_getElem.1 he
 obtain ⟨e', h1, h2⟩ := s.at' i (L[i]'(by rw [<- s.len]; exact hi)) (List.getElem?_eq_getElem _)
 rw [List.getElem?_eq_getElem hi, Option.some.injEq] at h1
 rw [h1]; exact h2.at.len
theorem LsP.at {h : H} {R : Nat -> Prop} {v : V} {L : List Chg} {es : List (List V)} (s : LsP h R v L es) (hb : L.length < 9223372036854775808) : CsAt h.get v L es :=
 ⟨s.fc.sls s.lens (by rw [s.len]; exact hb), s.len, fun i c hi => by obtain ⟨e, h1, h2⟩ := s.at' i c hi; exact ⟨e, h1, h2.at⟩⟩
theorem LsP.one {h : H} {R : Nat -> Prop} {v : V} {L : List Chg} {es : List (List V)} (s : LsP h R v L es) : v.one = true := s.fc.one
theorem LsP.nil (h : H) (R : Nat -> Prop) : LsP h R .nilsl [] [] := ⟨.inl ⟨rfl, .inl rfl⟩, rfl, by simp⟩
end Go.Am

namespace Go.Am
open Go.Proofs

set_option maxRecDepth 100000
theorem zaL (g : H) (a b : O) {k : Nat} (hk : k = g.next) : (g.push a).set k b = g.push b := by
 have e : ∀ x, ((g.push a).set k b).get x = (g.push b).get x := fun x => by
  subst hk
  rw [H.get_set, H.get_push, H.get_push]
  split <;> rfl
 have n : ((g.push a).set k b).next = (g.push b).next := by simp
 cases h1 : (g.push a).set k b
 cases h2 : g.push b
 rw [h1, h2] at e n
 simp only at n
 have e' := funext e
 simp only at e'
 rw [n, e']
def chZ : List V := [.bool false, .int .i64 0, .int .u64 0, .str [], .int .i64 0, .int .u32 0, .int .u32 0, .int .i64 0, .nilsl, .str [], .bool false, .int .u32 0, .bool false, .int .u32 0, .bool false, .int .u32 0, .int .u32 0, .nilsl, .nilsl, .nilsl, .bool false, .int .u32 0, .nilsl]
theorem zd2 (g : Nat -> Option O) (sz : Nat) : Sls g sz .nilsl [] := ⟨.inl ⟨rfl, .inl rfl⟩, by simp, rfl, by simp⟩
theorem zf4 {h : H} {c : Chg} {vp vc vx vl vk : V} (A : AttAt h.get c.att vp vc vx vl vk) (z : AttSz c.att) {Q : V -> H -> Prop}
  (q : ∀ wp wc wx wl wk h', Ge h h' -> h'.WF -> AttFr h' h.next c.att wp wc wx wl wk -> Q (.agg (chC c wp wc wx wl wk)) h') : Acalls Tryz.prog 48 [.agg (chC c vp vc vx vl vk)] h Q := by
 refine zaw Tryz.func48 S.a16c S.a16e (Nat.le_of_ble_eq_true rfl) fun wf => ?_; simp only [S.a16]
 obtain ⟨o1, o2, o3, o4, o5⟩ := A.one
 obtain ⟨h2, hh2⟩ : ∃ h2, h2 = (h.push (.row (chC c vp vc vx vl vk))).push (.row chZ) := ⟨_, rfl⟩
 have g2 : Ge h h2 := by rw [hh2]; exact ((Ge.refl _).push _).push _
 have w2 : h2.WF := by rw [hh2]; exact (wf.push _).push _
 have n2 : h2.next = h.next + 2 := by rw [hh2]; simp
 have x1 : h2.get h.next = some (.row (chC c vp vc vx vl vk)) := by rw [hh2]; simp
 have x2 : h2.get (h.next + 1) = some (.row chZ) := by rw [hh2]; simp
 have A2 := A.ge wf g2
 have n01 : ¬ h.next = h.next + 1 := by omega
 have ow : ∀ Q : V -> H -> Prop, (∀ wp wc wx wl wk h', Ge h2 h' -> h'.WF -> AttFr h' h2.next c.att wp wc wx wl wk -> Q (.agg (attC c.att wp wc wx wl wk)) h') -> Acalls Tryz.prog 93 [.agg (attC c.att vp vc vx vl vk)] h2 Q := fun Q q => zma A2 z q
 simp only [chC, chZ] at hh2
 simp only [attC] at ow
 simp [chC, o1, o2, o3, o4, o5]
 rw [<- hh2]
 refine ow _ fun wp wc wx wl wk h3 g3 w3 F3 => ?_
 obtain ⟨f1, f2, f3, f4, f5⟩ := F3.one
 have nn3 := g3.1
 have x3 : h3.get h.next = some (.row (chC c vp vc vx vl vk)) := (g3.2 _ (by omega)).trans x1
 have y3 : h3.get (h.next + 1) = some (.row chZ) := (g3.2 _ (by omega)).trans x2
 obtain ⟨h4, hh4⟩ : ∃ h4, h4 = h3.set h.next (.row (chC c wp wc wx wl wk)) := ⟨_, rfl⟩
 have c4 : zab h4.get h.next 23 = some (chC c wp wc wx wl wk) := (zai (n := 23) (show h4.get h.next = some (.row (chC c wp wc wx wl wk)) by rw [hh4]; simp) rfl).trans rfl
 simp only [chC, chZ] at hh4 x3 y3 c4
 simp [x3, f1, f2, f3, f4, f5]
 rw [<- hh4]
 simp [y3]
 obtain ⟨hF, hhF⟩ : ∃ hF, hF = h4.set (h.next + 1) (.row (chC c wp wc wx wl wk)) := ⟨_, rfl⟩
 have g4 : Ge h h4 := by rw [hh4]; exact (g2.trans g3).set (by omega) _
 have w4 : h4.WF := by rw [hh4]; exact w3.set (by omega) _
 have n4 : h4.next = h3.next := by rw [hh4]; simp
 simp only [chC] at hhF
 rw [<- hhF]
 have kF : ∀ j, h.next + 1 < j -> hF.get j = h3.get j := fun j hj => by rw [hhF, H.get_set, if_neg (by omega), hh4, H.get_set, if_neg (by omega)]
 refine q _ _ _ _ _ hF (by rw [hhF]; exact g4.set (by omega) _) (by rw [hhF]; exact w4.set (by omega) _) ?_
 have nF : hF.next = h3.next := by rw [hhF]; simpa using n4
 have F4 := F3.le (lo' := h.next + 2) (by omega)
 exact (F4.keep3 (Nat.le_refl _) ⟨by omega, fun i sz cs hl _ e => by rw [kF i (by omega)]; exact e⟩).le (by omega)
theorem CsAt.atG {a : H} {v : V} {L : List Chg} {es : List (List V)} (s : CsAt a.get v L es) (w : a.WF) {k : Nat} (hk : k < L.length) :
  ∃ p q o cs vp vc vx vl vk, (∀ kd, zaA 23 v (.int kd (k : Int)) = some (.ptr p q o)) ∧ p < a.next ∧ (∀ b, Ge a b -> zab b.get p q = some cs) ∧ o + 23 ≤ cs.length ∧ (cs.drop o).take 23 = chC L[k] vp vc vx vl vk ∧ AttAt a.get L[k].att vp vc vx vl vk ∧ es[k]? = some (chC L[k] vp vc vx vl vk) ∧ ∀ j, j < 23 -> cs[o + j]? = (chC L[k] vp vc vx vl vk)[j]? := by
 obtain ⟨e, e1, vp, vc, vx, vl, vk, rfl, e3⟩ := s.at' k L[k] (List.getElem?_eq_getElem hk)
 have hie : k < es.length := by rw [s.len]; exact hk
 obtain ⟨p, q, o, cs, f1, f2, f3, f4, f5, f6⟩ := s.sls.atG w hie
 have e1' := e1
 rw [List.getElem?_eq_getElem hie, Option.some.injEq] at e1
 rw [e1] at f5
 simp only [e1] at f6
 exact ⟨p, q, o, cs, vp, vc, vx, vl, vk, f1, f2, f3, f4, f5, e3, e1', f6⟩
end Go.Am

namespace Go.Am
open Go.Proofs

set_option maxRecDepth 100000
def ChO (e : List V) : Prop := ∃ c vp vc vx vl vk, e = chC c vp vc vx vl vk ∧ vp.one = true ∧ vc.one = true ∧ vx.one = true ∧ vl.one = true ∧ vk.one = true
theorem ChO.len {e : List V} (h : ChO e) : e.length = 23 := by obtain ⟨c, vp, vc, vx, vl, vk, rfl, _⟩ := h; rfl
theorem ChO.ones {e : List V} (h : ChO e) : e.all V.one = true := by
 obtain ⟨c, vp, vc, vx, vl, vk, rfl, o1, o2, o3, o4, o5⟩ := h
 simp [chC, o1, o2, o3, o4, o5]
end Go.Am

namespace Go.Am
open Go.Proofs

set_option maxRecDepth 100000
end Go.Am
