/-
 Am22, Am23, Am24, Am25, Am26, Am27, Am28, Am29, Am30, Am31, in one text.
-/
import Derived.Test.YtpgcodeckphanaaGreatDoorIAm19
import Derived.Deep.Slices
import Derived.OpenShut
import Derived.ReadAgain
import Derived.Carry
import Derived.Test.YtpgcodeckphanaaGreatDoorIAm20
namespace Go.Am
open Go.ChangeShapes Go.WideShapes

def H.Ro (h : H) : Prop := ∀ i o, h.get i = some o -> o.own = false

theorem Rel.addro {W0 : World} {μ : Nat -> Pl} {h : H} {w : World} (r : Rel W0 μ h w) (ro : h.Ro) {cs : List V} {p : Pl} (hn : ORel W0 (upd μ h.next p) (h.push (.ro cs)) h.next w (.ro cs)) :
  Rel W0 (upd μ h.next p) (h.push (.ro cs)) w ∧ (h.push (.ro cs)).Ro ∧ Ext μ h (upd μ h.next p) (h.push (.ro cs)) := by
 have hk : h.get h.next = none := r.next _ (Nat.le_refl _)
 have x : Ext μ h (upd μ h.next p) (h.push (.ro cs)) := by have := Ext.push (μ := μ) hk (.ro cs) p; rwa [H.pushAt_next] at this
 have ro' : (h.push (.ro cs)).Ro := fun i o ho => by
  rw [H.get_push] at ho
  split at ho
  ·cases ho; rfl
  ·exact ro i o ho
 refine ⟨⟨r.glob, r.below, fun i hi => ?_, fun i o ho => ?_, fun i j oi oj _ hi _ hown => by rw [ro' i oi hi] at hown; cases hown⟩, ro', x⟩
 ·simp only [H.next_push] at hi
  rw [H.get_push, if_neg (by omega)]; exact r.next i (by omega)
 ·rw [H.get_push] at ho
  split at ho
  ·rename_i e; cases ho; subst e; exact hn
  ·rename_i e; exact (r.obj i o ho).keep x (zcu _ _ e) (Nat.le_refl _) rfl

theorem ziR {sz n : Nat} (hsz : 0 < sz) {f : Nat -> List Value} {at' : Nat -> Option Value} (hl : ∀ i, i < n -> (f i).length = sz) (hc : ∀ i, i < n -> ∀ j, j < sz -> at' (i * sz + j) = (f i)[j]?) : ∀ (k : Nat) (c : Value), (((List.range n).map f).flatten)[k]? = some c -> at' k = some c := by
 induction n with
 | zero => intro k c h; simp at h
 | succ n ih =>
  intro k c h
  rw [List.range_succ, List.map_append, List.flatten_append] at h
  have hlen : ((List.range n).map f).flatten.length = n * sz := by
   clear ih h hc
   induction n with
   | zero => simp
   | succ n ih2 => rw [List.range_succ, List.map_append, List.flatten_append, List.length_append, ih2 (fun i hi => hl i (by omega))]; simp [hl n (by omega), Nat.add_mul]
  rw [List.getElem?_append, hlen] at h
  split at h
  ·exact ih (fun i hi => hl i (by omega)) (fun i hi => hc i (by omega)) k c h
  ·rename_i hk
   simp at h
   have hj : k - n * sz < sz := by
    have := (List.getElem?_eq_some_iff.1 h).1
    rw [hl n (by omega)] at this; exact this
   have := hc n (by omega) (k - n * sz) hj
   rw [show n * sz + (k - n * sz) = k by omega] at this
   rw [this, h]

theorem zk2 {μ : Nat -> Pl} {h : H} {n : Nat} {vf : Nat -> List V} {cf : Nat -> List Value} (hv : ∀ i, i < n -> VRs μ h (vf i) (cf i)) : VRs μ h ((List.range n).map vf).flatten ((List.range n).map cf).flatten := by
 induction n with
 | zero => exact VRs.nil
 | succ n ih =>
  rw [List.range_succ, List.map_append, List.map_append, List.flatten_append, List.flatten_append]
  refine VRs.append (ih fun i hi => hv i (by omega)) ?_
  simpa using hv n (by omega)

section
variable {H' : Type} {enc : TypeId × Value -> H'} {P : Program} {w : World} {base : Nat} {spare : Nat -> Bool} {held : Bool}

theorem zlx {W0 : World} {μ : Nat -> Pl} {h : H} (r : Rel W0 μ h w) (ro : h.Ro) {t e : TypeId} {fuel sz : Nat} {c : Value} {x : DataW H' × List MemPlace} (ht : P.underlying t = some (.slice e)) (hsz : P.cellsOf e = sz) (hs0 : 0 < sz)
  (hd : DataW.trod enc P w base spare held fuel t [c] = some x) (hsp : ∀ a len cap, c = .slice (some a) len cap -> a.spot = none) (Q : List V -> Prop)
  (leaf : ∀ (cs' : List Value) (y : DataW H' × List MemPlace) (n : Nat), DataW.trod enc P w base spare held n e cs' = some y -> ∃ vs, vs.length = sz ∧ (∀ μ h, VRs μ h vs cs') ∧ Q vs) :
  ∃ (μ' : Nat -> Pl) (h' : H) (v : V) (ess : List (List V)), Rel W0 μ' h' w ∧ h'.Ro ∧ Ext μ h μ' h' ∧ (∀ i o, h.get i = some o -> h'.get i = some o) ∧ VR μ' h' v c ∧ Sls h'.get sz v ess ∧ (∀ es ∈ ess, Q es) ∧
   ((x.1 = .nil ∧ ess = []) ∨ ∃ el sp : List (DataW H'), x.1 = .slice el sp ∧ el.length = ess.length) := by
 rcases Go.Deep.open_slice ht hd with ⟨hc, rfl⟩ | ⟨a, len, cap, m, n, D, Pl, hc, hb, hl, hm, hmm, rfl, hx⟩
 ·simp only [List.cons.injEq, and_true] at hc
  subst hc
  exact ⟨μ, h, .nilsl, [], r, ro, Ext.refl _ _, fun _ _ e => e, rfl, ⟨.inl ⟨rfl, .inl rfl⟩, by simp, rfl, by simp⟩, by simp, .inl ⟨rfl, rfl⟩⟩
 ·simp only [List.cons.injEq, and_true] at hc
  subst hc
  have hspot := hsp a len cap rfl
  obtain ⟨blk, off, spot⟩ := a
  simp only at hspot
  subst hspot
  have hlm : len ≤ m := by rw [hmm]; split <;> omega
  by_cases h0 : len = 0
  ·subst h0
   exact ⟨μ, h, .slz, [], r, ro, Ext.refl _ _, fun _ _ e => e, ⟨⟨blk, off, none⟩, cap, rfl, hm⟩, ⟨.inl ⟨rfl, .inr rfl⟩, by simp, rfl, by simp⟩, by simp, .inr ⟨_, _, rfl, by simp⟩⟩
  ·rw [hsz] at hx
   obtain ⟨cf, hcf⟩ := Go.Deep.choose_lt (α := List Value) (n := len) (p := fun i cs' => w.cells? base ((⟨blk, off, none⟩ : Addr).add (i * sz)) sz = some cs' ∧ DataW.trod enc P w base spare held n e cs' = some (D i, Pl i)) fun i hi => hx i (by omega)
   obtain ⟨vf, hvf⟩ := Go.Deep.choose_lt (α := List V) (n := len) (p := fun i vs => vs.length = sz ∧ (∀ μ h, VRs μ h vs (cf i)) ∧ Q vs) fun i hi => leaf _ _ _ (hcf i hi).2
   have hcell : ∀ i, i < len -> ∀ j, j < sz -> w.cell? ⟨blk, off + (i * sz + j), none⟩ = (cf i)[j]? := fun i hi j hj => by
    obtain ⟨_, _, h3⟩ := World.cells?_some (hcf i hi).1
    rw [<- h3 j hj, Go.Deep.add_add]
    unfold Addr.add
    split
    ·rename_i e0; simp [e0]
    ·rfl
   have hcl : ∀ i, i < len -> (cf i).length = sz := fun i hi => (World.cells?_some (hcf i hi).1).2.1
   let ess := (List.range len).map vf
   have hel : ess.length = len := by simp [ess]
   have hes : ∀ es ∈ ess, es.length = sz := fun es he => by
    obtain ⟨i, hi, rfl⟩ := List.mem_map.1 he
    exact (hvf i (by simpa using hi)).1
   have hblk : blk < w.heap.size := by
    have h1 := hcell 0 (by omega) 0 hs0
    rw [List.getElem?_eq_getElem (by rw [hcl 0 (by omega)]; exact hs0)] at h1
    unfold World.cell? at h1
    split at h1
    ·rename_i hh
     exact (Array.getElem?_eq_some_iff.1 hh).1
    ·cases h1
   have hfl := zaF hes
   obtain ⟨r', ro', x'⟩ := r.addro ro (cs := ess.flatten) (p := ⟨blk, off, 0⟩) (by
    refine ⟨by simpa using hblk, ((List.range len).map cf).flatten, zk2 fun i hi => (hvf i hi).2.1 _ _, fun k c hk => ?_⟩
    simp only [zaK]
    exact ziR hs0 (at' := fun k => w.cell? ⟨blk, off + k, none⟩) hcl hcell k c hk)
   refine ⟨_, _, .sl h.next (len * sz) 0 len (some cap), ess, r', ro', x', fun i o e => ?_, ?_, ?_, ?_, .inr ⟨_, _, rfl, by simp [ess]⟩⟩
   ·rw [H.get_push, if_neg (fun e0 => by rw [e0, r.next _ (Nat.le_refl _)] at e; cases e)]; exact e
   ·refine ⟨⟨blk, off, 0⟩, cap, rfl, hl, hm, fun k e => by cases e; rfl, ⟨.ro ess.flatten, by simp, by simp only [zmD, hfl, hel]; exact Nat.le_refl _, fun _ => zaK _ _ _⟩, fun e => by cases e⟩
   ·refine ⟨.inr ⟨_, _, _, _, by rw [hel]⟩, hes, ?_, ?_⟩
    ·rw [zax, if_neg h0]
     simp only [zek, if_pos, zmD, zk0, hfl, hel, Nat.zero_add, Nat.le_refl, List.drop_zero]
     rw [List.take_of_length_le (by rw [hfl, hel]; exact Nat.le_refl _)]
    ·rw [hel]; unfold maxLen at hm; omega
   ·intro es he
    obtain ⟨i, hi, rfl⟩ := List.mem_map.1 he
    exact (hvf i (by simpa using hi)).2.2
end
theorem Pure.calls {P : Program} {f : FuncId} {args : List V} {h : H} {v : V} (c : Pure P f args h v) {W : World} {μ : Nat -> Pl} (r : Rel W μ h W) {cargs : List Value} (hv : VRs μ h args cargs) :
  Calls P f cargs.toArray W fun e W' => ∃ cv, e = .returned cv ∧ VR μ h v cv ∧ Go.RowKit.Below W.heap.size W W' := by
 refine ((c (fun v' h' => v' = v ∧ h' = h) ⟨rfl, rfl⟩).2 W μ W cargs r hv).mono ?_
 rintro e W' ⟨v', cv, h', μ', he, ⟨rfl, rfl⟩, r', hv', x⟩
 refine ⟨cv, he, ?_, r'.below.toBelow⟩
 exact hv'.ext (fun i o ho => by
  obtain ⟨o', ho', a, b, c⟩ := x i o ho
  exact ⟨o, ho, rfl, Nat.le_refl _, fun _ => by rw [ho] at ho'; cases ho'; exact (c rfl).symm⟩)
end Go.Am

namespace Go.Am
open Go.ChangeShapes Go.WideShapes

section
variable {H' : Type} {enc : TypeId × Value -> H'} {P : Program}
theorem zja (K : Kids P (· < P.types.size)) (hz : ∀ t e, t < P.types.size -> P.underlying t = some (.slice e) -> 0 < P.cellsOf e) {W W' : World} (hb : Go.RowKit.Below W.heap.size W W') {sp : Nat -> Bool} {t : TypeId} (hT : t < P.types.size) {v : Value} {d : DataW H'} {ps : List MemPlace}
  (h : DataW.Trod enc P W 0 (fun _ => true) true t v d ps) (hl : ∀ p ∈ ps, p.block < W.heap.size) (hs : ∀ p ∈ ps, sp p.block = true) : DataW.Trod enc P W' 0 sp true t v d ps := by
 obtain ⟨n, hn⟩ := DataW.Trod.respare K hz hT h hs
 refine ⟨n, DataW.trod_carry n _ _ _ hn fun p hp => hb.same (hl p hp)⟩
theorem zfN (K : Kids P (· < P.types.size)) (hz : ∀ t e, t < P.types.size -> P.underlying t = some (.slice e) -> 0 < P.cellsOf e) {W W' : World} (hb : Go.RowKit.Below W.heap.size W W') {sp : Nat -> Bool} :
  ∀ {ts : List TypeId} {vs : List Value} {ds : List (DataW H')} {ps : List MemPlace}, (∀ t ∈ ts, t < P.types.size) -> DataW.TrodAll enc P W 0 (fun _ => true) true ts vs ds ps -> (∀ p ∈ ps, p.block < W.heap.size) -> (∀ p ∈ ps, sp p.block = true) -> DataW.TrodAll enc P W' 0 sp true ts vs ds ps
 | [], [], [], _, _, h, _, _ => h
 | _ :: _, _ :: _, _ :: _, _, hT, ⟨p, q, h1, h2, e⟩, hl, hs =>
  ⟨p, q, zja K hz hb (hT _ (by simp)) h1 (fun x hx => hl x (by rw [e]; exact List.mem_append_left _ hx)) (fun x hx => hs x (by rw [e]; exact List.mem_append_left _ hx)),
   zfN K hz hb (fun t ht => hT t (by simp [ht])) h2 (fun x hx => hl x (by rw [e]; exact List.mem_append_right _ hx)) (fun x hx => hs x (by rw [e]; exact List.mem_append_right _ hx)), e⟩
end
end Go.Am

namespace Go.Am

variable {P : Program}
def H.Cl (h : H) : Prop := ∀ i o, h.get i = some o -> ∀ k ∈ o.ids, ∃ o', h.get k = some o'
theorem Acalls.cl {f : FuncId} {args : List V} {h : H} {Q : V -> H -> Prop} (he : zaa P f = true) (c : h.WF -> h.Cl -> Acalls P f args h Q) : Acalls P f args h Q :=
 ⟨he, fun W0 μ w cargs hr hv => (c hr.next fun i o ho => (hr.obj i o ho).live).2 W0 μ w cargs hr hv⟩

theorem Acalls.fresh {f : FuncId} {args : List V} {h : H} {sz len : Nat} {cells : List V} {Q : V -> H -> Prop}
  (c : Acalls P f args h fun v h1 => Ge h h1 ∧ ((v = .nilsl ∧ cells = []) ∨ (cells ≠ [] ∧ ∃ j, v = .sl j cells.length 0 len none ∧ h.next ≤ j ∧ h1.get j = some (.grow sz cells)))) (hids : V.idss cells = [])
  (q1 : cells = [] -> Q .nilsl h) (q2 : cells ≠ [] -> Q (.sl h.next cells.length 0 len none) (h.push (.grow sz cells))) : Acalls P f args h Q := by
 refine Acalls.cl c.1 fun wf cl => Acalls.rename (c.mono ?_)
 rintro v h1 ⟨hg, ⟨rfl, hc⟩ | ⟨hne, j, rfl, hj, hget⟩⟩
 ·exact ⟨id, .nilsl, h, rfl, ⟨fun i o ho => by rw [show o.ren id = o from O.ren_id o (fun _ _ => rfl)]; exact hg.keeps wf i o ho, fun _ _ _ _ _ _ e => e, cl, wf⟩, by simp [V.ids], fun i o ho => ⟨rfl, o, ho⟩, q1 hc⟩
 ·let σ : Nat -> Nat := fun i => if i = h.next then j else i
  have hσ : ∀ i, i ≠ h.next -> σ i = i := fun i hi => if_neg hi
  have hold : ∀ i o, h.get i = some o -> o.ren σ = o := fun i o ho => O.ren_id o fun k hk => by
   obtain ⟨o', ho'⟩ := cl i o ho k hk
   exact hσ k (by have := wf.lt ho'; omega)
  refine ⟨σ, .sl h.next cells.length 0 len none, h.push (.grow sz cells), by simp [V.ren, σ], ⟨fun i o ho => ?_, fun a b oa ob ha hb e => ?_, fun i o ho k hk => ?_, wf.push _⟩, ?_, fun i o ho => ?_, q2 hne⟩
  ·rw [H.get_push] at ho
   split at ho
   ·rename_i e
    cases ho
    simp only [σ, e, if_pos, O.ren]
    rw [V.rens_id cells (by rw [hids]; simp)]
    exact hget
   ·rename_i e
    rw [hσ i e, hold i o ho]
    exact hg.keeps wf i o ho
  ·rw [H.get_push] at ha hb
   have small : ∀ i o, (if i = h.next then some (O.grow sz cells) else h.get i) = some o -> i ≠ h.next -> i < h.next := fun i o ho hi => by rw [if_neg hi] at ho; exact wf.lt ho
   by_cases ea : a = h.next <;> by_cases eb : b = h.next
   ·rw [ea, eb]
   ·have := small b ob hb eb
    rw [hσ b eb, ea] at e
    simp only [σ, if_pos] at e; omega
   ·have := small a oa ha ea
    rw [hσ a ea, eb] at e
    simp only [σ, if_pos] at e; omega
   ·rw [hσ a ea, hσ b eb] at e; exact e
  ·rw [H.get_push] at ho
   split at ho
   ·cases ho
    simp only [O.ids, hids, List.not_mem_nil] at hk
   ·obtain ⟨o', ho'⟩ := cl i o ho k hk
    exact ⟨o', by rw [H.get_push, if_neg (by have := wf.lt ho'; omega)]; exact ho'⟩
  ·intro i hi
   simp only [V.ids, List.mem_cons, List.not_mem_nil, or_false] at hi
   subst hi
   exact ⟨_, by rw [H.get_push, if_pos rfl]⟩
  ·exact ⟨hσ i (by have := wf.lt ho; omega), o, by rw [H.get_push, if_neg (by have := wf.lt ho; omega)]; exact ho⟩

def Gl (h : H) (lo sz : Nat) (v : V) (es : List (List V)) : Prop :=
 (es = [] ∧ v = .nilsl) ∨ (es ≠ [] ∧ ∃ j, lo ≤ j ∧ j < h.next ∧ v = .sl j es.flatten.length 0 es.length none ∧ h.get j = some (.grow sz es.flatten))
theorem Gl.nil (h : H) (lo sz : Nat) : Gl h lo sz .nilsl [] := .inl ⟨rfl, rfl⟩
theorem Gl.one {h : H} {lo sz : Nat} {v : V} {es : List (List V)} (g : Gl h lo sz v es) : v.one = true := by
 rcases g with ⟨_, rfl⟩ | ⟨_, j, _, _, rfl, _⟩ <;> rfl
theorem Gl.keep {h h' : H} {lo sz : Nat} {v : V} {es : List (List V)} (g : Gl h lo sz v es) (hn : h.next ≤ h'.next) (k : ∀ i ∈ v.ids, h'.get i = h.get i) : Gl h' lo sz v es := by
 rcases g with ⟨rfl, rfl⟩ | ⟨hne, j, h1, h2, rfl, h3⟩
 ·exact .inl ⟨rfl, rfl⟩
 ·exact .inr ⟨hne, j, h1, by omega, rfl, by rw [k j (by simp [V.ids])]; exact h3⟩
theorem Gl.lo {h : H} {lo sz : Nat} {v : V} {es : List (List V)} (g : Gl h lo sz v es) : ∀ i ∈ v.ids, lo ≤ i ∧ i < h.next := by
 rcases g with ⟨rfl, rfl⟩ | ⟨hne, j, h1, h2, rfl, h3⟩
 ·simp [V.ids]
 ·simp [V.ids, h1, h2]
theorem Gl.sls {h : H} {lo sz : Nat} {v : V} {es : List (List V)} (g : Gl h lo sz v es) (hs : ∀ e ∈ es, e.length = sz) (hb : es.length < 9223372036854775808) : Sls h.get sz v es := by
 rcases g with ⟨rfl, rfl⟩ | ⟨hne, j, h1, h2, rfl, h3⟩
 ·exact ⟨.inl ⟨rfl, .inl rfl⟩, by simp, rfl, by simp⟩
 ·refine ⟨.inr ⟨_, _, _, _, rfl⟩, hs, ?_, hb⟩
  have hl := zaF hs
  rw [zax, if_neg (by simpa using hne), zai h3 (by simp)]
  simp only [zjf, Nat.zero_add, hl, Nat.le_refl, if_true, List.drop_zero]
  rw [<- hl, List.take_length]
theorem Gl.append {h : H} {lo sz bytes : Nat} {v x : V} {es : List (List V)} {e : List V} (g : Gl h lo sz v es) (hlo : lo ≤ h.next) (hs : ∀ a ∈ es, a.length = sz) (he : e.length = sz) (hx : zaB h.get sz x = some (1, e)) (h1 : e.all V.one = true) (hsz : sz ≠ 0)
  (hb : (es.length + 1) * bytes ≤ 140737488355328) (hb2 : es.length + 1 ≤ 9223372036854775807) :
  ∃ v' d, zaG h.get h.next sz bytes v x = some (v', d) ∧ Gl (h.app d) lo sz v' (es ++ [e]) ∧ h.next ≤ (h.app d).next ∧ (∀ i, i ∉ v.ids -> i < h.next -> (h.app d).get i = h.get i) ∧ (h.WF -> (h.app d).WF) := by
 rcases g with ⟨rfl, rfl⟩ | ⟨hne, j, g1, g2, rfl, g3⟩
 ·refine ⟨_, _, zds hx (by omega) h1 hsz (by simpa using hb) (by omega), .inr ⟨by simp, h.next, hlo, by simp, by simp [he], by simp⟩, by simp, fun i _ hi => ?_, fun w => w.push _⟩
  rw [zeB, H.get_push, if_neg (by omega)]
 ·have hl := zaF hs
  refine ⟨_, _, zcO g3 rfl hl.symm hx (by omega) h1 hsz hb hb2, .inr ⟨by simp, j, g1, by simpa using g2, by simp [he], by simp⟩, by simp, fun i hi _ => ?_, fun w => w.set g2 _⟩
  rw [zgf, H.get_set, if_neg (by simpa [V.ids] using hi)]
end Go.Am

namespace Go.Am

variable {P : Program}
def dopK (P : Program) (K : Tm -> H -> Prop) (fr : List (Nat × Nat)) (e0 e1 : Nat) (d : Option Nat) (ft : List Nat) (is : List SI) (t : Tm) (get : Nat -> Option O) (evs : List Ev) (r : Option (V × D)) : Prop :=
 match r with
 | some (v, dd) => Dwp P K fr e0 e1 is (t.put d v) (upds get (dd.ups (e0 + evs.length * room))) (evs ++ [⟨ft, dd.ups (e0 + evs.length * room)⟩])
 | none => False
def zms (P : Program) (K : Tm -> H -> Prop) (fr : List (Nat × Nat)) (e0 e1 : Nat) (d : Option Nat) (f : V) (args : List V) (is : List SI) (t : Tm) (get : Nat -> Option O) (evs : List Ev) : Prop :=
 ∃ v rd os, zfB P f args get (e0 + evs.length * room) e1 v rd os ∧
  Dwp P K fr e0 e1 is (t.put d v) (upds get (names (e0 + evs.length * room) os)) (evs ++ [⟨rd, names (e0 + evs.length * room) os⟩])
section
variable (K : Tm -> H -> Prop) (fr : List (Nat × Nat)) (e0 e1 : Nat) (d : Option Nat) (is : List SI) (t : Tm) (get : Nat -> Option O) (evs : List Ev)
@[simp] theorem zqk (ft : List Nat) (v : V) (dd : D) : dopK P K fr e0 e1 d ft is t get evs (some (v, dd)) = Dwp P K fr e0 e1 is (t.put d v) (upds get (dd.ups (e0 + evs.length * room))) (evs ++ [⟨ft, dd.ups (e0 + evs.length * room)⟩]) := _root_.id rfl
@[simp] theorem zr8 (i : I) : Dwp P K fr e0 e1 (⟨d, none, .op i⟩ :: is) t get evs = dopK P K fr e0 e1 d (i.foot t) is t get evs (exec i t get (e0 + evs.length * room)) := by
 simp only [Dwp, zao, dopK]
 cases exec i t get (e0 + evs.length * room) <;> rfl
@[simp] theorem zqF (f : A) (args : List A) : Dwp P K fr e0 e1 (⟨d, none, .call f args⟩ :: is) t get evs = zms P K fr e0 e1 d (f.ev t) (args.map (·.ev t)) is t get evs := by
 simp only [Dwp, zao, zms]
@[simp] theorem zqS (k : Nat) : D.keep.ups k = [] := _root_.id rfl
@[simp] theorem zrE (k i : Nat) (o : O) : (D.set i o).ups k = [(i, o)] := _root_.id rfl
@[simp] theorem zq7 (k : Nat) (o : O) : (D.push o).ups k = [(k, o)] := _root_.id rfl
@[simp] theorem zqZ : upds get [] = get := _root_.id rfl
theorem zk9 (k : Nat) (o : O) (i : Nat) : upds get [(k, o)] i = if i = k then some o else get i := _root_.id rfl
@[simp] theorem zm0 (k : Nat) (o : O) (i n : Nat) : zab (upds get [(k, o)]) i n = if i = k then (if o.len = n then some o.cells else none) else zab get i n := by
 unfold zab
 rw [zk9]
 by_cases e : i = k <;> simp [e]
end
def glV (k : Nat) (l : List V) (len : Nat) : V := if l = [] then .nilsl else .sl k l.length 0 len none
def glO (sz : Nat) (l : List V) : List O := if l = [] then [] else [.grow sz l]
theorem zrB {get : Nat -> Option O} {nx lo k sz : Nat} {es : List (List V)} (h1 : lo ≤ k) (h2 : k < nx) (hsz : sz ≠ 0) (hs : ∀ e ∈ es, e.length = sz) (hg : es ≠ [] -> get k = some (.grow sz es.flatten)) : Gl ⟨nx, get⟩ lo sz (glV k es.flatten es.length) es := by
 have hf : es.flatten = [] ↔ es = [] := by
  constructor
  ·intro h
   cases es with
   | nil => rfl
   | cons a l =>
    have ha := hs a (by simp)
    simp only [List.flatten_cons, List.append_eq_nil_iff] at h
    rw [h.1] at ha
    exact absurd ha.symm hsz
  ·rintro rfl; rfl
 by_cases e : es = []
 ·left; simp [e, glV]
 ·right
  exact ⟨e, k, h1, h2, by simp only [glV, hf, e, if_false], hg e⟩
end Go.Am

namespace Go.Am

variable {P : Program}
def Wr (h : H) (lo sz : Nat) (v : V) (n : Nat) : Prop := (n = 0 ∧ v = .nilsl) ∨ ∃ j cs, lo ≤ j ∧ j < h.next ∧ v = .sl j (n * sz) 0 n none ∧ h.get j = some (.grow sz cs) ∧ cs.length = n * sz
theorem Wr.one {h : H} {lo sz n : Nat} {v : V} (w : Wr h lo sz v n) : v.one = true := by
 rcases w with ⟨_, rfl⟩ | ⟨j, cs, _, _, rfl, _⟩ <;> rfl
theorem Gl.wr {h : H} {lo sz : Nat} {v : V} {es : List (List V)} (g : Gl h lo sz v es) (hs : ∀ e ∈ es, e.length = sz) : Wr h lo sz v es.length := by
 rcases g with ⟨rfl, rfl⟩ | ⟨_, j, h1, h2, rfl, h3⟩
 ·exact .inl ⟨rfl, rfl⟩
 ·exact .inr ⟨j, es.flatten, h1, h2, by rw [zaF hs], h3, zaF hs⟩
theorem Wr.lo {h : H} {lo sz n : Nat} {v : V} (w : Wr h lo sz v n) : ∀ i ∈ v.ids, lo ≤ i ∧ i < h.next := by
 rcases w with ⟨_, rfl⟩ | ⟨j, cs, h1, h2, rfl, _⟩ <;> simp_all [V.ids]
theorem Wr.len {h : H} {lo sz n : Nat} {v : V} (w : Wr h lo sz v n) (g : Nat -> Option O) : lenV 1 g v = some (.int .i64 n) := by
 rcases w with ⟨rfl, rfl⟩ | ⟨j, cs, _, _, rfl, _⟩ <;> simp
def Same (h h' : H) (lo : Nat) : Prop := h.next ≤ h'.next ∧ (∀ i, i < lo -> h'.get i = h.get i) ∧ ∀ i sz cs, h.get i = some (.grow sz cs) -> ∃ cs', h'.get i = some (.grow sz cs') ∧ cs'.length = cs.length
theorem Same.refl (h : H) (lo : Nat) : Same h h lo := ⟨Nat.le_refl _, fun _ _ => rfl, fun _ _ cs e => ⟨cs, e, rfl⟩⟩
theorem Same.trans {a b c : H} {lo : Nat} (x : Same a b lo) (y : Same b c lo) : Same a c lo := ⟨Nat.le_trans x.1 y.1, fun i hi => (y.2.1 i hi).trans (x.2.1 i hi), fun i sz cs e => by
 obtain ⟨c1, e1, l1⟩ := x.2.2 i sz cs e
 obtain ⟨c2, e2, l2⟩ := y.2.2 i sz c1 e1
 exact ⟨c2, e2, l2.trans l1⟩⟩
theorem Same.ge {h h' : H} {lo : Nat} (g : Ge h h') (w : h.WF) (hlo : lo ≤ h.next) : Same h h' lo := ⟨g.1, fun i hi => g.2 i (by omega), fun i sz cs e => ⟨cs, g.keeps w i _ e, rfl⟩⟩
theorem Same.to {h h' : H} (s : Same h h' h.next) : Ge h h' := ⟨s.1, s.2.1⟩
theorem Wr.same {h h' : H} {lo l2 sz n : Nat} {v : V} (w : Wr h lo sz v n) (s : Same h h' l2) : Wr h' lo sz v n := by
 rcases w with ⟨h1, h2⟩ | ⟨j, cs, h1, h2, h3, h4, h5⟩
 ·exact .inl ⟨h1, h2⟩
 ·obtain ⟨c', e, l⟩ := s.2.2 j sz cs h4
  exact .inr ⟨j, c', h1, Nat.lt_of_lt_of_le h2 s.1, h3, e, l.trans h5⟩
theorem Wr.at {h : H} {lo sz n k : Nat} {v : V} (w : Wr h lo sz v n) (hk : k < n) :
  ∃ j m o cs, (∀ kd, zaA sz v (.int kd (k : Int)) = some (.ptr j m o)) ∧ h.get j = some (.grow sz cs) ∧ cs.length = m ∧ o + sz ≤ m ∧ lo ≤ j ∧ j < h.next := by
 rcases w with ⟨h1, _⟩ | ⟨j, cs, h1, h2, rfl, h4, h5⟩
 ·omega
 ·have hm : k * sz + sz ≤ n * sz := by
   have := Nat.mul_le_mul_right sz (show k + 1 ≤ n by omega)
   rw [Nat.add_mul] at this; omega
  refine ⟨j, n * sz, k * sz, cs, fun kd => ?_, h4, h5, by omega, h1, h2⟩
  simp only [zbQ, Int.toNat_natCast]
  rw [if_pos ⟨by omega, by omega⟩]; simp
theorem Same.set {h : H} {lo sz j : Nat} {cs cs' : List V} (e : h.get j = some (.grow sz cs)) (hl : cs'.length = cs.length) (hj : lo ≤ j) : Same h (h.set j (.grow sz cs')) lo := ⟨Nat.le_refl _, fun i hi => by rw [H.get_set, if_neg (by omega)], fun i s c e' => by
 rw [H.get_set]
 split
 ·rename_i hi
  rw [hi, e] at e'
  cases e'
  exact ⟨cs', rfl, hl⟩
 ·exact ⟨c, e', rfl⟩⟩
end Go.Am

namespace Go.Am

variable {P : Program}
theorem Gl.append2 {h : H} {lo sz bytes : Nat} {v x : V} {es : List (List V)} {e : List V} (g : Gl h lo sz v es) (hlo : lo ≤ h.next) (hs : ∀ a ∈ es, a.length = sz) (he : e.length = sz) (hx : zaB h.get sz x = some (1, e)) (h1 : e.all V.one = true) (hsz : sz ≠ 0)
  (hb : (es.length + 1) * bytes ≤ 140737488355328) (hb2 : es.length + 1 ≤ 9223372036854775807) :
  ∃ v' d, zaG h.get h.next sz bytes v x = some (v', d) ∧ Gl (h.app d) lo sz v' (es ++ [e]) ∧ h.next ≤ (h.app d).next ∧ (∀ i, i ∉ v.ids -> i < h.next -> (h.app d).get i = h.get i) ∧ (h.WF -> (h.app d).WF) ∧ ∀ i ∈ v'.ids, i ∈ v.ids ∨ h.next ≤ i := by
 rcases g with ⟨rfl, rfl⟩ | ⟨hne, j, g1, g2, rfl, g3⟩
 ·refine ⟨_, _, zds hx (by omega) h1 hsz (by simpa using hb) (by omega), .inr ⟨by simp, h.next, hlo, by simp, by simp [he], by simp⟩, by simp, fun i _ hi => ?_, fun w => w.push _, by simp [V.ids]⟩
  rw [zeB, H.get_push, if_neg (by omega)]
 ·have hl := zaF hs
  refine ⟨_, _, zcO g3 rfl hl.symm hx (by omega) h1 hsz hb hb2, .inr ⟨by simp, j, g1, by simpa using g2, by simp [he], by simp⟩, by simp, fun i hi _ => ?_, fun w => w.set g2 _, by simp [V.ids]⟩
  rw [zgf, H.get_set, if_neg (by simpa [V.ids] using hi)]
theorem zcq {K : Tm -> H -> Prop} {w : Bool} {d : Option Nat} {x : X} {is : List SI} {t : Tm} {h : H} {v : V} (J : Tm -> H -> Prop) (ha : ∀ K' : Tm -> H -> Prop, (∀ t' h', J t' h' -> K' t' h') -> zcd P K' w d x is t h v) (k : ∀ t' h', J t' h' -> K t' h') : zcd P K w d x is t h v := ha K k
end Go.Am

namespace Go.Am

variable {P : Program}
structure Rws (base h : H) (s lo : Nat) (r : List V -> List V) (ls : List (Nat × V × List (List V))) : Prop where
 ge : Ge (base.set s (.row (r (ls.map fun x => x.2.1)))) h
 wf : h.WF
 gl : ∀ x ∈ ls, Gl h lo x.1 x.2.1 x.2.2
 dj : ls.Pairwise fun a b => ∀ j ∈ a.2.1.ids, j ∉ b.2.1.ids

theorem zha {α : Type} {R : α -> α -> Prop} {l : List α} {k : Nat} {y : α} (h : l.Pairwise R) (h1 : ∀ i (hi : i < l.length), i < k -> R l[i] y) (h2 : ∀ i (hi : i < l.length), k < i -> R y l[i]) : (l.set k y).Pairwise R := by
 rw [List.pairwise_iff_getElem] at h ⊢
 intro i j hi hj hij
 rw [List.length_set] at hi hj
 rw [List.getElem_set, List.getElem_set]
 split
 ·rename_i e
  split
  ·omega
  ·exact h2 j hj (by omega)
 ·split
  ·exact h1 i hi (by omega)
  ·exact h i j hi hj hij

theorem Rws.addF {base h : H} {s lo : Nat} {r : List V -> List V} {ls : List (Nat × V × List (List V))} (X : Rws base h s lo r ls) (hs : s < lo) (hlo : lo = base.next) (k : Nat) {sz : Nat} {v : V} {es : List (List V)} (hk : ls[k]? = some (sz, v, es)) {e : List V} {bytes : Nat} (he : e.length = sz) (h1 : e.all V.one = true) (hsz : sz ≠ 0)
  (hes : ∀ a ∈ es, a.length = sz) (hb : (es.length + 1) * bytes ≤ 140737488355328) (hb2 : es.length + 1 ≤ 9223372036854775807) :
  ∃ v2 d, zaG (h.push (.row e)).get (h.next + 1) sz bytes v (.sl h.next sz 0 1 (some 1)) = some (v2, d) ∧ v2.one = true ∧ ((h.push (.row e)).app d).get s = some (.row (r (ls.map fun x => x.2.1))) ∧
   Rws base (((h.push (.row e)).app d).set s (.row (r ((ls.set k (sz, v2, es ++ [e])).map fun x => x.2.1)))) s lo r (ls.set k (sz, v2, es ++ [e])) ∧
   (∀ j, j < h.next -> j ≠ s -> j ∉ v.ids -> (((h.push (.row e)).app d).set s (.row (r ((ls.set k (sz, v2, es ++ [e])).map fun x => x.2.1)))).get j = h.get j) ∧ ∀ j ∈ v2.ids, j ∈ v.ids ∨ h.next ≤ j := by
 obtain ⟨hg, hw, hgl, hdj⟩ := X
 have n2 := hg.1
 simp only [H.next_set] at n2
 have x2 := hg.get_set (by omega)
 have hkl : k < ls.length := by
  rcases Nat.lt_or_ge k ls.length with h | h
  ·exact h
  ·rw [List.getElem?_eq_none h] at hk; cases hk
 have hkv : ls[k] = (sz, v, es) := by rw [List.getElem?_eq_getElem hkl] at hk; exact Option.some.inj hk
 have gv : Gl h lo sz v es := by have := hgl ls[k] (List.getElem_mem hkl); rw [hkv] at this; exact this
 obtain ⟨h3, hh3⟩ : ∃ h3, h3 = h.push (.row e) := ⟨_, rfl⟩
 have n3 : h3.next = h.next + 1 := by rw [hh3]; rfl
 have g3 : Ge h h3 := by rw [hh3]; simp
 have w3 : h3.WF := by rw [hh3]; exact hw.push _
 have gg := gv.keep (h' := h3) (by omega) (fun j hj => by rw [g3.2 j (gv.lo j hj).2])
 obtain ⟨v2, d, ea, gl', nn, kk, wk, ids'⟩ := gg.append2 (bytes := bytes) (x := .sl h.next sz 0 1 (some 1)) (e := e) (by omega) hes he (by
  rw [hh3, zax, if_neg (by omega), zek, if_pos rfl]
  simp only [znI, he, if_true, zjl, Nat.zero_add, Nat.one_mul, Nat.le_refl, List.drop_zero]
  rw [List.take_of_length_le (by omega)]) h1 hsz hb hb2
 rw [n3] at ea
 rw [<- hh3]
 have x4 : (h3.app d).get s = some (.row (r (ls.map fun x => x.2.1))) := by rw [kk _ (fun hm => by have := (gg.lo _ hm).1; omega) (by omega), g3.2 _ (by omega), x2]
 have other : ∀ i (hi : i < ls.length), i ≠ k -> (∀ j ∈ ls[i].2.1.ids, j ∉ v.ids) := fun i hi hne j hj hv => by
  rw [List.pairwise_iff_getElem] at hdj
  rcases Nat.lt_or_ge i k with h | h
  ·have := hdj i k hi hkl h j hj
   rw [hkv] at this; exact this hv
  ·have := hdj k i hkl hi (by omega) j (by rw [hkv]; exact hv)
   exact this hj
 refine ⟨v2, d, ea, gl'.one, x4, ⟨⟨by simp; omega, fun j hj => ?_⟩, (wk w3).set (by omega) _, fun x hx => ?_, zha hdj (fun i hi hlt j hj hj2 => ?_) (fun i hi hlt j hj hj2 => ?_)⟩, fun j hj hjs hjv => ?_, fun j hj => ?_⟩
 ·simp only [H.next_set] at hj
  rw [H.get_set, H.get_set]
  split
  ·rfl
  ·rename_i hne
   rw [kk j (fun hm => by have := (gg.lo j hm).1; omega) (by omega), g3.2 j (by omega), hg.get_ne hj hne]
 ·obtain ⟨i, hi, rfl⟩ := List.mem_iff_getElem.1 hx
  rw [List.length_set] at hi
  rw [List.getElem_set]
  split
  ·exact gl'.keep (by simp) (fun j hj => by rw [H.get_set, if_neg (by have := (gl'.lo j hj).1; omega)])
  ·rename_i hne
   have gi := hgl ls[i] (List.getElem_mem hi)
   refine gi.keep (by simp; omega) (fun j hj => ?_)
   have hl := gi.lo j hj
   rw [H.get_set, if_neg (by omega), kk j (fun hm => other i hi (fun e => hne e.symm) j hj hm) (by omega), g3.2 j (by omega)]
 ·rcases ids' j hj2 with h | h
  ·exact other i hi (by omega) j hj h
  ·have := ((hgl ls[i] (List.getElem_mem hi)).lo j hj).2; omega
 ·rcases ids' j hj with h | h
  ·exact other i hi (by omega) j hj2 h
  ·have := ((hgl ls[i] (List.getElem_mem hi)).lo j hj2).2; omega
 ·rw [H.get_set, if_neg hjs, kk j hjv (by omega), g3.2 j hj]
 ·rcases ids' j hj with h | h
  ·exact .inl h
  ·exact .inr (by omega)
theorem Rws.add {base h : H} {s lo : Nat} {r : List V -> List V} {ls : List (Nat × V × List (List V))} (X : Rws base h s lo r ls) (hs : s < lo) (hlo : lo = base.next) (k : Nat) {sz : Nat} {v : V} {es : List (List V)} (hk : ls[k]? = some (sz, v, es)) {e : List V} {bytes : Nat} (he : e.length = sz) (h1 : e.all V.one = true) (hsz : sz ≠ 0)
  (hes : ∀ a ∈ es, a.length = sz) (hb : (es.length + 1) * bytes ≤ 140737488355328) (hb2 : es.length + 1 ≤ 9223372036854775807) :
  ∃ v2 d, zaG (h.push (.row e)).get (h.next + 1) sz bytes v (.sl h.next sz 0 1 (some 1)) = some (v2, d) ∧ v2.one = true ∧ ((h.push (.row e)).app d).get s = some (.row (r (ls.map fun x => x.2.1))) ∧
   Rws base (((h.push (.row e)).app d).set s (.row (r ((ls.set k (sz, v2, es ++ [e])).map fun x => x.2.1)))) s lo r (ls.set k (sz, v2, es ++ [e])) := by
 obtain ⟨v2, d, a1, a2, a3, a4, _, _⟩ := X.addF hs hlo k hk (bytes := bytes) he h1 hsz hes hb hb2
 exact ⟨v2, d, a1, a2, a3, a4⟩

theorem Rws.step {base h h' : H} {s lo : Nat} {r : List V -> List V} {ls : List (Nat × V × List (List V))} (X : Rws base h s lo r ls) (g : Ge h h') (w : h'.WF) : Rws base h' s lo r ls :=
 ⟨X.ge.trans g, w, fun x hx => (X.gl x hx).keep g.1 (fun j hj => g.2 j ((X.gl x hx).lo j hj).2), X.dj⟩

theorem Acalls.news {f : FuncId} {args : List V} {h : H} {os : List O} {v0 : V} {Q : V -> H -> Prop}
  (c : Acalls P f args h fun v h1 => Ge h h1 ∧ ∃ js : Nat -> Nat, v = v0.ren js ∧ (∀ i, i < h.next -> js i = i) ∧ (∀ i, h.next ≤ i -> i < h.next + os.length -> h.next ≤ js i) ∧ (∀ i j, h.next ≤ i -> i < h.next + os.length -> h.next ≤ j -> j < h.next + os.length -> js i = js j -> i = j) ∧
   ∀ i (hi : i < os.length), h1.get (js (h.next + i)) = some os[i]) (hids : ∀ o ∈ os, o.ids = []) (hv : ∀ i ∈ v0.ids, (∃ o, h.get i = some o) ∨ (h.next ≤ i ∧ i < h.next + os.length))
  (q : Q v0 (zaS h os)) : Acalls P f args h Q := by
 refine Acalls.cl c.1 fun wf cl => Acalls.rename (c.mono ?_)
 rintro v h1 ⟨hg, js, rfl, j1, j2, j3, j4⟩
 have getp : ∀ (os : List O) (h : H) (i : Nat), (zaS h os).get i = if h.next ≤ i ∧ i < h.next + os.length then os[i - h.next]? else h.get i := by
  intro os
  induction os with
  | nil => intro h i; simp [zaS]; intro h1 h2; omega
  | cons o os ih =>
   intro h i
   simp only [zaS]
   rw [ih, H.next_push, H.get_push, List.length_cons]
   by_cases e : i = h.next
   ·subst e; simp; intro h1; omega
   ·rw [if_neg e]
    by_cases h1 : h.next + 1 ≤ i ∧ i < h.next + 1 + os.length
    ·rw [if_pos h1, if_pos (by omega), show i - h.next = (i - (h.next + 1)) + 1 by omega, List.getElem?_cons_succ]
    ·rw [if_neg h1, if_neg (by omega)]
 have nextp : ∀ (os : List O) (h : H), (zaS h os).next = h.next + os.length := by
  intro os
  induction os with
  | nil => intro h; rfl
  | cons o os ih => intro h; simp only [zaS]; rw [ih, H.next_push, List.length_cons]; omega
 have hold : ∀ i o, h.get i = some o -> o.ren js = o := fun i o ho => O.ren_id o fun k hk => by
  obtain ⟨o', ho'⟩ := cl i o ho k hk
  exact j1 k (wf.lt ho')
 have liv : ∀ i o, (zaS h os).get i = some o -> (i < h.next ∧ h.get i = some o) ∨ ((h.next ≤ i ∧ i < h.next + os.length) ∧ ∃ hl : i - h.next < os.length, o = os[i - h.next]) := fun i o ho => by
  rw [getp] at ho
  split at ho
  ·rename_i hi
   obtain ⟨hl, e⟩ := List.getElem?_eq_some_iff.1 ho
   exact .inr ⟨hi, hl, e.symm⟩
  ·exact .inl ⟨wf.lt ho, ho⟩
 refine ⟨js, v0, zaS h os, rfl, ⟨fun i o ho => ?_, fun a b oa ob ha hb e => ?_, fun i o ho k hk => ?_, fun i hi => ?_⟩, fun i hi => ?_, fun i o ho => ?_, q⟩
 ·rcases liv i o ho with ⟨h1', h2'⟩ | ⟨⟨h1', h2'⟩, hl, rfl⟩
  ·rw [j1 i h1', hold i o h2']; exact hg.keeps wf i o h2'
  ·have := j4 (i - h.next) hl
   rw [show h.next + (i - h.next) = i by omega] at this
   rw [this]
   congr 1
   exact (O.ren_id _ (fun k hk => by rw [hids _ (List.getElem_mem hl)] at hk; cases hk)).symm
 ·rcases liv a oa ha with ⟨a1, _⟩ | ⟨a1, _⟩ <;> rcases liv b ob hb with ⟨b1, _⟩ | ⟨b1, _⟩
  ·rw [j1 a a1, j1 b b1] at e; exact e
  ·rw [j1 a a1] at e; have := j2 b b1.1 b1.2; omega
  ·rw [j1 b b1] at e; have := j2 a a1.1 a1.2; omega
  ·exact j3 a b a1.1 a1.2 b1.1 b1.2 e
 ·rcases liv i o ho with ⟨h1', h2'⟩ | ⟨_, hl, rfl⟩
  ·obtain ⟨o', ho'⟩ := cl i o h2' k hk
   exact ⟨o', by rw [getp, if_neg (by have := wf.lt ho'; omega)]; exact ho'⟩
  ·rw [hids _ (List.getElem_mem hl)] at hk; cases hk
 ·rw [nextp] at hi
  rw [getp, if_neg (by omega)]; exact wf i (by omega)
 ·rcases hv i hi with ⟨o, ho⟩ | ⟨h1', h2'⟩
  ·exact ⟨o, by rw [getp, if_neg (by have := wf.lt ho; omega)]; exact ho⟩
  ·exact ⟨os[i - h.next]'(by omega), by rw [getp, if_pos ⟨h1', h2'⟩, List.getElem?_eq_getElem (by omega)]⟩
 ·exact ⟨j1 i (wf.lt ho), o, by rw [getp, if_neg (by have := wf.lt ho; omega)]; exact ho⟩

end Go.Am

namespace Go.Am

variable {P : Program}
structure It where
 fr : Bool
 sz : Nat
 old : V
 es : List (List V)
def zaU : Nat -> List It -> List V
 | _, [] => []
 | k, i :: r => if i.fr = true then glV k i.es.flatten i.es.length :: zaU (k + (glO i.sz i.es.flatten).length) r else i.old :: zaU k r
def zar : List It -> List O
 | [] => []
 | i :: r => if i.fr = true then glO i.sz i.es.flatten ++ zar r else zar r
def Made (h1 : H) (lo : Nat) : List It -> List V -> Prop
 | [], vs => vs = []
 | i :: r, vs => ∃ v vs', vs = v :: vs' ∧ (if i.fr = true then Gl h1 lo i.sz v i.es else v = i.old) ∧ Made h1 lo r vs'
def zaO : List It -> List V -> List Nat
 | i :: r, v :: vs => (if i.fr = true then v.ids else []) ++ zaO r vs
 | _, _ => []
structure ItOk (h : H) (i : It) : Prop where
 sz : i.fr = true -> i.sz ≠ 0
 es : i.fr = true -> ∀ e ∈ i.es, e.length = i.sz
 plain : i.fr = true -> ∀ e ∈ i.es, ∀ v ∈ e, v.ids = []
 old : i.fr = false -> ∀ k ∈ i.old.ids, k < h.next ∧ ∃ o, h.get k = some o

theorem Gl.as2 {h : H} {lo sz : Nat} {v : V} {es : List (List V)} (g : Gl h lo sz v es) (hsz : sz ≠ 0) (hs : ∀ e ∈ es, e.length = sz) :
  (glO sz es.flatten).length = v.ids.length ∧ (∀ (js : Nat -> Nat) (k : Nat), (∀ j ∈ v.ids, js k = j) -> v = (glV k es.flatten es.length).ren js) ∧ (∀ i (hi : i < (glO sz es.flatten).length), ∃ hv : i < v.ids.length, h.get v.ids[i] = some (glO sz es.flatten)[i]) ∧ v.ids.length ≤ 1 ∧ ∀ j ∈ v.ids, lo ≤ j := by
 rcases g with ⟨rfl, rfl⟩ | ⟨hne, j, h1, h2, rfl, h3⟩
 ·refine ⟨rfl, fun _ _ _ => rfl, fun i hi => by simp [glO] at hi, by simp [V.ids], by simp [V.ids]⟩
 ·have hf : es.flatten ≠ [] := by
   intro e
   cases es with
   | nil => exact hne rfl
   | cons a l =>
    have ha := hs a (by simp)
    simp only [List.flatten_cons, List.append_eq_nil_iff] at e
    rw [e.1] at ha
    exact hsz ha.symm
  have ho : glO sz es.flatten = [.grow sz es.flatten] := by simp only [glO, hf, if_false]
  rw [ho]
  refine ⟨rfl, fun js k hj => ?_, fun i hi => ?_, by simp [V.ids], by simp [V.ids, h1]⟩
  ·have := hj j (by simp [V.ids])
   simp only [glV, hf, if_false, V.ren, this]
  ·have : i = 0 := by simpa using hi
   subst this
   exact ⟨by simp [V.ids], by simpa [V.ids] using h3⟩
theorem ze0 : ∀ {l : List V}, (∀ v ∈ l, v.ids = []) -> V.idss l = []
 | [], _ => rfl
 | v :: l, h => by
  simp only [V.idss, h v (by simp), List.nil_append]
  exact ze0 fun w hw => h w (by simp [hw])
theorem zc9 {h : H} : ∀ (its : List It), (∀ i ∈ its, ItOk h i) -> ∀ o ∈ zar its, o.ids = []
 | [], _, o, ho => by cases ho
 | i :: r, hi, o, ho => by
  have ih := zc9 r fun x hx => hi x (by simp [hx])
  simp only [zar] at ho
  split at ho
  ·rename_i hf
   rcases List.mem_append.1 ho with ho | ho
   ·unfold glO at ho
    split at ho
    ·cases ho
    ·simp only [List.mem_cons, List.not_mem_nil, or_false] at ho
     subst ho
     refine ze0 fun v hv => ?_
     obtain ⟨e, he, hve⟩ := List.mem_flatten.1 hv
     exact (hi i (by simp)).plain hf e he v hve
   ·exact ih o ho
  ·exact ih o ho
theorem zhj {h h1 : H} {js : Nat -> Nat} : ∀ (its : List It) (vs : List V) (k : Nat), (∀ i ∈ its, ItOk h i) -> Made h1 h.next its vs -> (∀ i (hi : i < (zaO its vs).length), js (k + i) = (zaO its vs)[i]) -> (∀ i, i < h.next -> js i = i) ->
  (zaO its vs).length = (zar its).length ∧ vs = (zaU k its).map (V.ren js) ∧ (∀ i (hi : i < (zar its).length), h1.get (js (k + i)) = some (zar its)[i]) ∧ ∀ j ∈ zaO its vs, h.next ≤ j
 | [], vs, k, _, hm, _, _ => by
  have : vs = [] := hm
  subst this
  exact ⟨rfl, rfl, fun i hi => by simp [zar] at hi, by simp [zaO]⟩
 | it :: r, vs, k, hi, hm, hj, hold => by
  obtain ⟨v, vs', rfl, hv, hm'⟩ := hm
  have hok := hi it (by simp)
  cases hf : it.fr with
  | false =>
   rw [if_neg (by simp [hf])] at hv
   have e1 : zaO (it :: r) (v :: vs') = zaO r vs' := by simp [zaO, hf]
   have e2 : zar (it :: r) = zar r := by simp [zar, hf]
   have e3 : zaU k (it :: r) = it.old :: zaU k r := by simp [zaU, hf]
   obtain ⟨a, b, c, d⟩ := zhj r vs' k (fun x hx => hi x (by simp [hx])) hm' (fun i hi' => by
    have := hj i (by rw [e1]; exact hi')
    simpa [e1] using this) hold
   rw [e1, e2, e3]
   refine ⟨a, ?_, c, d⟩
   rw [List.map_cons, <- b, hv, V.ren_id it.old (fun j hj => hold j (hok.old hf j hj).1)]
  | true =>
   rw [if_pos hf] at hv
   obtain ⟨l1, r1, x1, m1, lo1⟩ := hv.as2 (hok.sz hf) (hok.es hf)
   have e1 : zaO (it :: r) (v :: vs') = v.ids ++ zaO r vs' := by simp [zaO, hf]
   have e2 : zar (it :: r) = glO it.sz it.es.flatten ++ zar r := by simp [zar, hf]
   have e3 : zaU k (it :: r) = glV k it.es.flatten it.es.length :: zaU (k + (glO it.sz it.es.flatten).length) r := by simp [zaU, hf]
   have hj1 : ∀ i (hi' : i < v.ids.length), js (k + i) = v.ids[i] := fun i hi' => by
    have := hj i (by rw [e1, List.length_append]; omega)
    simp only [e1] at this
    rw [this, List.getElem_append_left hi']
   obtain ⟨a, b, c, d⟩ := zhj r vs' (k + (glO it.sz it.es.flatten).length) (fun x hx => hi x (by simp [hx])) hm' (fun i hi' => by
    have := hj (v.ids.length + i) (by rw [e1, List.length_append]; omega)
    simp only [e1] at this
    rw [l1, Nat.add_assoc, this, List.getElem_append_right (by omega)]
    simp) hold
   rw [e1, e2, e3]
   refine ⟨by rw [List.length_append, List.length_append, a, l1], ?_, fun i hi' => ?_, fun j hj => ?_⟩
   ·rw [List.map_cons, <- b, <- r1 js k (fun j hj => by
     have hl : v.ids = [j] := by
      match hv : v.ids, m1, hj with
      | [x], _, hj => simp at hj; rw [hj]
     have := hj1 0 (by rw [hl]; simp)
     simpa [hl] using this)]
   ·rw [List.length_append] at hi'
    by_cases h1' : i < (glO it.sz it.es.flatten).length
    ·obtain ⟨hv', hg⟩ := x1 i h1'
     rw [hj1 i hv', hg, List.getElem_append_left h1']
    ·have := c (i - (glO it.sz it.es.flatten).length) (by omega)
     rw [show k + (glO it.sz it.es.flatten).length + (i - (glO it.sz it.es.flatten).length) = k + i by omega] at this
     rw [this, List.getElem_append_right (by omega)]
   ·rcases List.mem_append.1 hj with hj | hj
    ·exact lo1 j hj
    ·exact d j hj
theorem zc3 {h : H} : ∀ (its : List It) (k : Nat), (∀ i ∈ its, ItOk h i) -> ∀ j ∈ V.idss (zaU k its), (j < h.next ∧ ∃ o, h.get j = some o) ∨ (k ≤ j ∧ j < k + (zar its).length)
 | [], k, _, j, hj => by simp [zaU, V.idss] at hj
 | i :: r, k, hi, j, hj => by
  have hok := hi i (by simp)
  cases hf : i.fr with
  | false =>
   have e2 : zar (i :: r) = zar r := by simp [zar, hf]
   simp only [zaU, hf, Bool.false_eq_true, if_false, V.idss, List.mem_append] at hj
   rw [e2]
   rcases hj with hj | hj
   ·exact .inl (hok.old hf j hj)
   ·exact zc3 r k (fun x hx => hi x (by simp [hx])) j hj
  | true =>
   have e2 : zar (i :: r) = glO i.sz i.es.flatten ++ zar r := by simp [zar, hf]
   simp only [zaU, hf, if_true, V.idss, List.mem_append] at hj
   rw [e2, List.length_append]
   rcases hj with hj | hj
   ·right
    unfold glV at hj
    unfold glO
    split at hj
    ·simp [V.ids] at hj
    ·rename_i hne
     simp [V.ids] at hj
     simp [hne, hj]; omega
   ·rcases zc3 r _ (fun x hx => hi x (by simp [hx])) j hj with h | ⟨h1, h2⟩
    ·exact .inl h
    ·exact .inr ⟨by omega, by omega⟩
theorem Acalls.lists {f : FuncId} {args : List V} {h : H} {its : List It} {mk : List V -> V} {Q : V -> H -> Prop} (hmk : ∀ σ vs, (mk vs).ren σ = mk (vs.map (V.ren σ))) (hids : ∀ vs, ∀ i ∈ (mk vs).ids, i ∈ V.idss vs) (hit : ∀ i ∈ its, ItOk h i)
  (c : Acalls P f args h fun v h1 => Ge h h1 ∧ ∃ vs, v = mk vs ∧ Made h1 h.next its vs ∧ (zaO its vs).Nodup)
  (q : Q (mk (zaU h.next its)) (zaS h (zar its))) : Acalls P f args h Q := by
 refine Acalls.news (os := zar its) (v0 := mk (zaU h.next its)) (c.mono ?_) (zc9 its hit) (fun i hi => ?_) q
 ·rintro v h1 ⟨hg, vs, rfl, hm, hnd⟩
  obtain ⟨js, hjs⟩ : ∃ js : Nat -> Nat, js = fun i => if i < h.next then i else (zaO its vs).getD (i - h.next) i := ⟨_, rfl⟩
  have hold : ∀ i, i < h.next -> js i = i := fun i hi => by rw [hjs]; simp [hi]
  have hat : ∀ i (hi : i < (zaO its vs).length), js (h.next + i) = (zaO its vs)[i] := fun i hi => by
   rw [hjs]; simp only
   rw [if_neg (by omega), show h.next + i - h.next = i by omega, List.getD_eq_getElem?_getD, List.getElem?_eq_getElem hi]; rfl
  obtain ⟨a, b, c', d⟩ := zhj its vs h.next hit hm hat hold
  refine ⟨hg, js, ?_, hold, fun i h1 h2 => ?_, fun i j h1 h2 h3 h4 e => ?_, c'⟩
  ·rw [hmk, <- b]
  ·have := hat (i - h.next) (by omega)
   rw [show h.next + (i - h.next) = i by omega] at this
   rw [this]; exact d _ (List.getElem_mem _)
  ·have ea := hat (i - h.next) (by omega)
   have eb := hat (j - h.next) (by omega)
   rw [show h.next + (i - h.next) = i by omega] at ea
   rw [show h.next + (j - h.next) = j by omega] at eb
   rw [ea, eb] at e
   have := (List.getElem_inj hnd).1 e
   omega
 ·exact (zc3 its h.next hit i (hids _ i hi)).imp (fun h => h.2) id
theorem zcL {h : H} {k e : Nat} (hk : k + room ≤ e) (hn : h.next ≤ k) : ∀ (its : List It) (d : Nat), (∀ i ∈ its, ItOk h i) -> d + (zar its).length ≤ room -> (zaU (k + d) its).map (V.ren (shift k e)) = zaU (e + d) its
 | [], d, _, _ => rfl
 | i :: r, d, hi, hl => by
  have hok := hi i (by simp)
  cases hf : i.fr with
  | false =>
   have e2 : zar (i :: r) = zar r := by simp [zar, hf]
   simp only [zaU, hf, Bool.false_eq_true, if_false, List.map_cons]
   rw [zcL hk hn r d (fun x hx => hi x (by simp [hx])) (by rw [<- e2]; exact hl), V.ren_id i.old (fun j hj => by
    have := (hok.old hf j hj).1
    unfold shift; rw [if_neg (by omega)])]
  | true =>
   have e2 : zar (i :: r) = glO i.sz i.es.flatten ++ zar r := by simp [zar, hf]
   rw [e2, List.length_append] at hl
   simp only [zaU, hf, if_true, List.map_cons]
   rw [Nat.add_assoc, zcL hk hn r _ (fun x hx => hi x (by simp [hx])) (by omega), Nat.add_assoc]
   congr 1
   unfold glV
   split
   ·rfl
   ·rename_i hne
    have : (glO i.sz i.es.flatten).length = 1 := by unfold glO; rw [if_neg hne]; rfl
    have hs : shift k e (k + d) = e + d := by unfold shift; rw [if_pos (by omega)]; omega
    simp only [V.ren, hs]
theorem zgF {f : FuncId} {first cap args : List V} {h : H} {get : Nat -> Option O} {k e : Nat} {its : List It} {mk : List V -> V} (hmk : ∀ σ vs, (mk vs).ren σ = mk (vs.map (V.ren σ))) (hids : ∀ vs, ∀ i ∈ (mk vs).ids, i ∈ V.idss vs) (hit : ∀ i ∈ its, ItOk h i) (hlen : its.length ≤ room)
  (hk : k + room ≤ e) (hn : h.next ≤ k) (hg : ∀ i, i < h.next -> get i = h.get i)
  (c : ∀ h2, Ge h h2 -> Acalls P f (first ++ args ++ cap) h2 fun v h1 => Ge h2 h1 ∧ ∃ vs, v = mk vs ∧ Made h1 h2.next its vs ∧ (zaO its vs).Nodup) :
  zfB P (.func (.func f) first cap) args get k e (mk (zaU k its)) (List.range h.next) (zar its) := by
 have hco : ∀ its : List It, (zar its).length ≤ its.length := by
  intro its
  induction its with
  | nil => simp [zar]
  | cons i r ih =>
   have hg1 : (glO i.sz i.es.flatten).length ≤ 1 := by unfold glO; split <;> simp
   simp only [zar]
   split
   ·rw [List.length_append, List.length_cons]; omega
   ·rw [List.length_cons]; omega
 have hl := hco its
 refine ⟨by omega, fun i hi => ?_, fun o ho i hi => (by rw [zc9 its hit o ho] at hi; cases hi), fun h2 hn2 hrd => ?_⟩
 ·rcases zc3 its k hit i (hids _ i hi) with h | h <;> omega
 ·have g : Ge h h2 := ⟨by omega, fun i hi => by rw [hrd i (by simpa using hi), hg i hi]⟩
  have hit2 : ∀ i ∈ its, ItOk h2 i := fun i hi => ⟨(hit i hi).sz, (hit i hi).es, (hit i hi).plain, fun hf j hj => by
   obtain ⟨a, o, ho⟩ := (hit i hi).old hf j hj
   exact ⟨by have := g.1; omega, o, by rw [g.2 j a]; exact ho⟩⟩
  refine Acalls.lists hmk hids hit2 (c h2 g) ⟨?_, ?_⟩
  ·rw [hmk]
   have := zcL (h := h) hk hn its 0 hit (by omega)
   simp only [Nat.add_zero] at this
   rw [this, hn2]
  ·congr 1
   symm
   have : ∀ l : List O, (∀ x ∈ l, x.ids = []) -> l.map (O.ren (shift k e)) = l := fun l hl => by
    induction l with
    | nil => rfl
    | cons x l ih => rw [List.map_cons, ih (fun y hy => hl y (by simp [hy])), O.ren_id x (fun i hi => by rw [hl x (by simp)] at hi; cases hi)]
   exact this _ (zc9 its hit)
end Go.Am

namespace Go.Am

variable {P : Program}
theorem zon {f : FuncId} {first cap args : List V} {h : H} {get : Nat -> Option O} {k e : Nat} {v : V} (hv : v.ids = []) (hk : k + room ≤ e) (hn : h.next ≤ k) (hg : ∀ i, i < h.next -> get i = h.get i) (c : ∀ h2, Ge h h2 -> Pure P f (first ++ args ++ cap) h2 v) :
  zfB P (.func (.func f) first cap) args get k e v (List.range h.next) [] :=
 zgF (its := []) (mk := fun _ => v) (fun σ _ => V.ren_id v (fun i hi => by rw [hv] at hi; cases hi)) (fun _ i hi => by rw [hv] at hi; cases hi) (fun _ hi => by cases hi) (by simp [room]) hk hn hg
  (fun h2 g => c h2 g _ ⟨Ge.refl _, [], rfl, rfl, List.nodup_nil⟩)

theorem znJ {h : H} {lo sz k : Nat} {es : List (List V)} (hsz : sz ≠ 0) (hs : ∀ e ∈ es, e.length = sz) (h1 : lo ≤ k) (h2 : k < h.next) (hg : ∀ i (hi : i < (glO sz es.flatten).length), h.get (k + i) = some (glO sz es.flatten)[i]) : Gl h lo sz (glV k es.flatten es.length) es := by
 have := zrB (get := h.get) (nx := h.next) h1 h2 hsz hs (fun hne => by
  have hf : es.flatten ≠ [] := by
   intro e
   cases es with
   | nil => exact hne rfl
   | cons a l =>
    have ha := hs a (by simp)
    simp only [List.flatten_cons, List.append_eq_nil_iff] at e
    rw [e.1] at ha
    exact hsz ha.symm
  have ho : glO sz es.flatten = [.grow sz es.flatten] := by simp only [glO, hf, if_false]
  have := hg 0 (by simp [ho])
  simpa [ho] using this)
 exact this
@[simp] theorem zpB (k : Nat) : names k [] = [] := rfl
theorem zfu {h H : H} {lo : Nat} : ∀ (its : List It) (kk : Nat), (∀ i ∈ its, ItOk h i) -> lo ≤ kk -> kk + (zar its).length < H.next -> (∀ i (hi : i < (zar its).length), H.get (kk + i) = some (zar its)[i]) -> Made H lo its (zaU kk its)
 | [], kk, _, _, _, _ => rfl
 | i :: r, kk, hi, h1, h2, h3 => by
  have hok := hi i (by simp)
  cases hf : i.fr with
  | false =>
   have e2 : zar (i :: r) = zar r := by simp [zar, hf]
   have e3 : zaU kk (i :: r) = i.old :: zaU kk r := by simp [zaU, hf]
   rw [e2] at h2
   refine ⟨_, _, e3, by rw [if_neg (by simp [hf])], zfu r kk (fun x hx => hi x (by simp [hx])) h1 h2 (fun j hj => ?_)⟩
   have := h3 j (by rw [e2]; exact hj)
   simpa [e2] using this
  | true =>
   have e2 : zar (i :: r) = glO i.sz i.es.flatten ++ zar r := by simp [zar, hf]
   have e3 : zaU kk (i :: r) = glV kk i.es.flatten i.es.length :: zaU (kk + (glO i.sz i.es.flatten).length) r := by simp [zaU, hf]
   rw [e2, List.length_append] at h2
   refine ⟨_, _, e3, ?_, zfu r _ (fun x hx => hi x (by simp [hx])) (by omega) (by omega) (fun j hj => ?_)⟩
   ·rw [if_pos hf]
    refine znJ (hok.sz hf) (hok.es hf) h1 (by omega) (fun j hj => ?_)
    have := h3 j (by rw [e2, List.length_append]; omega)
    rw [this]
    simp only [e2]
    rw [List.getElem_append_left hj]
   ·have := h3 ((glO i.sz i.es.flatten).length + j) (by rw [e2, List.length_append]; omega)
    rw [Nat.add_assoc, this]
    simp only [e2]
    rw [List.getElem_append_right (by omega)]
    simp
end Go.Am

namespace Go.Am

variable {P : Program}
def zdC (l : List (Nat × (List V -> Option V))) : Plains := fun k => l.lookup k
theorem ziJ {l : List (Nat × (List V -> Option V))} (hl : ∀ p ∈ l, ∀ vals v, p.2 vals = some v -> ∀ h, Acalls P p.1 vals h fun u h' => u = v ∧ h' = h) : (zdC l).ok P := by
 intro k fn hk vals v hv h
 have : (k, fn) ∈ l := by
  unfold zdC at hk
  clear hl
  induction l with
  | nil => cases hk
  | cons p l ih =>
   obtain ⟨k', fn'⟩ := p
   rw [List.lookup_cons] at hk
   split at hk
   ·rename_i e
    have : k = k' := by simpa using e
    cases hk; subst this; simp
   ·exact List.mem_cons_of_mem _ (ih hk)
 exact hl _ this vals v hv h
theorem zft {fr : List (Nat × Nat)} {Q : Exit -> Tm -> H -> Prop} {ops : List SI} {t : Tm} {h : H} (l : List (Nat × (List V -> Option V))) (hl : ∀ p ∈ l, ∀ vals v, p.2 vals = some v -> ∀ h, Acalls P p.1 vals h fun u h' => u = v ∧ h' = h)
  (hfr : (fr.all fun p => ((ops.map (repS (zdC l))).getD p.1 default).cls == 0 || ((ops.map (repS (zdC l))).getD p.2 default).cls == 0) = true) (c : Swp P (Q .normal) (ops.map (repS (zdC l))) t h) : Cwp P (.dreg fr ops) Q t h :=
 .inr (.inr (.inl ⟨zdC l, ziJ hl, fun p hp => by
  have := List.all_eq_true.1 hfr p hp
  simpa using this, c⟩))
@[simp] theorem zr0 (L : Plains) (d : Option Nat) (g : Option (Nat × Bool)) (i : I) : repS L ⟨d, g, .op i⟩ = ⟨d, g, .op i⟩ := _root_.id rfl
@[simp] theorem zpV (L : Plains) (d : Option Nat) (g : Option (Nat × Bool)) (k : Nat) (args : List A) : repS L ⟨d, g, .call (.t k) args⟩ = ⟨d, g, .call (.t k) args⟩ := _root_.id rfl
@[simp] theorem zps (l : List (Nat × (List V -> Option V))) (d : Option Nat) (g : Option (Nat × Bool)) (k : Nat) (args : List A) : repS (zdC l) ⟨d, g, .call (.c (.func (.func k) [] [])) args⟩ = match l.lookup k with | some fn => ⟨d, g, .op (.pcall k fn args)⟩ | none => ⟨d, g, .call (.c (.func (.func k) [] [])) args⟩ := _root_.id rfl
end Go.Am
