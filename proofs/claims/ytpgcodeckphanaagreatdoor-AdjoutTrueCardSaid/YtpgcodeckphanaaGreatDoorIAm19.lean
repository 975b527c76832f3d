/-
 AM, PART 19. For contracts of open laws: later heaps (Ge), slices that are looked at (Sls), pure functions (Pure), loops that count.
-/
import Derived.Test.YtpgcodeckphanaaGreatDoorIAm17
namespace Go.Am

def H.WF (h : H) : Prop := ∀ i, h.next ≤ i -> h.get i = none
def Ge (h0 h : H) : Prop := h0.next ≤ h.next ∧ ∀ i, i < h0.next -> h.get i = h0.get i
theorem Ge.refl (h : H) : Ge h h := ⟨Nat.le_refl _, fun _ _ => rfl⟩
theorem Ge.trans {a b c : H} (x : Ge a b) (y : Ge b c) : Ge a c := ⟨Nat.le_trans x.1 y.1, fun i hi => (y.2 i (Nat.lt_of_lt_of_le hi x.1)).trans (x.2 i hi)⟩
theorem Ge.push {a b : H} (x : Ge a b) (o : O) : Ge a (b.push o) := ⟨Nat.le_trans x.1 (Nat.le_succ _), fun i hi => by
 rw [H.get_push, if_neg (by have := x.1; omega)]; exact x.2 i hi⟩
theorem Ge.set {a b : H} (x : Ge a b) {i : Nat} (hi : a.next ≤ i) (o : O) : Ge a (b.set i o) := ⟨x.1, fun j hj => by
 rw [H.get_set, if_neg (by omega)]; exact x.2 j hj⟩
@[simp] theorem Ge.refl_iff (h : H) : Ge h h := Ge.refl h
theorem H.WF.push {h : H} (w : h.WF) (o : O) : (h.push o).WF := fun i hi => by
 simp only [H.next_push] at hi
 rw [H.get_push, if_neg (by omega)]; exact w i (by omega)
theorem H.WF.set {h : H} (w : h.WF) {i : Nat} (hi : i < h.next) (o : O) : (h.set i o).WF := fun j hj => by
 simp only [H.next_set] at hj
 rw [H.get_set, if_neg (by omega)]; exact w j hj
theorem H.WF.lt {h : H} (w : h.WF) {i : Nat} {o : O} (e : h.get i = some o) : i < h.next := by
 rcases Nat.lt_or_ge i h.next with h1 | h1
 ·exact h1
 ·rw [w i h1] at e; cases e

@[simp] theorem zek (h : H) (o : O) (i n : Nat) : zab (h.push o).get i n = if i = h.next then (if o.len = n then some o.cells else none) else zab h.get i n := by
 unfold zab
 rw [H.get_push]
 by_cases e : i = h.next
 ·simp [e]
 ·simp [e]
@[simp] theorem zm4 (h : H) (j : Nat) (o : O) (i n : Nat) : zab (h.set j o).get i n = if i = j then (if o.len = n then some o.cells else none) else zab h.get i n := by
 unfold zab
 rw [H.get_set]
 by_cases e : i = j
 ·simp [e]
 ·simp [e]
attribute [simp] H.get_push H.get_set putCells Ge.push Ge.set Nat.le_add_right_of_le

theorem Ge.cells {a b : H} (x : Ge a b) {i n : Nat} (hi : i < a.next) : zab b.get i n = zab a.get i n := by
 unfold zab; rw [x.2 i hi]

variable {P : Program}
def Pure (P : Program) (f : FuncId) (args : List V) (h : H) (r : V) : Prop := ∀ Q : V -> H -> Prop, Q r h -> Acalls P f args h Q

theorem Acalls.wf {f : FuncId} {args : List V} {h : H} {Q : V -> H -> Prop} (he : zaa P f = true) (c : h.WF -> Acalls P f args h Q) : Acalls P f args h Q :=
 ⟨he, fun W0 μ w cargs hr hv => (c hr.next).2 W0 μ w cargs hr hv⟩
theorem zaw {f : FuncId} {fn : Func} {sf : SF} (hf : P.funcs[f]? = some fn) (hc : zac P fn = some sf) (hen : zaa P f = true) {args : List V} {h : H} {Q : V -> H -> Prop} (hn : args.length ≤ sf.N)
  (hb : h.WF -> Cwp P sf.body (zdB sf.results Q) (zeh args) h) : Acalls P f args h Q :=
 Acalls.wf hen fun w => zeZ hf hc hen hn (hb w)
theorem zah {f : FuncId} {fn : Func} {sf : SF} (hf : P.funcs[f]? = some fn) (hc : zac P fn = some sf) (hen : zaa P f = true) {args : List V} {h : H} {r : V} (hr : r.ids = []) (hn : args.length ≤ sf.N)
  (hb : h.WF -> Cwp P sf.body (zdB sf.results fun v h1 => v = r ∧ Ge h h1) (zeh args) h) : Pure P f args h r := fun Q hq =>
 Acalls.wf hen fun w => Acalls.drop ((zeZ hf hc hen hn (hb w)).mono (by
  rintro v h1 ⟨rfl, hg⟩
  exact ⟨fun i o ho => by rw [hg.2 i (w.lt ho)]; exact ho, by simp [hr], hq⟩))

theorem zaz {body : (Exit -> Tm -> H -> Prop) -> Tm -> H -> Prop} {Q : Exit -> Tm -> H -> Prop} {t : Tm} {h : H} (Inv : Nat -> Tm -> H -> Prop) (n : Nat) (h0 : Inv 0 t h)
  (step : ∀ i t h, i ≤ n -> Inv i t h -> ∀ K : Tm -> H -> Prop, (∀ t' h', i < n -> Inv (i + 1) t' h' -> K t' h') -> body (zfo K Q) t h) : zfW body Q t h := by
 refine zly (fun k t h => ∃ i, k + i = n ∧ Inv i t h) (n := n) ⟨0, by omega, h0⟩ ?_
 rintro k t h ⟨i, hk, hi⟩ N hN
 exact step i t h (by omega) hi N fun t' h' hlt hi' => hN (k - 1) t' h' (by omega) ⟨i + 1, by omega, hi'⟩

theorem zf7 {n : Nat} (h : n < 9223372036854775808) : IntKind.i64.wrap (n : Int) = n := zaf (by omega) (by omega)
theorem zaJ {i n : Nat} (h : i < n) (hn : n < 9223372036854775808) : IntKind.i64.wrap ((i : Int) + 1) = (i : Int) + 1 := zaf (by omega) (by omega)

structure Sls (g : Nat -> Option O) (sz : Nat) (v : V) (es : List (List V)) : Prop where
 kind : (es = [] ∧ (v = .nilsl ∨ v = .slz)) ∨ ∃ i n off cap, v = .sl i n off es.length cap
 size : ∀ e ∈ es, e.length = sz
 read : zaB g sz v = some (es.length, es.flatten)
 bound : es.length < 9223372036854775808

theorem Sls.one {g : Nat -> Option O} {sz : Nat} {v : V} {es : List (List V)} (s : Sls g sz v es) : v.one = true := by
 rcases s.kind with ⟨_, rfl | rfl⟩ | ⟨_, _, _, _, rfl⟩ <;> rfl
theorem Sls.len {g : Nat -> Option O} {sz : Nat} {v : V} {es : List (List V)} (s : Sls g sz v es) : lenV 1 g v = some (.int .i64 es.length) := by
 rcases s.kind with ⟨rfl, rfl | rfl⟩ | ⟨i, n, off, cap, rfl⟩ <;> rfl
theorem zax (g : Nat -> Option O) (sz i n off len : Nat) (cap : Option Nat) : zaB g sz (.sl i n off len cap) = if len = 0 then some (0, []) else match zab g i n with
  | some cs => if off + len * sz ≤ cs.length then some (len, (cs.drop off).take (len * sz)) else none
  | none => none := rfl
theorem zaF {sz : Nat} : ∀ {es : List (List V)}, (∀ e ∈ es, e.length = sz) -> es.flatten.length = es.length * sz
 | [], _ => by simp
 | e :: es, h => by
  rw [List.flatten_cons, List.length_append, zaF (fun x hx => h x (by simp [hx])), h e (by simp), List.length_cons, Nat.add_mul]; omega
theorem zff {sz : Nat} : ∀ {es : List (List V)} (_ : ∀ e ∈ es, e.length = sz) {k : Nat} (hk : k < es.length), (es.flatten.drop (k * sz)).take sz = es[k]
 | e :: es, h, 0, _ => by
  have := h e (by simp)
  simp [<- this]
 | e :: es, h, k + 1, hk => by
  have he := h e (by simp)
  rw [List.flatten_cons, Nat.add_mul, Nat.one_mul, List.drop_append, List.drop_of_length_le (by omega), List.nil_append, he, show k * sz + sz - sz = k * sz by omega]
  exact zff (fun x hx => h x (by simp [hx])) (by simpa using hk)
theorem Sls.at {g : Nat -> Option O} {sz : Nat} {v : V} {es : List (List V)} (s : Sls g sz v es) {k : Nat} (hk : k < es.length) :
  ∃ p q o cs, (∀ kd, zaA sz v (.int kd (k : Int)) = some (.ptr p q o)) ∧ zab g p q = some cs ∧ o + sz ≤ cs.length ∧ (cs.drop o).take sz = es[k] ∧ (∀ j, j < sz -> cs[o + j]? = es[k][j]?) := by
 rcases s.kind with ⟨rfl, _⟩ | ⟨i, n, off, cap, rfl⟩
 ·simp at hk
 ·have hr := s.read
  rw [zax, if_neg (by omega)] at hr
  split at hr
  ·rename_i cs hc
   split at hr
   ·rename_i hle
    simp only [Option.some.injEq, Prod.mk.injEq, true_and] at hr
    have hm : k * sz + sz ≤ es.length * sz := by
     have := Nat.mul_le_mul_right sz (show k + 1 ≤ es.length by omega)
     rw [Nat.add_mul] at this; omega
    have htk : (cs.drop (off + k * sz)).take sz = es[k] := by
     rw [<- zff s.size hk, <- hr, List.drop_take, List.take_take, List.drop_drop, Nat.min_eq_left (by omega)]
    refine ⟨i, n, off + k * sz, cs, fun kd => ?_, hc, by omega, htk, fun j hj => ?_⟩
    ·simp only [zbQ, Int.toNat_natCast]
     rw [if_pos ⟨by omega, by omega⟩]
    ·rw [<- htk, List.getElem?_take, if_pos hj, List.getElem?_drop]
   ·cases hr
  ·cases hr
theorem zj4 {g g' : Nat -> Option O} {sz : Nat} {v : V} {r : Nat × List V} (h : ∀ i o, g i = some o -> g' i = some o) (e : zaB g sz v = some r) : zaB g' sz v = some r := by
 cases v with
 | sl i n off len cap =>
  rw [zax] at e ⊢
  split
  ·rename_i h0; rw [if_pos h0] at e; exact e
  ·rename_i h0
   rw [if_neg h0] at e
   unfold zab at e ⊢
   cases hg : g i with
   | none => rw [hg] at e; cases e
   | some o => rw [hg] at e; rw [h i o hg]; exact e
 | _ => exact e
theorem Sls.mono {g g' : Nat -> Option O} {sz : Nat} {v : V} {es : List (List V)} (s : Sls g sz v es) (h : ∀ i o, g i = some o -> g' i = some o) : Sls g' sz v es :=
 ⟨s.kind, s.size, zj4 h s.read, s.bound⟩
theorem Ge.keeps {a b : H} (x : Ge a b) (w : a.WF) : ∀ i o, a.get i = some o -> b.get i = some o := fun i o e => by rw [x.2 i (w.lt e)]; exact e
theorem Sls.ge {a b : H} {sz : Nat} {v : V} {es : List (List V)} (s : Sls a.get sz v es) (w : a.WF) (x : Ge a b) : Sls b.get sz v es := s.mono (x.keeps w)
theorem Sls.at1 {g : Nat -> Option O} {v : V} {α : Type} {l : List α} {f : α -> V} (s : Sls g 1 v (l.map fun x => [f x])) {k : Nat} (hk : k < l.length) :
  ∃ p q o cs, (∀ kd, zaA 1 v (.int kd (k : Int)) = some (.ptr p q o)) ∧ zab g p q = some cs ∧ cs[o]? = some (f l[k]) := by
 obtain ⟨p, q, o, cs, h1, h2, _, _, h5⟩ := s.at (k := k) (by simpa using hk)
 exact ⟨p, q, o, cs, h1, h2, by have := h5 0 (by omega); simpa using this⟩
theorem ziH {h : H} (w : h.WF) {i n : Nat} {cs : List V} (e : zab h.get i n = some cs) : i < h.next := by
 unfold zab at e
 cases hg : h.get i with
 | none => rw [hg] at e; cases e
 | some o => exact w.lt hg
theorem Sls.atG {a : H} {sz : Nat} {v : V} {es : List (List V)} (s : Sls a.get sz v es) (w : a.WF) {k : Nat} (hk : k < es.length) :
  ∃ p q o cs, (∀ kd, zaA sz v (.int kd (k : Int)) = some (.ptr p q o)) ∧ p < a.next ∧ (∀ b, Ge a b -> zab b.get p q = some cs) ∧ o + sz ≤ cs.length ∧ (cs.drop o).take sz = es[k] ∧ (∀ j, j < sz -> cs[o + j]? = es[k][j]?) := by
 obtain ⟨p, q, o, cs, h1, h2, h3, h4, h5⟩ := s.at hk
 have hlt := ziH w h2
 exact ⟨p, q, o, cs, h1, hlt, fun b hb => by rw [hb.cells hlt, h2], h3, h4, h5⟩
@[simp] theorem zmn (t : Nat -> V) (g : Nat -> Option O) (n : Nat) (x : A) {s : List UInt8} (hx : x.ev t = .str s) (hl : s.length ≤ 9223372036854775807) : exec (.bytesOf x) t g n = some (.sl n s.length 0 s.length none, .push (.grow 1 (s.map zcg))) := by
 simp only [exec, hx]; rw [if_pos hl]
theorem zcO {g : Nat -> Option O} {next sz bytes q n len m : Nat} {cs xs : List V} {x : V} (hq : g q = some (.grow sz cs)) (hn : cs.length = n) (hl : len * sz = n) (hx : zaB g sz x = some (m, xs)) (hm : m ≠ 0) (h1 : xs.all V.one = true) (hsz : sz ≠ 0)
  (hb : (len + m) * bytes ≤ 140737488355328) (hb2 : len + m ≤ 9223372036854775807) : zaG g next sz bytes (.sl q n 0 len none) x = some (.sl q (n + m * sz) 0 (len + m) none, .set q (.grow sz (cs ++ xs))) := by
 unfold zaG
 rw [hx]
 try simp only
 rw [if_neg hm, if_neg (by simp [h1, hsz])]
 simp only [hq]
 rw [if_pos ⟨trivial, trivial, hn, hl, hb, hb2⟩]
theorem zds {g : Nat -> Option O} {next sz bytes m : Nat} {xs : List V} {x : V} (hx : zaB g sz x = some (m, xs)) (hm : m ≠ 0) (h1 : xs.all V.one = true) (hsz : sz ≠ 0)
  (hb : m * bytes ≤ 140737488355328) (hb2 : m ≤ 9223372036854775807) : zaG g next sz bytes .nilsl x = some (.sl next (m * sz) 0 m none, .push (.grow sz xs)) := by
 unfold zaG
 rw [hx]
 try simp only
 rw [if_neg hm, if_neg (by simp [h1, hsz])]
 try simp only
 rw [if_pos ⟨hb, hb2⟩]
@[simp] theorem zmX (z : List V) : zaq 1 z = z := by simp [zaq]
@[simp] theorem zlh (z : List V) : zaq 0 z = [] := by simp [zaq]
@[simp] theorem H.set_set (h : H) (i : Nat) (a b : O) : (h.set i a).set i b = h.set i b := H.ext' rfl fun j => by
 simp only [H.get_set]; split <;> rfl
theorem Ge.get_set {a b : H} {j : Nat} {x : O} (g : Ge (a.set j x) b) (hj : j < a.next) : b.get j = some x := by
 have := g.2 j hj; rw [H.get_set, if_pos rfl] at this; exact this
theorem Ge.get_ne {a b : H} {j i : Nat} {x : O} (g : Ge (a.set j x) b) (hi : i < a.next) (hne : i ≠ j) : b.get i = a.get i := by
 have := g.2 i hi; rw [H.get_set, if_neg hne] at this; exact this
end Go.Am
