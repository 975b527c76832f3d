/-
 AM, PART 1. Abstract values, objects, heaps; when a world holds an abstract heap; later heaps. Over any program. All texts 'Am..' are one seat-independent library.
-/
import Derived.WalkKit
import Derived.Below
import Derived.Deep.Quiet
namespace Go.Am

structure Below (B : Nat) (w w' : World) : Prop extends Go.RowKit.Below B w w' where
 drawn : w.drawn ≤ w'.drawn
theorem Below.refl (B : Nat) (w : World) : Below B w w := ⟨.refl B w, Nat.le_refl _⟩
theorem Below.trans {B : Nat} {a b c : World} (h : Below B a b) (k : Below B b c) : Below B a c := ⟨h.toBelow.trans k.toBelow, Nat.le_trans h.drawn k.drawn⟩
theorem Below.mono {B B' : Nat} {w w' : World} (h : Below B w w') (hB : B' ≤ B) : Below B' w w' := ⟨h.toBelow.mono hB, h.drawn⟩
theorem Below.drew {B : Nat} {a w : World} (h : Below B a w) : Below B a w.drew := ⟨h.toBelow.drew, Nat.le_succ_of_le h.drawn⟩
theorem Below.alloc {B : Nat} {a w : World} (h : Below B a w) (hB : B ≤ w.heap.size) (o : Obj) : Below B a (w.alloc o) := ⟨h.toBelow.alloc hB o, h.drawn⟩
theorem Below.heap_alloc (w : World) (o : Obj) (k : Nat) (h : k < w.heap.size) : (w.alloc o).heap[k]? = w.heap[k]? := Go.RowKit.Below.heap_alloc w o k h

inductive V where
 | bool (b : Bool)
 | int (k : IntKind) (n : Int)
 | str (s : List UInt8)
 | ptr (i n off : Nat)
 | nilptr
 | gp (g off : Nat)
 | any
 | sl (i n off len : Nat) (cap : Option Nat)
 | nilsl
 | slz
 | map (i : Nat)
 | nilmap
 | func (f : Fn) (first cap : List V)
 | nilfunc
 | iface (t : TypeId) (v : V)
 | niliface
 | agg (cs : List V)
 | tup (vs : List V)
 | dead
 | yl (i : Nat)
 deriving Inhabited

def V.undef : V := .tup []

structure LoopV where
 st : LoopState
 pending : Option Code
 tmps : List V
 params : Array Tmp
 assign : Code
 body : Code
 db : Nat
 deriving Inhabited

inductive O where
 | row (cs : List V)
 | grow (sz : Nat) (cs : List V)
 | ro (cs : List V)
 | mapo (es : List (V × V)) (bs : List Nat) (tk : Nat)
 | miter (m : Nat) (since : Nat) (seen : List Nat) (st : Nat)
 | loopo (r : LoopV)
 | defo (op : Bool)
 deriving Inhabited

def O.cells : O -> List V
 | .row cs | .grow _ cs | .ro cs => cs
 | .mapo _ _ _ | .miter _ _ _ _ | .loopo _ | .defo _ => []
def O.len (o : O) : Nat := o.cells.length
def O.sz : O -> Nat
 | .grow s _ => s
 | _ => 0
def O.own : O -> Bool
 | .ro _ => false
 | _ => true

structure H where
 next : Nat
 get : Nat -> Option O

theorem H.ext' {a b : H} (h1 : a.next = b.next) (h2 : ∀ i, a.get i = b.get i) : a = b := by
 cases a; cases b; simp only [H.mk.injEq] at *; exact ⟨h1, funext h2⟩

def H.set (h : H) (i : Nat) (o : O) : H := ⟨h.next, fun j => if j = i then some o else h.get j⟩
def H.pushAt (h : H) (k : Nat) (o : O) : H := ⟨max h.next (k + 1), fun j => if j = k then some o else h.get j⟩
def H.push (h : H) (o : O) : H := ⟨h.next + 1, fun j => if j = h.next then some o else h.get j⟩
theorem H.pushAt_next (h : H) (o : O) : h.pushAt h.next o = h.push o := by simp [H.pushAt, H.push]

inductive D where
 | keep
 | set (i : Nat) (o : O)
 | push (o : O)
def H.app (h : H) : D -> H
 | .keep => h
 | .set i o => h.set i o
 | .push o => h.push o
def H.appAt (h : H) (k : Nat) : D -> H
 | .keep => h
 | .set i o => h.set i o
 | .push o => h.pushAt k o
theorem H.appAt_next (h : H) (d : D) : h.appAt h.next d = h.app d := by cases d <;> simp [H.appAt, H.app, H.pushAt_next]

structure Pl where
 blk : Nat
 base : Nat
 tot : Nat

def Ref (μ : Nat -> Pl) (h : H) (i n : Nat) (pl : Pl) : Prop :=
 ∃ o, h.get i = some o ∧ n ≤ o.len ∧ (o.len = n -> μ i = pl)

mutual
def VR (μ : Nat -> Pl) (h : H) : V -> Value -> Prop
 | .bool b, c => c = .bool b
 | .int k n, c => c = .int k n
 | .str s, c => c = .string ⟨s.toArray⟩
 | .ptr i n off, c => ∃ pl, c = .pointer (some ⟨pl.blk, pl.base + off, none⟩) ∧ Ref μ h i n pl
 | .nilptr, c => c = .pointer none
 | .gp g off, c => c = .pointer (some ⟨g, off, none⟩)
 | .any, c => c.oneCell' = true
 | .sl i n off len cap, c => ∃ pl ccap, c = .slice (some ⟨pl.blk, pl.base + off, none⟩) len ccap ∧ len ≤ ccap ∧ ccap ≤ maxLen ∧ (∀ k, cap = some k -> ccap = k) ∧
   Ref μ h i n pl ∧ (cap = none -> off = 0 -> ∀ o, h.get i = some o -> o.len = n -> o.sz ≠ 0 -> pl.tot = ccap * o.sz)
 | .nilsl, c => c = .slice none 0 0
 | .slz, c => ∃ (a0 : Addr) (ccap : Nat), c = .slice (some a0) 0 ccap ∧ ccap ≤ maxLen
 | .map i, c => ∃ pl, c = .map (some pl.blk) ∧ Ref μ h i 0 pl
 | .nilmap, c => c = .map none
 | .func f first cap, c => ∃ cf cc : List Value, c = .func f cf.toArray cc.toArray ∧ VRs μ h first cf ∧ VRs μ h cap cc
 | .nilfunc, c => c = .nilFunc
 | .iface t v, c => ∃ cv, c = .iface t cv ∧ VR μ h v cv
 | .niliface, c => c = .nilIface
 | .agg cs, c => ∃ cc : List Value, c = .agg cc.toArray ∧ VRs μ h cs cc
 | .tup vs, c => ∃ cc : List Value, c = .tuple cc.toArray ∧ VRs μ h vs cc
 | .dead, _ => True
 | .yl i, c => ∃ pl, c = .func (.yield pl.blk) #[] #[] ∧ Ref μ h i 0 pl
def VRs (μ : Nat -> Pl) (h : H) : List V -> List Value -> Prop
 | [], cs => cs = []
 | v :: vs, cs => ∃ c cs', cs = c :: cs' ∧ VR μ h v c ∧ VRs μ h vs cs'
end

def Ext (μ : Nat -> Pl) (h : H) (μ' : Nat -> Pl) (h' : H) : Prop :=
 ∀ i o, h.get i = some o -> ∃ o', h'.get i = some o' ∧ o.sz = o'.sz ∧ o.len ≤ o'.len ∧ (o.len = o'.len -> μ' i = μ i)

theorem Ext.refl (μ : Nat -> Pl) (h : H) : Ext μ h μ h := fun _ o ho => ⟨o, ho, rfl, Nat.le_refl _, fun _ => rfl⟩
theorem Ext.trans {μ μ' μ'' : Nat -> Pl} {h h' h'' : H} (a : Ext μ h μ' h') (b : Ext μ' h' μ'' h'') : Ext μ h μ'' h'' := by
 intro i o ho
 obtain ⟨o', ho', e1, l1, m1⟩ := a i o ho
 obtain ⟨o'', ho'', e2, l2, m2⟩ := b i o' ho'
 exact ⟨o'', ho'', e1.trans e2, Nat.le_trans l1 l2, fun e => by rw [m2 (by omega), m1 (by omega)]⟩

theorem Ref.ext {μ μ' : Nat -> Pl} {h h' : H} (x : Ext μ h μ' h') {i n : Nat} {pl : Pl} (r : Ref μ h i n pl) : Ref μ' h' i n pl := by
 obtain ⟨o, ho, hn, hm⟩ := r
 obtain ⟨o', ho', _, l, m⟩ := x i o ho
 exact ⟨o', ho', by omega, fun e => by rw [m (by omega)]; exact hm (by omega)⟩

mutual
theorem VR.ext {μ μ' : Nat -> Pl} {h h' : H} (x : Ext μ h μ' h') : ∀ (v : V) (c : Value), VR μ h v c -> VR μ' h' v c
 | .bool _, _, r => r
 | .int _ _, _, r => r
 | .str _, _, r => r
 | .ptr _ _ _, _, ⟨pl, e, r⟩ => ⟨pl, e, r.ext x⟩
 | .nilptr, _, r => r
 | .gp _ _, _, r => r
 | .any, _, r => r
 | .sl i n off len cap, _, ⟨pl, ccap, e, l1, l2, hc, r, ht⟩ => ⟨pl, ccap, e, l1, l2, hc, r.ext x, fun h0 h00 o' ho' hn hs => by
   obtain ⟨o, ho, r2, _⟩ := r
   obtain ⟨o2, ho2, e1, l, m⟩ := x i o ho
   rw [ho'] at ho2
   cases ho2
   rw [<- e1] at hs ⊢
   exact ht h0 h00 o ho (by omega) hs⟩
 | .nilsl, _, r => r
 | .slz, _, r => r
 | .map _, _, ⟨pl, e, r⟩ => ⟨pl, e, r.ext x⟩
 | .nilmap, _, r => r
 | .func _ first cap, _, ⟨cf, cc, e, r1, r2⟩ => ⟨cf, cc, e, VRs.ext x first cf r1, VRs.ext x cap cc r2⟩
 | .nilfunc, _, r => r
 | .iface _ v, _, ⟨cv, e, r⟩ => ⟨cv, e, VR.ext x v cv r⟩
 | .niliface, _, r => r
 | .agg cs, _, ⟨cc, e, r⟩ => ⟨cc, e, VRs.ext x cs cc r⟩
 | .tup cs, _, ⟨cc, e, r⟩ => ⟨cc, e, VRs.ext x cs cc r⟩
 | .dead, _, _ => trivial
 | .yl _, _, ⟨pl, e, r⟩ => ⟨pl, e, r.ext x⟩
theorem VRs.ext {μ μ' : Nat -> Pl} {h h' : H} (x : Ext μ h μ' h') : ∀ (vs : List V) (cs : List Value), VRs μ h vs cs -> VRs μ' h' vs cs
 | [], _, r => r
 | v :: vs, _, ⟨c, cs', e, r1, r2⟩ => ⟨c, cs', e, VR.ext x v c r1, VRs.ext x vs cs' r2⟩
end

theorem VRs.length {μ : Nat -> Pl} {h : H} : ∀ {vs : List V} {cs : List Value}, VRs μ h vs cs -> cs.length = vs.length
 | [], _, r => by simp only [VRs] at r; subst r; rfl
 | v :: vs, _, r => by obtain ⟨c, cs', rfl, _, r2⟩ := r; simp [VRs.length r2]
theorem VRs.nil {μ : Nat -> Pl} {h : H} : VRs μ h [] [] := rfl
theorem VRs.cons {μ : Nat -> Pl} {h : H} {v : V} {c : Value} {vs : List V} {cs : List Value} (a : VR μ h v c) (b : VRs μ h vs cs) : VRs μ h (v :: vs) (c :: cs) := ⟨c, cs, rfl, a, b⟩
theorem VRs.get {μ : Nat -> Pl} {h : H} : ∀ {vs : List V} {cs : List Value}, VRs μ h vs cs -> ∀ {k : Nat} {v : V}, vs[k]? = some v -> ∃ c, cs[k]? = some c ∧ VR μ h v c
 | [], _, _, k, v, e => by simp at e
 | w :: vs, _, r, k, v, e => by
  obtain ⟨c, cs', rfl, r1, r2⟩ := r
  cases k with
  | zero => simp at e; subst e; exact ⟨c, rfl, r1⟩
  | succ k => simp only [List.getElem?_cons_succ] at e ⊢; exact VRs.get r2 e
theorem VRs.append {μ : Nat -> Pl} {h : H} : ∀ {vs : List V} {cs : List Value} {us : List V} {ds : List Value}, VRs μ h vs cs -> VRs μ h us ds -> VRs μ h (vs ++ us) (cs ++ ds)
 | [], _, _, _, r, s => by simp only [VRs] at r; subst r; exact s
 | v :: vs, _, us, ds, r, s => by obtain ⟨c, cs', rfl, r1, r2⟩ := r; exact .cons r1 (VRs.append r2 s)
theorem VRs.take {μ : Nat -> Pl} {h : H} : ∀ (n : Nat) {vs : List V} {cs : List Value}, VRs μ h vs cs -> VRs μ h (vs.take n) (cs.take n)
 | 0, _, _, _ => by simp [VRs]
 | n + 1, [], _, r => by simp only [VRs] at r; subst r; simp [VRs]
 | n + 1, v :: vs, _, r => by obtain ⟨c, cs', rfl, r1, r2⟩ := r; exact .cons r1 (VRs.take n r2)
theorem VRs.drop {μ : Nat -> Pl} {h : H} : ∀ (n : Nat) {vs : List V} {cs : List Value}, VRs μ h vs cs -> VRs μ h (vs.drop n) (cs.drop n)
 | 0, _, _, r => by simpa using r
 | n + 1, [], _, r => by simp only [VRs] at r; subst r; simp [VRs]
 | n + 1, v :: vs, _, r => by obtain ⟨c, cs', rfl, r1, r2⟩ := r; simpa using VRs.drop n r2
theorem VRs.set {μ : Nat -> Pl} {h : H} : ∀ {vs : List V} {cs : List Value} (k : Nat) {v : V} {c : Value}, VRs μ h vs cs -> VR μ h v c -> VRs μ h (vs.set k v) (cs.set k c)
 | [], _, _, _, _, r, _ => by simp only [VRs] at r; subst r; simp [VRs]
 | w :: vs, _, k, v, c, r, s => by
  obtain ⟨d, cs', rfl, r1, r2⟩ := r
  cases k with
  | zero => exact .cons s r2
  | succ k => exact .cons r1 (VRs.set k r2 s)
theorem VRs.replicate {μ : Nat -> Pl} {h : H} {v : V} {c : Value} (r : VR μ h v c) : ∀ n, VRs μ h (List.replicate n v) (List.replicate n c)
 | 0 => VRs.nil
 | n + 1 => .cons r (VRs.replicate r n)
theorem VRs.of_get {μ : Nat -> Pl} {h : H} : ∀ {vs : List V} {cs : List Value}, vs.length = cs.length -> (∀ (k : Nat) (v : V) (c : Value), vs[k]? = some v -> cs[k]? = some c -> VR μ h v c) -> VRs μ h vs cs
 | [], [], _, _ => VRs.nil
 | [], _ :: _, e, _ => by simp at e
 | _ :: _, [], e, _ => by simp at e
 | v :: vs, c :: cs, e, r => .cons (r 0 v c rfl rfl) (VRs.of_get (by simpa using e) fun k v' c' h1 h2 => r (k + 1) v' c' (by simpa using h1) (by simpa using h2))

def zfd (fz : Nat × Nat) (n : Nat) : Prop := ∀ k, k < n -> (decide (fz.1 ≤ k) && decide (k < fz.2)) = false

def ORel (W0 : World) (μ : Nat -> Pl) (h : H) (i : Nat) (w : World) : O -> Prop
 | .row cs => W0.heap.size ≤ (μ i).blk ∧ (μ i).base = 0 ∧ ∃ cur e fz, w.heap[(μ i).blk]? = some (.cells cur e fz) ∧ VRs μ h cs cur.toList ∧ zfd fz cur.size
 | .grow _ cs => W0.heap.size ≤ (μ i).blk ∧ (μ i).base = 0 ∧ ∃ cur e fz, w.heap[(μ i).blk]? = some (.cells cur e fz) ∧ VRs μ h cs (cur.toList.take cs.length) ∧ cur.size = (μ i).tot ∧ zfd fz cur.size
 | .ro cs => (μ i).blk < w.heap.size ∧ ∃ cc : List Value, VRs μ h cs cc ∧ ∀ k c, cc[k]? = some c -> w.cell? ⟨(μ i).blk, (μ i).base + k, none⟩ = some c
 | .mapo es bs tk => W0.heap.size ≤ (μ i).blk ∧ ∃ ces clock, w.heap[(μ i).blk]? = some (.map ces clock) ∧ VRs μ h (es.map (·.1)) (ces.toList.map (·.key)) ∧ VRs μ h (es.map (·.2)) (ces.toList.map (·.val)) ∧
   (ces.toList.map (·.born)).Pairwise (· < ·) ∧ (∀ e ∈ ces.toList, e.born < clock) ∧ clock = tk ∧ ces.toList.map (·.born) = bs
 | .miter m since seen st => W0.heap.size ≤ (μ i).blk ∧ (μ i).base = 0 ∧ ∃ p : Pl, w.heap[(μ i).blk]? = some (.mapIter (some p.blk) since seen.toArray st) ∧ since ≤ st ∧ Ref μ h m 0 p
 | .loopo r => W0.heap.size ≤ (μ i).blk ∧ ∃ (fn : FuncId) (ct : List Value) (p : Pl), w.heap[(μ i).blk]? = some (.loop ⟨r.st, r.pending, fn, ct.toArray, r.params, r.assign, r.body, p.blk⟩) ∧ VRs μ h r.tmps ct ∧ Ref μ h r.db 0 p
 | .defo op => W0.heap.size ≤ (μ i).blk ∧ w.heap[(μ i).blk]? = some (.deferred (if op then some [] else none))

def GT : List (Nat × List V) := [(6, [.int .u8 0, .int .u8 1, .int .u8 28, .int .u8 2, .int .u8 29, .int .u8 14, .int .u8 24, .int .u8 3, .int .u8 30, .int .u8 22, .int .u8 20, .int .u8 15, .int .u8 25, .int .u8 17, .int .u8 4, .int .u8 8, .int .u8 31, .int .u8 27, .int .u8 13, .int .u8 23, .int .u8 21, .int .u8 19, .int .u8 16, .int .u8 7, .int .u8 26, .int .u8 12, .int .u8 18, .int .u8 6, .int .u8 11, .int .u8 5, .int .u8 10, .int .u8 9]),
 (7, [.int .u8 0, .int .u8 1, .int .u8 56, .int .u8 2, .int .u8 57, .int .u8 49, .int .u8 28, .int .u8 3, .int .u8 61, .int .u8 58, .int .u8 42, .int .u8 50, .int .u8 38, .int .u8 29, .int .u8 17, .int .u8 4, .int .u8 62, .int .u8 47, .int .u8 59, .int .u8 36, .int .u8 45, .int .u8 43, .int .u8 51, .int .u8 22, .int .u8 53, .int .u8 39, .int .u8 33, .int .u8 30, .int .u8 24, .int .u8 18, .int .u8 12, .int .u8 5, .int .u8 63, .int .u8 55, .int .u8 48, .int .u8 27, .int .u8 60, .int .u8 41, .int .u8 37, .int .u8 16, .int .u8 46, .int .u8 35, .int .u8 44, .int .u8 21, .int .u8 52, .int .u8 32, .int .u8 23, .int .u8 11, .int .u8 54, .int .u8 26, .int .u8 40, .int .u8 15, .int .u8 34, .int .u8 20, .int .u8 31, .int .u8 10, .int .u8 25, .int .u8 14, .int .u8 19, .int .u8 9, .int .u8 13, .int .u8 8, .int .u8 7, .int .u8 6]),
 (3, [.int .u64 1, .int .u64 10, .int .u64 100, .int .u64 1000, .int .u64 10000, .int .u64 100000, .int .u64 1000000, .int .u64 10000000, .int .u64 100000000, .int .u64 1000000000, .int .u64 10000000000, .int .u64 100000000000, .int .u64 1000000000000, .int .u64 10000000000000, .int .u64 100000000000000, .int .u64 1000000000000000, .int .u64 10000000000000000, .int .u64 100000000000000000, .int .u64 1000000000000000000, .int .u64 10000000000000000000])]
def GlobOk (W : World) : Prop := ∀ g cs, GT.lookup g = some cs -> g < W.heap.size ∧ ∀ (k : Nat) v, cs[k]? = some v -> ∃ c, W.cell? ⟨g, k, none⟩ = some c ∧ ∀ μ h, VR μ h v c
theorem GlobOk.later {W w : World} (k : GlobOk W) (b : Below W.heap.size W w) : GlobOk w := fun g cs e => by
 obtain ⟨h1, h2⟩ := k g cs e
 exact ⟨Nat.lt_of_lt_of_le h1 b.size, fun j v hj => by
  obtain ⟨c, h3, h4⟩ := h2 j v hj
  exact ⟨c, by rw [World.cell?_of_block (w := W) (b.block g h1)]; exact h3, h4⟩⟩

structure Rel (W0 : World) (μ : Nat -> Pl) (h : H) (w : World) : Prop where
 glob : GlobOk W0
 below : Below W0.heap.size W0 w
 next : ∀ i, h.next ≤ i -> h.get i = none
 obj : ∀ i o, h.get i = some o -> ORel W0 μ h i w o
 sep : ∀ i j oi oj, i ≠ j -> h.get i = some oi -> h.get j = some oj -> oi.own = true -> (μ i).blk ≠ (μ j).blk

theorem ORel.lt {W0 : World} {μ : Nat -> Pl} {h : H} {i : Nat} {w : World} {o : O} (r : ORel W0 μ h i w o) : (μ i).blk < w.heap.size := by
 have key : ∀ {x : Obj} {b : Nat}, w.heap[b]? = some x -> b < w.heap.size := fun h => (Array.getElem?_eq_some_iff.1 h).1
 cases o with
 | row cs => obtain ⟨_, _, _, _, _, hh, _⟩ := r; exact key hh
 | grow _ cs => obtain ⟨_, _, _, _, _, hh, _⟩ := r; exact key hh
 | ro cs => exact r.1
 | mapo es _ _ => obtain ⟨_, _, _, hh, _⟩ := r; exact key hh
 | miter m a b c => obtain ⟨_, _, _, hh, _⟩ := r; exact key hh
 | loopo l => obtain ⟨_, _, _, _, hh, _⟩ := r; exact key hh
 | defo op => exact key r.2

theorem ORel.base {W0 : World} {μ : Nat -> Pl} {h : H} {i : Nat} {w : World} {o : O} (r : ORel W0 μ h i w o) (ho : o.own = true) : W0.heap.size ≤ (μ i).blk := by
 cases o with
 | ro cs => cases ho
 | _ => exact r.1

theorem ORel.keep {W0 : World} {μ μ' : Nat -> Pl} {h h' : H} {i : Nat} {w w' : World} {o : O} (x : Ext μ h μ' h') (hμ : μ' i = μ i) (hs : w.heap.size ≤ w'.heap.size)
  (hb : w'.heap[(μ i).blk]? = w.heap[(μ i).blk]?) (r : ORel W0 μ h i w o) : ORel W0 μ' h' i w' o := by
 have hlt := r.lt
 cases o with
 | row cs => obtain ⟨h0, h1, cur, e, fz, hh, hv, hf⟩ := r; simp only [ORel, hμ, hb]; exact ⟨h0, h1, cur, e, fz, hh, hv.ext x, hf⟩
 | grow s cs => obtain ⟨h0, h1, cur, e, fz, hh, hv, hc, hf⟩ := r; simp only [ORel, hμ, hb]; exact ⟨h0, h1, cur, e, fz, hh, hv.ext x, hc, hf⟩
 | ro cs =>
  obtain ⟨h0, cc, hv, hc⟩ := r
  simp only [ORel, hμ]
  exact ⟨by omega, cc, hv.ext x, fun k c hk => by rw [World.cell?_of_block (w := w) hb]; exact hc k c hk⟩
 | mapo es _ _ => obtain ⟨h0, ces, cl, hh, hk, hv, hp, hcl⟩ := r; simp only [ORel, hμ, hb]; exact ⟨h0, ces, cl, hh, hk.ext x, hv.ext x, hp, hcl⟩
 | miter m a b c => obtain ⟨h0, h1, p, hh, hs, rf⟩ := r; simp only [ORel, hμ, hb]; exact ⟨h0, h1, p, hh, hs, rf.ext x⟩
 | loopo l => obtain ⟨h0, fn, ct, p, hh, hv, rf⟩ := r; simp only [ORel, hμ, hb]; exact ⟨h0, fn, ct, p, hh, hv.ext x, rf.ext x⟩
 | defo op => obtain ⟨h0, hh⟩ := r; simp only [ORel, hμ, hb]; exact ⟨h0, hh⟩

theorem Rel.keep {W0 : World} {μ : Nat -> Pl} {h : H} {w w' : World} (r : Rel W0 μ h w) (hb : Below W0.heap.size W0 w') (hs : w.heap.size ≤ w'.heap.size)
  (he : ∀ i o, h.get i = some o -> w'.heap[(μ i).blk]? = w.heap[(μ i).blk]?) : Rel W0 μ h w' :=
 ⟨r.glob, hb, r.next, fun i o ho => (r.obj i o ho).keep (Ext.refl _ _) rfl hs (he i o ho), r.sep⟩

theorem Rel.drew {W0 : World} {μ : Nat -> Pl} {h : H} {w : World} (r : Rel W0 μ h w) : Rel W0 μ h w.drew :=
 r.keep r.below.drew (Nat.le_refl _) fun _ _ _ => rfl

def upd (μ : Nat -> Pl) (i : Nat) (p : Pl) : Nat -> Pl := fun j => if j = i then p else μ j
@[simp] theorem zaK (μ : Nat -> Pl) (i : Nat) (p : Pl) : upd μ i p i = p := by simp [upd]
theorem zcu (μ : Nat -> Pl) {i j : Nat} (p : Pl) (h : j ≠ i) : upd μ i p j = μ j := by simp [upd, h]

@[simp] theorem H.next_set (h : H) (i : Nat) (o : O) : (h.set i o).next = h.next := rfl
@[simp] theorem H.next_push (h : H) (o : O) : (h.push o).next = h.next + 1 := rfl
theorem H.get_set (h : H) (i j : Nat) (o : O) : (h.set i o).get j = if j = i then some o else h.get j := rfl
theorem H.get_push (h : H) (j : Nat) (o : O) : (h.push o).get j = if j = h.next then some o else h.get j := rfl

theorem H.get_pushAt (h : H) (k j : Nat) (o : O) : (h.pushAt k o).get j = if j = k then some o else h.get j := rfl
theorem H.next_pushAt (h : H) (k : Nat) (o : O) : (h.pushAt k o).next = max h.next (k + 1) := rfl

theorem Ext.push {μ : Nat -> Pl} {h : H} {k : Nat} (hk : h.get k = none) (o : O) (p : Pl) : Ext μ h (upd μ k p) (h.pushAt k o) := by
 intro i o' ho
 have hne : i ≠ k := by intro e; rw [e, hk] at ho; cases ho
 exact ⟨o', by rw [H.get_pushAt, if_neg hne]; exact ho, rfl, Nat.le_refl _, fun _ => zcu _ _ hne⟩

theorem Ext.set {μ : Nat -> Pl} {h : H} {i : Nat} {o o' : O} (hg : h.get i = some o) (hs : o.sz = o'.sz) (hl : o.len = o'.len) : Ext μ h μ (h.set i o') := by
 intro j o'' ho
 rw [H.get_set]
 by_cases e : j = i
 ·subst e; rw [hg] at ho; cases ho; exact ⟨o', by simp, hs, by omega, fun _ => rfl⟩
 ·exact ⟨o'', by rw [if_neg e]; exact ho, rfl, Nat.le_refl _, fun _ => rfl⟩

theorem Ext.grow {μ : Nat -> Pl} {h : H} {i : Nat} {o o' : O} (p : Pl) (hg : h.get i = some o) (hs : o.sz = o'.sz) (hl : o.len < o'.len) : Ext μ h (upd μ i p) (h.set i o') := by
 intro j o'' ho
 rw [H.get_set]
 by_cases e : j = i
 ·subst e; rw [hg] at ho; cases ho; exact ⟨o', by simp, hs, by omega, fun h => by omega⟩
 ·exact ⟨o'', by rw [if_neg e]; exact ho, rfl, Nat.le_refl _, fun _ => zcu _ _ e⟩

theorem Ext.stretch {μ : Nat -> Pl} {h : H} {i : Nat} {o o' : O} (hg : h.get i = some o) (hs : o.sz = o'.sz) (hl : o.len ≤ o'.len) : Ext μ h μ (h.set i o') := by
 intro j o'' ho
 rw [H.get_set]
 by_cases e : j = i
 ·subst e; rw [hg] at ho; cases ho; exact ⟨o', by simp, hs, hl, fun _ => rfl⟩
 ·exact ⟨o'', by rw [if_neg e]; exact ho, rfl, Nat.le_refl _, fun _ => rfl⟩

theorem Rel.push {W0 : World} {μ : Nat -> Pl} {h : H} {w w' : World} (r : Rel W0 μ h w) {k : Nat} (hk : h.get k = none) {o : O} {p : Pl} (hp : p.blk = w.heap.size) (hb : Below W0.heap.size W0 w') (hs : w.heap.size ≤ w'.heap.size)
  (he : ∀ b, b < w.heap.size -> w'.heap[b]? = w.heap[b]?) (hn : ORel W0 (upd μ k p) (h.pushAt k o) k w' o) : Rel W0 (upd μ k p) (h.pushAt k o) w' := by
 refine ⟨r.glob, hb, fun i hi => ?_, fun i o' ho => ?_, fun i j oi oj hij hi hj hown => ?_⟩
 ·rw [H.next_pushAt] at hi
  rw [H.get_pushAt, if_neg (by omega)]
  exact r.next i (by omega)
 ·rw [H.get_pushAt] at ho
  by_cases e : i = k
  ·subst e; simp only [if_true] at ho; cases ho; exact hn
  ·rw [if_neg e] at ho
   exact (r.obj i o' ho).keep (Ext.push hk o p) (zcu _ _ e) hs (he _ (r.obj i o' ho).lt)
 ·rw [H.get_pushAt] at hi hj
  by_cases ei : i = k
  ·have ej : j ≠ k := fun e => hij (ei.trans e.symm)
   rw [if_neg ej] at hj
   have := (r.obj j oj hj).lt
   rw [ei, zaK, zcu _ _ ej, hp]
   omega
  ·rw [if_neg ei] at hi
   by_cases ej : j = k
   ·have := (r.obj i oi hi).lt
    rw [ej, zaK, zcu _ _ ei, hp]
    omega
   ·rw [if_neg ej] at hj
    rw [zcu _ _ ei, zcu _ _ ej]
    exact r.sep i j oi oj hij hi hj hown

theorem Rel.set {W0 : World} {μ : Nat -> Pl} {h : H} {w w' : World} (r : Rel W0 μ h w) {i : Nat} {o o' : O} (hg : h.get i = some o) (hown : o.own = true) (hsz : o.sz = o'.sz) (hl : o.len = o'.len)
  (hb : Below W0.heap.size W0 w') (hs : w.heap.size ≤ w'.heap.size) (hk : ∀ b, b < w.heap.size -> b ≠ (μ i).blk -> w'.heap[b]? = w.heap[b]?)
  (hn : ORel W0 μ (h.set i o') i w' o') : Rel W0 μ (h.set i o') w' := by
 have x : Ext μ h μ (h.set i o') := Ext.set hg hsz hl
 refine ⟨r.glob, hb, fun j hj => ?_, fun j oj ho => ?_, fun a b oa ob hab ha hb' howna => ?_⟩
 ·rw [H.get_set]
  by_cases e : j = i
  ·subst e; have := r.next j (by simpa using hj); rw [this] at hg; cases hg
  ·rw [if_neg e]; exact r.next j (by simpa using hj)
 ·rw [H.get_set] at ho
  by_cases e : j = i
  ·subst e; simp only [if_true] at ho; cases ho; exact hn
  ·rw [if_neg e] at ho
   exact (r.obj j oj ho).keep x rfl hs (hk _ (r.obj j oj ho).lt (fun e' => r.sep i j o oj (fun h => e h.symm) hg ho hown e'.symm))
 ·rw [H.get_set] at ha hb'
  by_cases ea : a = i
  ·have eb : b ≠ i := fun e => hab (ea.trans e.symm)
   rw [if_neg eb] at hb'
   subst ea
   exact r.sep a b o ob hab hg hb' hown
  ·rw [if_neg ea] at ha
   by_cases eb : b = i
   ·subst eb; exact r.sep a b oa o hab ha hg howna
   ·rw [if_neg eb] at hb'; exact r.sep a b oa ob hab ha hb' howna

theorem Rel.move {W0 : World} {μ : Nat -> Pl} {h : H} {w w' : World} (r : Rel W0 μ h w) {i : Nat} {o o' : O} {p : Pl} (hg : h.get i = some o) (hsz : o.sz = o'.sz) (hl : o.len < o'.len)
  (hp : p.blk = w.heap.size) (hb : Below W0.heap.size W0 w') (hs : w.heap.size ≤ w'.heap.size) (hk : ∀ b, b < w.heap.size -> w'.heap[b]? = w.heap[b]?)
  (hn : ORel W0 (upd μ i p) (h.set i o') i w' o') : Rel W0 (upd μ i p) (h.set i o') w' := by
 have x : Ext μ h (upd μ i p) (h.set i o') := Ext.grow p hg hsz hl
 refine ⟨r.glob, hb, fun j hj => ?_, fun j oj ho => ?_, fun a b oa ob hab ha hb' howna => ?_⟩
 ·rw [H.get_set]
  by_cases e : j = i
  ·subst e; have := r.next j (by simpa using hj); rw [this] at hg; cases hg
  ·rw [if_neg e]; exact r.next j (by simpa using hj)
 ·rw [H.get_set] at ho
  by_cases e : j = i
  ·subst e; simp only [if_true] at ho; cases ho; exact hn
  ·rw [if_neg e] at ho
   exact (r.obj j oj ho).keep x (zcu _ _ e) hs (hk _ (r.obj j oj ho).lt)
 ·rw [H.get_set] at ha hb'
  by_cases ea : a = i
  ·have eb : b ≠ i := fun e => hab (ea.trans e.symm)
   rw [if_neg eb] at hb'
   have := (r.obj b ob hb').lt
   rw [ea, zaK, zcu _ _ eb, hp]; omega
  ·rw [if_neg ea] at ha
   by_cases eb : b = i
   ·have := (r.obj a oa ha).lt
    rw [eb, zaK, zcu _ _ ea, hp]; omega
   ·rw [if_neg eb] at hb'
    rw [zcu _ _ ea, zcu _ _ eb]
    exact r.sep a b oa ob hab ha hb' howna

theorem Rel.stretch {W0 : World} {μ : Nat -> Pl} {h : H} {w w' : World} (r : Rel W0 μ h w) {i : Nat} {o o' : O} (hg : h.get i = some o) (hown : o.own = true) (hsz : o.sz = o'.sz) (hl : o.len ≤ o'.len)
  (hb : Below W0.heap.size W0 w') (hs : w.heap.size ≤ w'.heap.size) (hk : ∀ b, b < w.heap.size -> b ≠ (μ i).blk -> w'.heap[b]? = w.heap[b]?)
  (hn : ORel W0 μ (h.set i o') i w' o') : Rel W0 μ (h.set i o') w' ∧ Ext μ h μ (h.set i o') := by
 have x : Ext μ h μ (h.set i o') := Ext.stretch hg hsz hl
 refine ⟨⟨r.glob, hb, fun j hj => ?_, fun j oj ho => ?_, fun a b oa ob hab ha hb' howna => ?_⟩, x⟩
 ·rw [H.get_set]
  by_cases e : j = i
  ·subst e; have := r.next j (by simpa using hj); rw [this] at hg; cases hg
  ·rw [if_neg e]; exact r.next j (by simpa using hj)
 ·rw [H.get_set] at ho
  by_cases e : j = i
  ·subst e; simp only [if_true] at ho; cases ho; exact hn
  ·rw [if_neg e] at ho
   exact (r.obj j oj ho).keep x rfl hs (hk _ (r.obj j oj ho).lt (fun e' => r.sep i j o oj (fun h => e h.symm) hg ho hown e'.symm))
 ·rw [H.get_set] at ha hb'
  by_cases ea : a = i
  ·have eb : b ≠ i := fun e => hab (ea.trans e.symm)
   rw [if_neg eb] at hb'
   subst ea
   exact r.sep a b o ob hab hg hb' hown
  ·rw [if_neg ea] at ha
   by_cases eb : b = i
   ·subst eb; exact r.sep a b oa o hab ha hg howna
   ·rw [if_neg eb] at hb'; exact r.sep a b oa ob hab ha hb' howna

end Go.Am
