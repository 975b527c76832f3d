/-
 AM, PART 18. A fast closed run: slots in trees of eights, every operation a closure; for the kernel.
-/
import Derived.Test.YtpgcodeckphanaaGreatDoorIAm20
namespace Go.Am

inductive T8 where
 | nil
 | leaf (v : V)
 | node (a b c d e f g h : T8)
namespace Fr

def val (t : T8) : V := T8.casesOn t .undef (fun v => v) (fun _ _ _ _ _ _ _ _ => .undef)
def c0 (t : T8) : T8 := T8.casesOn t .nil (fun _ => .nil) (fun a _ _ _ _ _ _ _ => a)
def c1 (t : T8) : T8 := T8.casesOn t .nil (fun _ => .nil) (fun _ a _ _ _ _ _ _ => a)
def c2 (t : T8) : T8 := T8.casesOn t .nil (fun _ => .nil) (fun _ _ a _ _ _ _ _ => a)
def c3 (t : T8) : T8 := T8.casesOn t .nil (fun _ => .nil) (fun _ _ _ a _ _ _ _ => a)
def c4 (t : T8) : T8 := T8.casesOn t .nil (fun _ => .nil) (fun _ _ _ _ a _ _ _ => a)
def c5 (t : T8) : T8 := T8.casesOn t .nil (fun _ => .nil) (fun _ _ _ _ _ a _ _ => a)
def c6 (t : T8) : T8 := T8.casesOn t .nil (fun _ => .nil) (fun _ _ _ _ _ _ a _ => a)
def c7 (t : T8) : T8 := T8.casesOn t .nil (fun _ => .nil) (fun _ _ _ _ _ _ _ a => a)
def cx (_ : T8) : T8 := .nil
def cN : Nat -> T8 -> T8
 | 0 => c0 | 1 => c1 | 2 => c2 | 3 => c3 | 4 => c4 | 5 => c5 | 6 => c6 | 7 => c7 | _ => cx
def p0 (k : T8 -> T8) (t : T8) : T8 := T8.casesOn t (.node (k .nil) .nil .nil .nil .nil .nil .nil .nil) (fun _ => .node (k .nil) .nil .nil .nil .nil .nil .nil .nil) (fun a b c d e f g h => .node (k a) b c d e f g h)
def p1 (k : T8 -> T8) (t : T8) : T8 := T8.casesOn t (.node .nil (k .nil) .nil .nil .nil .nil .nil .nil) (fun _ => .node .nil (k .nil) .nil .nil .nil .nil .nil .nil) (fun a b c d e f g h => .node a (k b) c d e f g h)
def p2 (k : T8 -> T8) (t : T8) : T8 := T8.casesOn t (.node .nil .nil (k .nil) .nil .nil .nil .nil .nil) (fun _ => .node .nil .nil (k .nil) .nil .nil .nil .nil .nil) (fun a b c d e f g h => .node a b (k c) d e f g h)
def p3 (k : T8 -> T8) (t : T8) : T8 := T8.casesOn t (.node .nil .nil .nil (k .nil) .nil .nil .nil .nil) (fun _ => .node .nil .nil .nil (k .nil) .nil .nil .nil .nil) (fun a b c d e f g h => .node a b c (k d) e f g h)
def p4 (k : T8 -> T8) (t : T8) : T8 := T8.casesOn t (.node .nil .nil .nil .nil (k .nil) .nil .nil .nil) (fun _ => .node .nil .nil .nil .nil (k .nil) .nil .nil .nil) (fun a b c d e f g h => .node a b c d (k e) f g h)
def p5 (k : T8 -> T8) (t : T8) : T8 := T8.casesOn t (.node .nil .nil .nil .nil .nil (k .nil) .nil .nil) (fun _ => .node .nil .nil .nil .nil .nil (k .nil) .nil .nil) (fun a b c d e f g h => .node a b c d e (k f) g h)
def p6 (k : T8 -> T8) (t : T8) : T8 := T8.casesOn t (.node .nil .nil .nil .nil .nil .nil (k .nil) .nil) (fun _ => .node .nil .nil .nil .nil .nil .nil (k .nil) .nil) (fun a b c d e f g h => .node a b c d e f (k g) h)
def p7 (k : T8 -> T8) (t : T8) : T8 := T8.casesOn t (.node .nil .nil .nil .nil .nil .nil .nil (k .nil)) (fun _ => .node .nil .nil .nil .nil .nil .nil .nil (k .nil)) (fun a b c d e f g h => .node a b c d e f g (k h))
def px (_ : T8 -> T8) (t : T8) : T8 := t
def pN : Nat -> (T8 -> T8) -> T8 -> T8
 | 0 => p0 | 1 => p1 | 2 => p2 | 3 => p3 | 4 => p4 | 5 => p5 | 6 => p6 | 7 => p7 | _ => px

theorem zfq : ∀ (i j : Nat) (k : T8 -> T8) (t : T8), j < 8 -> cN i (pN j k t) = if i = j then k (cN j t) else cN i t := by
 intro i j k t hj
 match j, hj with
 | 0, _ | 1, _ | 2, _ | 3, _ | 4, _ | 5, _ | 6, _ | 7, _ =>
  match i with
  | 0 | 1 | 2 | 3 | 4 | 5 | 6 | 7 => cases t <;> rfl
  | i + 8 => rw [if_neg (by omega)]; rfl

def G1 (a : T8 -> T8) (t : T8) : V := val (a t)
def G2 (a b : T8 -> T8) (t : T8) : V := val (b (a t))
def G3 (a b c : T8 -> T8) (t : T8) : V := val (c (b (a t)))
def G4 (a b c d : T8 -> T8) (t : T8) : V := val (d (c (b (a t))))
def Gx (_ : T8) : V := .undef
def rd (n k : Nat) : T8 -> V :=
 match n with
 | 1 => G1 (cN k)
 | 2 => G2 (cN (k / 8)) (cN (k % 8))
 | 3 => G3 (cN (k / 64)) (cN (k / 8 % 8)) (cN (k % 8))
 | 4 => G4 (cN (k / 512)) (cN (k / 64 % 8)) (cN (k / 8 % 8)) (cN (k % 8))
 | _ => Gx
def P0 (_ : V) (t : T8) : T8 := t
def P1 (a : (T8 -> T8) -> T8 -> T8) (v : V) (t : T8) : T8 := a (fun _ => .leaf v) t
def P2 (a b : (T8 -> T8) -> T8 -> T8) (v : V) (t : T8) : T8 := a (b fun _ => .leaf v) t
def P3 (a b c : (T8 -> T8) -> T8 -> T8) (v : V) (t : T8) : T8 := a (b (c fun _ => .leaf v)) t
def P4 (a b c d : (T8 -> T8) -> T8 -> T8) (v : V) (t : T8) : T8 := a (b (c (d fun _ => .leaf v))) t
def wr (n k : Nat) : V -> T8 -> T8 :=
 match n with
 | 1 => P1 (pN k)
 | 2 => P2 (pN (k / 8)) (pN (k % 8))
 | 3 => P3 (pN (k / 64)) (pN (k / 8 % 8)) (pN (k % 8))
 | 4 => P4 (pN (k / 512)) (pN (k / 64 % 8)) (pN (k / 8 % 8)) (pN (k % 8))
 | _ => P0
def wrO (n : Nat) : Option Nat -> V -> T8 -> T8
 | some k => wr n k
 | none => P0
def zeo : Nat -> Nat
 | 1 => 8 | 2 => 64 | 3 => 512 | 4 => 4096 | _ => 0
def fn (n : Nat) (t : T8) : Tm := fun k => rd n k t

theorem zpD {n k : Nat} (hk : k < zeo n) (v : V) (t : T8) (i : Nat) : rd n i (wr n k v t) = if i = k then v else rd n i t := by
 match n with
 | 0 => simp [zeo] at hk
 | 1 =>
  simp only [zeo] at hk
  simp only [rd, wr, G1, P1, zfq _ _ _ _ hk]
  split <;> rfl
 | 2 =>
  simp only [zeo] at hk
  simp only [rd, wr, G2, P2, zfq _ _ _ _ (show k / 8 < 8 by omega)]
  by_cases h1 : i / 8 = k / 8
  ·rw [if_pos h1, zfq _ _ _ _ (show k % 8 < 8 by omega)]
   by_cases h2 : i % 8 = k % 8
   ·rw [if_pos h2, if_pos (by omega)]; rfl
   ·rw [if_neg h2, if_neg (by omega), h1]
  ·rw [if_neg h1, if_neg (by omega)]
 | 3 =>
  simp only [zeo] at hk
  simp only [rd, wr, G3, P3, zfq _ _ _ _ (show k / 64 < 8 by omega)]
  by_cases h1 : i / 64 = k / 64
  ·rw [if_pos h1, zfq _ _ _ _ (show k / 8 % 8 < 8 by omega)]
   by_cases h2 : i / 8 % 8 = k / 8 % 8
   ·rw [if_pos h2, zfq _ _ _ _ (show k % 8 < 8 by omega)]
    by_cases h3 : i % 8 = k % 8
    ·rw [if_pos h3, if_pos (by omega)]; rfl
    ·rw [if_neg h3, if_neg (by omega), h1, h2]
   ·rw [if_neg h2, if_neg (by omega), h1]
  ·rw [if_neg h1, if_neg (by omega)]
 | 4 =>
  simp only [zeo] at hk
  simp only [rd, wr, G4, P4, zfq _ _ _ _ (show k / 512 < 8 by omega)]
  by_cases h1 : i / 512 = k / 512
  ·rw [if_pos h1, zfq _ _ _ _ (show k / 64 % 8 < 8 by omega)]
   by_cases h2 : i / 64 % 8 = k / 64 % 8
   ·rw [if_pos h2, zfq _ _ _ _ (show k / 8 % 8 < 8 by omega)]
    by_cases h3 : i / 8 % 8 = k / 8 % 8
    ·rw [if_pos h3, zfq _ _ _ _ (show k % 8 < 8 by omega)]
     by_cases h4 : i % 8 = k % 8
     ·rw [if_pos h4, if_pos (by omega)]; rfl
     ·rw [if_neg h4, if_neg (by omega), h1, h2, h3]
    ·rw [if_neg h3, if_neg (by omega), h1, h2]
   ·rw [if_neg h2, if_neg (by omega), h1]
  ·rw [if_neg h1, if_neg (by omega)]
 | n + 5 => simp [zeo] at hk

def zjD (n : Nat) : Option Nat -> Bool
 | some k => Nat.blt k (zeo n)
 | none => true
theorem zdo {n : Nat} {d : Option Nat} (hd : zjD n d = true) (v : V) (t : T8) : fn n (wrO n d v t) = (fn n t).put d v := by
 cases d with
 | none => rfl
 | some d =>
  funext i
  simp only [zjD, Nat.blt_eq] at hd
  exact zpD hd v t i

theorem zp7 (n : Nat) : fn n .nil = fun _ => .undef := by
 have cn : ∀ i, cN i .nil = .nil := fun i => by
  match i with
  | 0 | 1 | 2 | 3 | 4 | 5 | 6 | 7 => rfl
  | i + 8 => rfl
 funext k
 match n with
 | 0 => rfl
 | 1 => simp only [fn, rd, G1, cn]; rfl
 | 2 => simp only [fn, rd, G2, cn]; rfl
 | 3 => simp only [fn, rd, G3, cn]; rfl
 | 4 => simp only [fn, rd, G4, cn]; rfl
 | n + 5 => rfl

def zhr (n : Nat) : List V -> Nat -> T8 -> T8
 | [], _, t => t
 | v :: vs, k, t => zhr n vs (k + 1) (wr n k v t)
theorem zg5 (n : Nat) : ∀ (vs : List V) (k : Nat) (t : T8) (j : Nat), k + vs.length ≤ zeo n -> fn n (zhr n vs k t) j = if k ≤ j ∧ j < k + vs.length then (vs[j - k]?).getD .undef else fn n t j
 | [], k, t, j, _ => by rw [zhr, if_neg (by simp only [List.length_nil]; omega)]
 | v :: vs, k, t, j, h => by
  simp only [List.length_cons] at h
  rw [zhr, zg5 n vs (k + 1) _ j (by omega)]
  have e : fn n (wr n k v t) j = if j = k then v else fn n t j := zpD (by omega) v t j
  rw [e]
  by_cases h1 : j = k
  ·subst h1; rw [if_neg (by omega), if_pos rfl, if_pos (by simp)]; simp
  ·rw [if_neg h1]
   by_cases h2 : k + 1 ≤ j ∧ j < k + 1 + vs.length
   ·rw [if_pos h2, if_pos (by simp; omega), show j - k = (j - (k + 1)) + 1 by omega]; simp
   ·rw [if_neg h2, if_neg (by simp; omega)]
theorem zlS {n : Nat} {vs : List V} (h : vs.length ≤ zeo n) : fn n (zhr n vs 0 .nil) = zeh vs := by
 funext k
 rw [zg5 n vs 0 .nil k (by omega), zp7]
 simp only [zeh, Nat.zero_le, true_and, Nat.zero_add, Nat.sub_zero]
 split
 ·rfl
 ·rw [List.getElem?_eq_none (by omega)]; rfl

def kNum (k : IntKind) : Nat := IntKind.casesOn k 0 1 2 3 4 5 6 7
def kEq (a b : IntKind) : Bool := Nat.beq (kNum a) (kNum b)
theorem zjS (a b : IntKind) : kEq a b = decide (a = b) := by cases a <;> cases b <;> rfl
def maxN (k : IntKind) : Nat := IntKind.casesOn k 127 32767 2147483647 9223372036854775807 255 65535 4294967295 18446744073709551615
def ziD (k : IntKind) (n : Int) : Int := Int.casesOn n (fun m => cond (Nat.ble m (maxN k)) (.ofNat m) (k.wrap (.ofNat m))) (fun m => k.wrap (.negSucc m))
theorem zib (k : IntKind) (n : Int) : ziD k n = k.wrap n := by
 cases n with
 | negSucc m => rfl
 | ofNat m =>
  simp only [ziD, cond_eq_ite]
  split
  ·rename_i h
   have h := Nat.le_of_ble_eq_true h
   cases k <;> simp [maxN] at h <;> simp [IntKind.wrap, IntKind.bits, IntKind.signed] <;> omega
  ·rfl
def seeN {α : Type} (m : Nat) (c : Nat -> α) : α := Nat.casesOn m (c 0) (fun p => c (p + 1))
theorem zcR {α : Type} (m : Nat) (c : Nat -> α) : seeN m c = c m := by cases m <;> rfl
def seeI {α : Type} (n : Int) (c : Int -> α) : α := Int.casesOn n (fun m => seeN m fun m => c (.ofNat m)) (fun m => seeN m fun m => c (.negSucc m))
theorem zjr {α : Type} (n : Int) (c : Int -> α) : seeI n c = c n := by cases n <;> simp [seeI, zcR]
def mkI (k : IntKind) (n : Int) : Option (V × D) := seeI n fun n => some (.int k n, .keep)
theorem zmv (k : IntKind) (n : Int) : mkI k n = some (.int k n, .keep) := zjr _ _
def ltF (a b : Int) : Bool := Int.casesOn a (fun m => Int.casesOn b (fun n => Nat.blt m n) (fun _ => false)) (fun m => Int.casesOn b (fun _ => true) (fun n => Nat.blt n m))
theorem zj7 (a b : Int) : ltF a b = decide (a < b) := by
 cases a <;> cases b <;> simp only [ltF] <;> rw [Bool.eq_iff_iff] <;> simp <;> omega
def leF (a b : Int) : Bool := !ltF b a
theorem zmI (a b : Int) : leF a b = decide (a ≤ b) := by
 simp only [leF, zj7]; rw [Bool.eq_iff_iff]; simp
def eqF (a b : Int) : Bool := Int.casesOn a (fun m => Int.casesOn b (fun n => Nat.beq m n) (fun _ => false)) (fun m => Int.casesOn b (fun _ => false) (fun n => Nat.beq m n))
theorem ziy (a b : Int) : eqF a b = (a == b) := by
 cases a <;> cases b <;> simp only [eqF] <;> rw [Bool.eq_iff_iff] <;> simp <;> omega
def bv (b : Bool) : Option (V × D) := Bool.casesOn b (some (.bool false, .keep)) (some (.bool true, .keep))
theorem zp8 (b : Bool) : bv b = some (.bool b, .keep) := by cases b <;> rfl

def seeL {β α : Type} : List β -> (List β -> α) -> α
 | [], c => c []
 | b :: l, c => seeL l fun l => c (b :: l)
theorem ze7 {β α : Type} : ∀ (l : List β) (c : List β -> α), seeL l c = c l
 | [], _ => rfl
 | b :: l, c => by rw [seeL, ze7 l]

abbrev F := T8 -> (Nat -> Option O) -> Nat -> Option (V × D)
abbrev Ar := T8 -> V

def iAdd (a b : Ar) : F := fun t _ _ => match a t, b t with
 | .int k x, .int k' y => cond (kEq k k') (mkI k (ziD k (x + y))) none
 | .str x, .str y => zam (strV .add x y)
 | _, _ => none
def iSub (a b : Ar) : F := fun t _ _ => match a t, b t with
 | .int k x, .int k' y => cond (kEq k k') (mkI k (ziD k (x - y))) none
 | .str x, .str y => zam (strV .sub x y)
 | _, _ => none
def iCmp (f : Int -> Int -> Bool) (op : BinOp) (a b : Ar) : F := fun t _ _ => match a t, b t with
 | .int k x, .int k' y => cond (kEq k k') (bv (f x y)) none
 | .str x, .str y => zam (strV op x y)
 | _, _ => none
def neF (a b : Int) : Bool := !eqF a b
def gtF (a b : Int) : Bool := ltF b a
def geF (a b : Int) : Bool := leF b a
def iBin (op : BinOp) (a b : Ar) : F := fun t _ _ => zam (binV op (a t) (b t))
def iEql (a b : Ar) : F := iCmp eqF .eql a b
def iNeq (a b : Ar) : F := iCmp neF .neq a b
def iLss (a b : Ar) : F := iCmp ltF .lss a b
def iLeq (a b : Ar) : F := iCmp leF .leq a b
def iGtr (a b : Ar) : F := iCmp gtF .gtr a b
def iGeq (a b : Ar) : F := iCmp geF .geq a b
def fBin (op : BinOp) (a b : Ar) : F :=
 match op with
 | .add => iAdd a b
 | .sub => iSub a b
 | .eql => iEql a b
 | .neq => iNeq a b
 | .lss => iLss a b
 | .leq => iLeq a b
 | .gtr => iGtr a b
 | .geq => iGeq a b
 | op => iBin op a b
theorem ziv {α : Type} (k k' : IntKind) (a b : α) : cond (kEq k k') a b = if k = k' then a else b := by
 rw [zjS, cond_eq_ite]; simp
theorem zfC {f : Int -> Int -> Bool} {op : BinOp} (hs : zc2 op = false) (hf : ∀ k x y, intV op k x y = some (.bool (f x y))) (a b : Ar) (t : T8) (g : Nat -> Option O) (n : Nat) : iCmp f op a b t g n = zam (binV op (a t) (b t)) := by
 unfold iCmp
 split
 ·rename_i k x k' y h1 h2
  rw [h1, h2, ziv]
  simp only [binV, hs, Bool.false_eq_true, if_false]
  split
  ·rw [hf, zp8]; rfl
  ·rfl
 ·rename_i x y h1 h2; rw [h1, h2]; rfl
 ·rename_i h1 h2
  unfold binV
  split
  ·rename_i e1 e2; exact absurd e2 (h1 _ _ _ _ e1)
  ·rename_i e1 e2; exact absurd e2 (h2 _ _ e1)
  ·rfl
theorem znY (op : BinOp) (a b : Ar) (t : T8) (g : Nat -> Option O) (n : Nat) : fBin op a b t g n = zam (binV op (a t) (b t)) := by
 have arith : ∀ (op : BinOp) (f : Int -> Int -> Int), zc2 op = false -> (∀ k x y, intV op k x y = some (.int k (k.wrap (f x y)))) ->
   (match a t, b t with
    | .int k x, .int k' y => cond (kEq k k') (mkI k (ziD k (f x y))) none
    | .str x, .str y => zam (strV op x y)
    | _, _ => none) = zam (binV op (a t) (b t)) := by
  intro op f hs hf
  split
  ·rename_i k x k' y h1 h2
   rw [h1, h2, ziv]
   simp only [binV, hs, Bool.false_eq_true, if_false]
   split
   ·rw [hf, zmv, zib]; rfl
   ·rfl
  ·rename_i x y h1 h2; rw [h1, h2]; rfl
  ·rename_i h1 h2
   unfold binV
   split
   ·rename_i e1 e2; exact absurd e2 (h1 _ _ _ _ e1)
   ·rename_i e1 e2; exact absurd e2 (h2 _ _ e1)
   ·rfl
 cases op
 case add => exact arith .add (· + ·) rfl (fun _ _ _ => rfl)
 case sub => exact arith .sub (· - ·) rfl (fun _ _ _ => rfl)
 case eql => exact zfC rfl (fun _ x y => by simp only [intV, ziy]) a b t g n
 case neq => exact zfC rfl (fun _ x y => by simp only [intV, neF, ziy, bne]) a b t g n
 case lss => exact zfC rfl (fun _ x y => by simp only [intV, zj7]) a b t g n
 case leq => exact zfC rfl (fun _ x y => by simp only [intV, zmI]) a b t g n
 case gtr => exact zfC rfl (fun _ x y => by simp only [intV, gtF, zj7]) a b t g n
 case geq => exact zfC rfl (fun _ x y => by simp only [intV, geF, zmI]) a b t g n
 all_goals rfl

def zd9 (k : IntKind) (a : Ar) : F := fun t _ _ => match a t with
 | .int _ n => mkI k (ziD k n)
 | _ => none
theorem zlP (k : IntKind) (a : Ar) (t : T8) (g : Nat -> Option O) (n : Nat) : zd9 k a t g n = zam ((zgA (a t)).map fun n => .int k (k.wrap n)) := by
 unfold zd9
 cases a t <;> first | rfl | (simp only [zmv, zib]; rfl)

def zhb : List V -> Nat -> Bool
 | [], n => Nat.beq n 0
 | _ :: cs, n => Nat.casesOn n false fun m => zhb cs m
theorem zh0 : ∀ (cs : List V) (n : Nat), zhb cs n = decide (cs.length = n)
 | [], n => by cases n <;> rfl
 | _ :: cs, n => by
  cases n with
  | zero => rfl
  | succ n => simp only [zhb, zh0 cs n, List.length_cons]; rw [Bool.eq_iff_iff]; simp
def zcX (get : Nat -> Option O) (i n : Nat) : Option (List V) :=
 match get i with
 | some (.row cs) => cond (zhb cs n) (some cs) none
 | some (.grow _ cs) => cond (zhb cs n) (some cs) none
 | some (.ro cs) => cond (zhb cs n) (some cs) none
 | some o => cond (zhb o.cells n) (some o.cells) none
 | none => none
theorem zgt (get : Nat -> Option O) (i n : Nat) : zcX get i n = zab get i n := by
 unfold zcX zab
 cases get i with
 | none => rfl
 | some o => cases o <;> simp only [zh0, cond_eq_ite, O.len, O.cells, decide_eq_true_eq] <;> exact ite_congr rfl (fun _ => rfl) (fun _ => rfl)
def za2 (a : Ar) : F := fun t g _ => match a t with
 | .ptr i m off => match zcX g i m with
  | some cs => match cs[off]? with
   | some v => some (v, .keep)
   | none => none
  | none => none
 | .gp b off => match GT.lookup b with
  | some cs => match cs[off]? with
   | some v => some (v, .keep)
   | none => none
  | none => none
 | _ => none
def zgH (n : Nat) (a : Ar) : F := fun t g _ => match a t with
 | .ptr i m off => match zcX g i m with
  | some cs => cond (Nat.ble (off + n) cs.length) (seeL ((cs.drop off).take n) fun l => some (.agg l, .keep)) none
  | none => none
 | .gp b off => match GT.lookup b with
  | some cs => cond (Nat.ble (off + n) cs.length) (seeL ((cs.drop off).take n) fun l => some (.agg l, .keep)) none
  | none => none
 | _ => none
def znZ (agg : Bool) (n : Nat) (a : Ar) : F := match agg with | true => zgH n a | false => za2 a
theorem zlQ (agg : Bool) (n : Nat) (a : Ar) (t : T8) (g : Nat -> Option O) (k : Nat) : znZ agg n a t g k = zam (zdj g agg n (a t)) := by
 cases agg <;> simp only [znZ, za2, zgH, zdj]
 ·cases a t <;> try rfl
  ·rename_i i m off
   simp only [zgt]
   cases zab g i m with
   | none => rfl
   | some cs => simp only [Bool.false_eq_true, if_false]; cases cs[off]? <;> rfl
  all_goals (
   rename_i b off
   dsimp only
   cases GT.lookup b with
   | none => rfl
   | some cs => simp only [Bool.false_eq_true, if_false]; cases cs[off]? <;> rfl)
 ·cases a t <;> try rfl
  ·rename_i i m off
   simp only [zgt]
   cases zab g i m with
   | none => rfl
   | some cs =>
    simp only [if_true, ze7, cond_eq_ite]
    by_cases h : off + n ≤ cs.length
    ·rw [if_pos (by simpa using h), if_pos h]; rfl
    ·rw [if_neg (by simpa using h), if_neg h]; rfl
  all_goals (
   rename_i b off
   dsimp only
   cases GT.lookup b with
   | none => rfl
   | some cs =>
    simp only [if_true, ze7, cond_eq_ite]
    by_cases h : off + n ≤ cs.length
    ·rw [if_pos (by simpa using h), if_pos h]; rfl
    ·rw [if_neg (by simpa using h), if_neg h]; rfl)

def seeD {α : Type} (d : D) (c : D -> α) : α :=
 match d with
 | .keep => c .keep
 | .set i (.row cs) => seeL cs fun cs => c (.set i (.row cs))
 | .set i (.grow s cs) => seeL cs fun cs => c (.set i (.grow s cs))
 | .set i o => c (.set i o)
 | .push (.row cs) => seeL cs fun cs => c (.push (.row cs))
 | .push (.grow s cs) => seeL cs fun cs => c (.push (.grow s cs))
 | .push o => c (.push o)
theorem zn4 {α : Type} (d : D) (c : D -> α) : seeD d c = c d := by
 unfold seeD
 split <;> simp only [ze7]
def seeV {α : Type} (v : V) (c : V -> α) : α :=
 match v with
 | .str s => seeL s fun s => c (.str s)
 | .agg l => seeL l fun l => c (.agg l)
 | .tup l => seeL l fun l => c (.tup l)
 | .int k n => seeI n fun n => c (.int k n)
 | v => c v
theorem zny {α : Type} (v : V) (c : V -> α) : seeV v c = c v := by
 unfold seeV
 split <;> simp only [ze7, zjr]
def seeR (r : Option (V × D)) : Option (V × D) :=
 match r with
 | some (v, d) => seeV v fun v => seeD d fun d => some (v, d)
 | none => none
theorem zdz (r : Option (V × D)) : seeR r = r := by
 unfold seeR
 split
 ·simp only [zny, zn4]
 ·rfl

def iMov (a : Ar) : F := fun t _ _ => some (a t, .keep)
def za7 (c a b : Ar) : F := fun t _ _ => zam (zg0 (c t) (a t) (b t))
def zgC (zero : List V) (n : Nat) : F := fun _ _ k => seeN k fun k => some (.ptr k n 0, .push (.row zero))
def iBox (a : Ar) : F := fun t _ k => match a t with
 | .agg cs => cond (cs.all V.one) (seeN cs.length fun m => seeN k fun k => some (.ptr k m 0, .push (.row cs))) none
 | .tup _ => none
 | .dead => none
 | v => seeN k fun k => some (.ptr k 1 0, .push (.row [v]))
def zh4 : List (Nat × Nat × Ar) -> T8 -> List (Nat × Nat × V)
 | [], _ => []
 | (o, n, a) :: ps, t => (o, n, a t) :: zh4 ps t
def zh3 (sz : Nat) : List (Nat × Ar) -> T8 -> List (Nat × Nat × V)
 | [], _ => []
 | (k, a) :: ps, t => (k * sz, sz, a t) :: zh3 sz ps t
def vals : List Ar -> T8 -> List V
 | [], _ => []
 | a :: as, t => a t :: vals as t
def optA : Option Ar -> T8 -> Option V
 | some a, t => some (a t)
 | none, _ => none
def zej (zero : List V) (ps : List (Nat × Nat × Ar)) : F := fun t _ _ => seeR (zam ((zcI zero (zh4 ps t)).map .agg))
def zeu (sz len : Nat) (zero : List V) (ps : List (Nat × Ar)) : F := fun t _ k => seeN k fun k => seeR ((zcI (zaq len zero) (zh3 sz ps t)).map fun cs => (.sl k (len * sz) 0 len (some len), .push (.row cs)))
def zbV (n : Nat) (a x : Ar) : F := fun t g _ => seeR ((zdF g n (a t) (x t)).map fun d => (V.undef, d))
def iNil (a : Ar) : F := fun t _ _ => zam (zcN (a t))
def iEq (neg : Bool) (ts : TS) (x y : Ar) : F := fun t _ _ => match eqV ts (x t) (y t) with
 | some b => bv (cond neg (!b) b)
 | none => none
def iUn (op : UnOp) (a : Ar) : F := fun t _ _ => zam (unV op (a t))
def zkp (a : Ar) : F := fun t _ _ => match a t with
 | .str s => some (.str s, .keep)
 | _ => none
def iGen (n : Nat) (i : I) : F := fun t g k => seeR (exec i (fn n t) g k)
def zbo (off : Nat) (x : Ar) : F := fun t _ _ => match x t with
 | .ptr i n o => seeN (o + off) fun o => some (.ptr i n o, .keep)
 | .gp g o => seeN (o + off) fun o => some (.gp g o, .keep)
 | _ => none
def zmL (agg : Bool) (off n : Nat) (x : Ar) : F := fun t _ _ => match x t with
 | .agg cs => seeR (zam (zb0 agg off n cs))
 | _ => none
def iIdx (sz : Nat) (x i : Ar) : F := fun t _ _ => match x t, i t with
 | .sl j n off len _, .int _ m => Int.casesOn m (fun m => cond (Nat.blt m len) (seeN (off + m * sz) fun o => some (.ptr j n o, .keep)) none) (fun _ => none)
 | _, _ => none
def zbK (x i : Ar) : F := fun t _ _ => match x t, i t with
 | .str s, .int _ m => Int.casesOn m (fun m => match s[m]? with
  | some b => seeN b.toNat fun n => some (.int .u8 n, .keep)
  | none => none) (fun _ => none)
 | _, _ => none
def zav (x : Ar) (i : Nat) : F := fun t _ _ => match x t with
 | .tup vs => zam vs[i]?
 | _ => none
def zdk (x : Ar) : F := fun t _ _ => match x t with
 | .str s => seeN s.length fun n => some (.int .i64 n, .keep)
 | _ => none
def zfm (x : Ar) : F := fun t _ _ => match x t with
 | .sl _ _ _ len _ => some (.int .i64 len, .keep)
 | .nilsl => some (.int .i64 0, .keep)
 | .slz => some (.int .i64 0, .keep)
 | _ => none
def zbJ (x : Ar) (lo hi : Option Ar) : F := fun t _ _ => seeR (zam (zbW (optA lo t) (optA hi t) (x t)))
def zkW (sz : Nat) (x : Ar) (lo hi mx : Option Ar) : F := fun t _ _ => zam (zay sz (optA lo t) (optA hi t) (optA mx t) (x t))
def znF (sz : Nat) (x hi : Ar) : F := fun t g _ => zam ((zay sz none (some (hi t)) none (x t)).or (zi7 g sz (hi t) (x t)))
def zpg (fn : Fn) (first cap : List Ar) : F := fun t _ _ => some (.func fn (vals first t) (vals cap t), .keep)
def zgl (sz bytes : Nat) (s x : Ar) : F := fun t g k => seeR (zaG g k sz bytes (s t) (x t))

def cA (v : V) : Ar := fun _ => v
def fA (n : Nat) : A -> Ar
 | .t k => rd n k
 | .c v => cA v
theorem zbn (n : Nat) (a : A) (t : T8) : fA n a t = a.ev (fn n t) := by cases a <;> rfl
def fAs (n : Nat) : List A -> List Ar
 | [] => []
 | a :: as => fA n a :: fAs n as
theorem zgz (n : Nat) (t : T8) : ∀ as : List A, vals (fAs n as) t = as.map (·.ev (fn n t))
 | [] => rfl
 | a :: as => by simp only [fAs, vals, zgz n t as, zbn, List.map_cons]
def fOpt (n : Nat) : Option A -> Option Ar
 | some a => some (fA n a)
 | none => none
theorem zju (n : Nat) (t : T8) (a : Option A) : optA (fOpt n a) t = a.map (·.ev (fn n t)) := by cases a <;> simp [fOpt, optA, zbn]
def fP3 (n : Nat) : List (Nat × Nat × A) -> List (Nat × Nat × Ar)
 | [] => []
 | (o, m, a) :: ps => (o, m, fA n a) :: fP3 n ps
theorem zmR (n : Nat) (t : T8) : ∀ ps : List (Nat × Nat × A), zh4 (fP3 n ps) t = ps.map fun (o, m, x) => (o, m, x.ev (fn n t))
 | [] => rfl
 | (o, m, a) :: ps => by simp only [fP3, zh4, zmR n t ps, zbn, List.map_cons]
def fP2 (n : Nat) : List (Nat × A) -> List (Nat × Ar)
 | [] => []
 | (k, a) :: ps => (k, fA n a) :: fP2 n ps
theorem zmq (n sz : Nat) (t : T8) : ∀ ps : List (Nat × A), zh3 sz (fP2 n ps) t = ps.map fun (k, x) => (k * sz, sz, x.ev (fn n t))
 | [] => rfl
 | (k, a) :: ps => by simp only [fP2, zh3, zmq n sz t ps, zbn, List.map_cons]

def fI (n : Nat) : I -> F
 | .mov x => iMov (fA n x)
 | .pick c a b => za7 (fA n c) (fA n a) (fA n b)
 | .alloc zero => zgC zero zero.length
 | .box x => iBox (fA n x)
 | .build zero ps => zej zero (fP3 n ps)
 | .buildSlice sz len zero ps => zeu sz len zero (fP2 n ps)
 | .load agg m a => znZ agg m (fA n a)
 | .store m a x => zbV m (fA n a) (fA n x)
 | .nilchk x => iNil (fA n x)
 | .bin op x y => fBin op (fA n x) (fA n y)
 | .eq neg ts x y => iEq neg ts (fA n x) (fA n y)
 | .un op x => iUn op (fA n x)
 | .convInt k x => zd9 k (fA n x)
 | .convId x => zkp (fA n x)
 | .fieldAddr off x => zbo off (fA n x)
 | .field agg off m x => zmL agg off m (fA n x)
 | .indexAddr sz x i => iIdx sz (fA n x) (fA n i)
 | .indexStr x i => zbK (fA n x) (fA n i)
 | .extract x i => zav (fA n x) i
 | .len 0 x => zdk (fA n x)
 | .len 1 x => zfm (fA n x)
 | .sliceStr x lo hi => zbJ (fA n x) (fOpt n lo) (fOpt n hi)
 | .sliceSl sz x lo hi mx => zkW sz (fA n x) (fOpt n lo) (fOpt n hi) (fOpt n mx)
 | .resl sz x hi => znF sz (fA n x) (fA n hi)
 | .makeFunc fn first cap => zpg fn (fAs n first) (fAs n cap)
 | .append sz bytes s x => zgl sz bytes (fA n s) (fA n x)
 | i => iGen n i

theorem zpF (n : Nat) (i : I) (t : T8) (g : Nat -> Option O) (k : Nat) : fI n i t g k = exec i (fn n t) g k := by
 unfold fI
 split
 case h_1 x => simp only [iMov, exec, zbn]
 case h_2 => simp only [za7, exec, zbn]
 case h_3 => simp only [zgC, exec, zcR]
 case h_4 x =>
  simp only [iBox, exec, zbn]
  cases x.ev (fn n t) <;> simp only [zcR, cond_eq_ite, V.solid, V.cells, if_true, Bool.false_eq_true, if_false, List.length_cons, List.length_nil] <;> exact ite_congr rfl (fun _ => rfl) (fun _ => rfl)
 case h_5 => simp only [zej, exec, zmR, zdz]
 case h_6 => simp only [zeu, exec, zmq, zcR, zdz]
 case h_7 => simp only [zlQ, exec, zbn]
 case h_8 => simp only [zbV, exec, zbn, zdz]
 case h_9 => simp only [iNil, exec, zbn]
 case h_10 => simp only [znY, exec, zbn]
 case h_11 neg ts x y =>
  simp only [iEq, exec, zbn]
  cases eqV ts (x.ev (fn n t)) (y.ev (fn n t)) with
  | none => rfl
  | some b => cases neg <;> simp [zp8]
 case h_12 => simp only [iUn, exec, zbn]
 case h_13 => simp only [zlP, exec, zbn]
 case h_14 x => simp only [zkp, exec, zbn]; cases x.ev (fn n t) <;> rfl
 case h_15 off x => simp only [zbo, exec, zbn, zcR]; cases x.ev (fn n t) <;> rfl
 case h_16 agg off m x => simp only [zmL, exec, zbn, zdz]; cases x.ev (fn n t) <;> rfl
 case h_17 sz x i =>
  simp only [iIdx, exec, zbn]
  cases x.ev (fn n t) <;> try rfl
  cases i.ev (fn n t) <;> try rfl
  rename_i j nn off len _ _ m
  cases m with
  | ofNat m =>
   simp only [zcR, cond_eq_ite, zaA, Nat.blt_eq]
   by_cases h : m < len
   ·rw [if_pos h, if_pos ⟨by simp, by simpa using h⟩]; rfl
   ·rw [if_neg h, if_neg (by simpa using h)]; rfl
  | negSucc m => simp only [zaA]; rw [if_neg (by omega)]; rfl
 case h_18 x i =>
  simp only [zbK, exec, zbn]
  cases x.ev (fn n t) <;> try rfl
  cases i.ev (fn n t) <;> try rfl
  rename_i s _ m
  cases m with
  | ofNat m =>
   simp only [zcR, zbZ]
   rw [if_pos (by simp)]
   simp only [Int.ofNat_eq_natCast, Int.toNat_natCast]
   cases s[m]? <;> rfl
  | negSucc m => simp only [zbZ]; rw [if_neg (by omega)]; rfl
 case h_19 x i => simp only [zav, exec, zbn]; cases x.ev (fn n t) <;> rfl
 case h_20 x =>
  simp only [zdk, exec, zbn]
  cases x.ev (fn n t) <;> simp [lenV, zam, zcR]
 case h_21 x =>
  simp only [zfm, exec, zbn]
  cases x.ev (fn n t) <;> simp [lenV, zam]
 case h_22 => simp only [zbJ, exec, zbn, zju, zdz]
 case h_23 => simp only [zkW, exec, zbn, zju]
 case h_24 => simp only [znF, exec, zbn]
 case h_25 => simp only [zpg, exec, zgz]
 case h_26 => simp only [zgl, exec, zbn, zdz]
 case h_27 => simp only [iGen, zdz]

abbrev Res8 := Option (Exit × T8 × Hp)
abbrev Kc := T8 -> Hp -> Res8
def zak : Kc := fun t h => some (.normal, t, h)
def retC : Kc := fun t h => some (.ret, t, h)
def zeV (id : Nat) : Kc := fun t h => some (.exit id, t, h)
def seqC (a b : Kc) : Kc := fun t h => match a t h with
 | some (.normal, t', h') => b t' h'
 | r => r
def zap (c : Ar) (a b : Kc) : Kc := fun t h => match c t with
 | .bool x => Bool.casesOn x (b t h) (a t h)
 | _ => none
def zaY (id : Nat) (b : Kc) : Kc := fun t h => match b t h with
 | some (.exit i, t', h') => Bool.casesOn (Nat.beq i id) (some (.exit i, t', h')) (some (.normal, t', h'))
 | r => r
def run8 (body : Kc) : Nat -> Kc
 | 0 => fun _ _ => none
 | n + 1 => fun t h => match body t h with
  | some (.normal, t', h') => run8 body n t' h'
  | r => r
def oK (f : F) (p : V -> T8 -> T8) (k : Kc) : Kc := fun t h => match f t h.tr.get h.next with
 | some (v, .keep) => k (p v t) h
 | some (v, dd) => k (p v t) (h.app dd)
 | none => none
def znw (cf : CF) (f : Ar) (args : List Ar) (t : T8) (h : Hp) : Option (V × Hp) := match f t with
 | .func (.func k) first cap => cf k (first ++ vals args t ++ cap) h
 | _ => none
def zaN (cf : CF) (k : FuncId) (args : List Ar) (t : T8) (h : Hp) : Option (V × Hp) := cf k (vals args t) h
def opS (f : F) (t : T8) (h : Hp) : Option (V × Hp) := match f t h.tr.get h.next with
 | some (v, dd) => some (v, h.app dd)
 | none => none
def sK (s : T8 -> Hp -> Option (V × Hp)) (p : V -> T8 -> T8) (k : Kc) : Kc := fun t h => match s t h with
 | some (v, h') => k (p v t) h'
 | none => none
def gK (g : Ar) (want : Bool) (s : T8 -> Hp -> Option (V × Hp)) (p : V -> T8 -> T8) (k : Kc) : Kc := fun t h => match g t with
 | .bool b => cond (b == want) (sK s p k t h) (k (p .undef t) h)
 | .tup [] => k (p .undef t) h
 | _ => none

def zgh (n : Nat) (cf : CF) (f : A) (args : List A) : T8 -> Hp -> Option (V × Hp) :=
 match f with
 | .c (.func (.func k) [] []) => zaN cf k (fAs n args)
 | f => znw cf (fA n f) (fAs n args)
def fX (n : Nat) (cf : CF) : X -> T8 -> Hp -> Option (V × Hp)
 | .op i => opS (fI n i)
 | .call f args => zgh n cf f args
def fR (n : Nat) (cf : CF) : List SI -> Kc -> Kc
 | [], k => k
 | ⟨d, some (g, w), x⟩ :: is, k => gK (rd n g) w (fX n cf x) (wrO n d) (fR n cf is k)
 | ⟨d, none, .op i⟩ :: is, k => oK (fI n i) (wrO n d) (fR n cf is k)
 | ⟨d, none, .call f args⟩ :: is, k => sK (zgh n cf f args) (wrO n d) (fR n cf is k)

def zgw (n : Nat) (cf : CF) (fr : List (Nat × Nat)) (e0 e1 : Nat) : List SI -> T8 -> Bt O -> List Ev -> Option (T8 × Hp)
 | [], t, g, evs => cond (fr.all fun p => zif (evAt evs p.1) (evAt evs p.2)) (some (t, ⟨e1, g⟩)) none
 | ⟨d, gd, x⟩ :: is, t, g, evs =>
  match zao gd (fn n t) with
  | none => none
  | some false => zgw n cf fr e0 e1 is (wrO n d .undef t) g (evs ++ [⟨[], []⟩])
  | some true =>
   match x with
   | .call f args =>
    match f.ev (fn n t) with
    | .func (.func k) first cap =>
     let ar := first ++ args.map (·.ev (fn n t)) ++ cap
     let rd := zhL g.get 0 4096 (V.idss ar) []
     let nm := e0 + evs.length * room
     let hF : Hp := ⟨nm, frz g.get rd⟩
     cond (zh8 g.get nm rd && (V.idss ar).all (fun i => rd.contains i) && Nat.ble (nm + room) e1)
      (match cf k ar hF with
       | some (v, h1) =>
        let L := zhL h1.tr.get nm 4096 v.ids []
        cond (zie hF h1 L v && Nat.ble L.length room)
         (let ups := names nm (L.map fun i => (zer h1.H i).ren (zaI L nm))
         zgw n cf fr e0 e1 is (wrO n d (v.ren (zaI L nm)) t) (upsT g ups) (evs ++ [⟨rd, ups⟩])) none
       | none => none) none
    | _ => none
   | .op i =>
    match exec i (fn n t) g.get (e0 + evs.length * room) with
    | some (v, dd) => let ups := dd.ups (e0 + evs.length * room)
     zgw n cf fr e0 e1 is (wrO n d v t) (upsT g ups) (evs ++ [⟨i.foot (fn n t), ups⟩])
    | none => none
mutual
def eqV0 : V -> V -> Bool
 | .bool a, .bool b => a == b
 | .int k a, .int k' b => cond (kEq k k') (eqF a b) false
 | .str a, .str b => a == b
 | .ptr i n o, .ptr i' n' o' => cond (Nat.beq i i') (cond (Nat.beq n n') (Nat.beq o o') false) false
 | .nilptr, .nilptr => true
 | .sl i n o l c, .sl i' n' o' l' c' => cond (Nat.beq i i') (cond (Nat.beq n n') (cond (Nat.beq o o') (cond (Nat.beq l l') (c == c') false) false) false) false
 | .nilsl, .nilsl => true
 | .slz, .slz => true
 | .map i, .map j => Nat.beq i j
 | .nilmap, .nilmap => true
 | .nilfunc, .nilfunc => true
 | .niliface, .niliface => true
 | _, _ => false
def zhn : List V -> List V -> Bool
 | [], [] => true
 | a :: r, b :: s => cond (eqV0 a b) (zhn r s) false
 | _, _ => false
end
def eqVB (a b : V) : Bool := match a, b with
 | .func (.func f) a1 b1, .func (.func f') a2 b2 => cond (Nat.beq f f') (cond (zhn a1 a2) (zhn b1 b2) false) false
 | a, b => eqV0 a b
def zgM : List V -> List V -> Bool
 | [], [] => true
 | a :: r, b :: s => cond (eqVB a b) (zgM r s) false
 | _, _ => false
def eqOB (a b : Option O) : Bool := match a, b with
 | some (.row x), some (.row y) => zgM x y
 | some (.grow s x), some (.grow t y) => cond (Nat.beq s t) (zgM x y) false
 | some (.ro x), some (.ro y) => zgM x y
 | _, _ => false
def zlG (n : Nat) (cf : CF) (s : SI) (t : T8) (h : Hp) : Option (T8 × Hp) :=
 match zao s.guard (fn n t) with
 | none => none
 | some false => some (wrO n s.dst .undef t, h)
 | some true => match s.ins with
  | .op i => match exec i (fn n t) h.tr.get h.next with
   | some (v, dd) => some (wrO n s.dst v t, h.app dd)
   | none => none
  | .call f args => match zgh n cf f args t h with
   | some (v, h') => some (wrO n s.dst v t, h')
   | none => none
def zn0 (n : Nat) (s : SI) (t : T8) : Option (List Nat) := match zao s.guard (fn n t) with
 | some true => match s.ins with
  | .op i => some (i.foot (fn n t))
  | .call _ _ => none
 | _ => some []
def runF (n : Nat) (cf : CF) : List (SI × Nat) -> T8 -> Hp -> List Nat -> Option (List Nat)
 | [], _, _, F => some F
 | (s, m) :: l, t, h, F => match zlG n cf s t h with
  | some (t', h') => match cond (Nat.beq m 2) (zn0 n s t) (some []) with
   | some G => runF n cf l t' h' (G ++ F)
   | none => none
  | none => none
def zkr (n : Nat) (F : List Nat) (s : SI) (m : Nat) (t : T8) (h h' : Hp) : Bool :=
 cond (Nat.beq m 1) (F.all fun i => eqOB (h'.tr.get i) (h.tr.get i)) (cond (Nat.beq m 2) (match zn0 n s t with | some G => G.all (fun i => F.contains i) | none => false) true)
def runA (n : Nat) (cf : CF) (F : List Nat) : List (SI × Nat) -> T8 -> Hp -> Option (T8 × Hp)
 | [], t, h => some (t, h)
 | (s, m) :: l, t, h => match zlG n cf s t h with
  | some (t', h') => cond (zkr n F s m t h h') (runA n cf F l t' h') none
  | none => none
def zf5 (fr : List (Nat × Nat)) (ops : List SI) : Nat -> Nat := fun i => cond (fr.any fun p => Nat.beq p.1 i || Nat.beq p.2 i) (match (ops.getD i default).ins with | .call _ _ => 1 | .op _ => 2) 0
def zpH (n : Nat) (cf : CF) (fr : List (Nat × Nat)) (ops : List SI) (k : Kc) : Kc := fun t h =>
 cond (fr.all (zfb ops (zf5 fr ops)))
  (match runF n cf ((List.range ops.length).map (zee ops (zf5 fr ops))) t h [] with
   | some F => (match runA n cf F ((List.range ops.length).map (zee ops (zf5 fr ops))) t h with
    | some (t', h') => k t' h'
    | none => none)
   | none => none) none
def zi3 (n : Nat) (cf : CF) (fr : List (Nat × Nat)) (ops : List SI) (k : Kc) : Kc := fun t h =>
 match zgw n cf fr h.next (h.next + ops.length * room) ops t h.tr [] with
 | some (t', h') => k t' h'
 | none => zpH n cf fr ops k t h

def plainRun (cf : CF) (k : FuncId) (vals : List V) : Option V :=
 match V.idss vals with
 | [] => match cf k vals ⟨0, .nil⟩ with
  | some (v, _) => match v.ids with
   | [] => some v
   | _ => none
  | none => none
 | _ => none
def zaC (cf : CF) (L : List Nat) : Plains := fun k => cond (L.contains k) (some (plainRun cf k)) none
def zmN (s : SI) : List Nat := match s.ins with
 | .call (.c (.func (.func k) [] [])) _ => [k]
 | _ => []
def ze3 (ops : List SI) (p : Nat × Nat) : List Nat :=
 cond ((ops.getD p.1 default).cls == 0 || (ops.getD p.2 default).cls == 0) [] (zmN (ops.getD p.1 default) ++ zmN (ops.getD p.2 default))
def zd7 (L : List Nat) : Plains := fun k => cond (L.contains k) (some fun _ => none) none
def zjH (fr : List (Nat × Nat)) (ops : List SI) : Option (List Nat) :=
 let L := (fr.map (ze3 ops)).flatten
 cond (fr.all fun p => ((ops.map (repS (zd7 L))).getD p.1 default).cls == 0 || ((ops.map (repS (zd7 L))).getD p.2 default).cls == 0) (some L) none
def zmg (cf : CF) (k : FuncId) (args : List Ar) (t : T8) (h : Hp) : Option (V × Hp) := match plainRun cf k (vals args t) with
 | some v => some (v, h)
 | none => none
def ziC (n : Nat) (cf : CF) (L : List Nat) (f : A) (args : List A) : T8 -> Hp -> Option (V × Hp) :=
 match f with
 | .c (.func (.func k) [] []) => cond (L.contains k) (zmg cf k (fAs n args)) (zaN cf k (fAs n args))
 | f => znw cf (fA n f) (fAs n args)
def fXP (n : Nat) (cf : CF) (L : List Nat) : X -> T8 -> Hp -> Option (V × Hp)
 | .op i => opS (fI n i)
 | .call f args => ziC n cf L f args
def fRP (n : Nat) (cf : CF) (L : List Nat) : List SI -> Kc -> Kc
 | [], k => k
 | ⟨d, some (g, w), x⟩ :: is, k => gK (rd n g) w (fXP n cf L x) (wrO n d) (fRP n cf L is k)
 | ⟨d, none, .op i⟩ :: is, k => oK (fI n i) (wrO n d) (fRP n cf L is k)
 | ⟨d, none, .call f args⟩ :: is, k => sK (ziC n cf L f args) (wrO n d) (fRP n cf L is k)
def zle (reg alt : Kc -> Kc) (k : Kc) : Kc := fun t h => match reg zak t h with
 | some (.normal, t', h') => k t' h'
 | _ => alt k t h
def zlX (n : Nat) (cf : CF) (fr : List (Nat × Nat)) (ops : List SI) (k : Kc) : Kc := match zjH fr ops with
 | some L => zle (fRP n cf L ops) (zi3 n cf fr ops) k
 | none => zi3 n cf fr ops k

def fC (n : Nat) (cf : CF) (N : Nat) : C -> Kc
 | .skip => zak
 | .ret => retC
 | .exit id => zeV id
 | .reg ops => fR n cf ops zak
 | .dreg [] ops => fR n cf ops zak
 | .dreg fr ops => zlX n cf fr ops zak
 | .seq (.reg ops) b => fR n cf ops (fC n cf N b)
 | .seq (.dreg [] ops) b => fR n cf ops (fC n cf N b)
 | .seq (.dreg fr ops) b => zlX n cf fr ops (fC n cf N b)
 | .seq a b => seqC (fC n cf N a) (fC n cf N b)
 | .cond c a b => zap (fA n c) (fC n cf N a) (fC n cf N b)
 | .block id b => zaY id (fC n cf N b)
 | .loop b => run8 (fC n cf N b) N
def okR (n : Nat) (ops : List SI) : Bool := ops.all fun s => zjD n s.dst
def okC (n : Nat) : C -> Bool
 | .reg ops => okR n ops
 | .dreg _ ops => okR n ops
 | .seq a b => okC n a && okC n b
 | .cond _ a b => okC n a && okC n b
 | .block _ b => okC n b
 | .loop b => okC n b
 | _ => true

variable {P : Program}

theorem zeH {n : Nat} {cf : CF} (hcf : CfOk P cf) {f : A} {args : List A} {t : T8} {h : Hp} {v : V} {h' : Hp} (e : zgh n cf f args t h = some (v, h')) : ∀ Q : V -> H -> Prop, Q v h'.H -> zdA P (f.ev (fn n t)) (args.map (·.ev (fn n t))) h.H Q := by
 intro Q hq
 unfold zgh at e
 split at e
 ·rename_i k
  simp only [zaN, zgz] at e
  simp only [A.ev, zdA, List.nil_append, List.append_nil]
  exact hcf _ _ _ _ _ e Q hq
 ·simp only [znw, zbn, zgz] at e
  split at e
  ·rename_i k first cap hf
   simp only [zdA, hf]
   exact hcf _ _ _ _ _ e Q hq
  ·cases e

theorem zkP {n : Nat} {cf : CF} (hcf : CfOk P cf) {r : Exit × T8 × Hp} {k : Kc} {K : Tm -> H -> Prop} (hk : ∀ t h, k t h = some r -> K (fn n t) h.H) : ∀ (l : List SI), okR n l = true -> ∀ (t : T8) (h : Hp), fR n cf l k t h = some r -> Owp P K l (fn n t) h.H ∧ Swp P K l (fn n t) h.H
 | [], _, t, h, e => ⟨hk t h e, hk t h e⟩
 | ⟨d, g, x⟩ :: is, ho, t, h, e => by
  simp only [okR, List.all_cons, Bool.and_eq_true] at ho
  have ih := fun t h e => zkP hcf hk is ho.2 t h e
  have step : ∀ {h' : Hp} {v : V}, fX n cf x t h = some (v, h') -> fR n cf is k (wrO n d v t) h' = some r ->
    zao g (fn n t) = some true -> Owp P K (⟨d, g, x⟩ :: is) (fn n t) h.H ∧ Swp P K (⟨d, g, x⟩ :: is) (fn n t) h.H := by
   intro h' v hx hr hg
   have := ih _ _ hr
   rw [zdo ho.1] at this
   simp only [Owp, Swp, Sstep, hg]
   cases x with
   | call f args =>
    have e' : zgh n cf f args t h = some (v, h') := hx
    refine ⟨zeH hcf e' _ this.1, fun v' h2 => v' = v ∧ h2 = h'.H, ⟨v, h'.H, rfl, rfl⟩, zeH hcf e' _ ⟨rfl, rfl⟩, ?_⟩
    rintro v' h2 ⟨rfl, rfl⟩
    exact this.2
   | op i =>
    simp only [fX, opS, zpF] at hx
    split at hx
    ·rename_i v1 dd hx1
     simp only [Option.some.injEq, Prod.mk.injEq] at hx
     obtain ⟨rfl, rfl⟩ := hx
     rw [Hp.app_H] at this
     have hx' : exec i (fn n t) h.H.get h.H.next = some (v1, dd) := hx1
     simp only [hx']
     exact this
    ·cases hx
  cases g with
  | some p =>
   obtain ⟨g, w⟩ := p
   simp only [fR, gK] at e
   have hrd : rd n g t = fn n t g := rfl
   rw [hrd] at e
   have off : zao (some (g, w)) (fn n t) = some false -> fR n cf is k (wrO n d .undef t) h = some r -> Owp P K (⟨d, some (g, w), x⟩ :: is) (fn n t) h.H ∧ Swp P K (⟨d, some (g, w), x⟩ :: is) (fn n t) h.H := by
    intro hg hr
    have := ih _ _ hr
    rw [zdo ho.1] at this
    simp only [Owp, Swp, Sstep, hg]
    exact this
   split at e
   ·rename_i b hb
    cases hbw : (b == w) with
    | true =>
     rw [hbw, cond_true, sK] at e
     split at e
     ·rename_i v h' hx
      exact step hx e (by simp [zao, hb, hbw])
     ·cases e
    | false =>
     rw [hbw, cond_false] at e
     exact off (by simp [zao, hb, hbw]) e
   ·rename_i hb
    exact off (by simp [zao, hb]) e
   ·cases e
  | none =>
   cases x with
   | op i =>
    simp only [fR, oK] at e
    split at e
    ·rename_i v hx
     exact step (h' := h.app .keep) (v := v) (by simp only [fX, opS, hx]) e rfl
    ·rename_i v dd _ hx
     exact step (h' := h.app dd) (v := v) (by simp only [fX, opS, hx]) e rfl
    ·cases e
   | call f args =>
    simp only [fR, sK] at e
    split at e
    ·rename_i v h' hx
     exact step (h' := h') (v := v) hx e rfl
    ·cases e

theorem zit {n : Nat} {cf : CF} (hcf : CfOk P cf) {fr : List (Nat × Nat)} {e0 e1 : Nat} {K : Tm -> H -> Prop} {t' : T8} {h' : Hp} (hK : K (fn n t') h'.H) : ∀ (l : List SI), okR n l = true -> ∀ (t : T8) (g : Bt O) (evs : List Ev), zgw n cf fr e0 e1 l t g evs = some (t', h') -> Dwp P K fr e0 e1 l (fn n t) g.get evs
 | [], _, t, g, evs, e => by
  simp only [zgw, cond_eq_ite] at e
  split at e
  ·rename_i ha
   simp only [List.all_eq_true] at ha
   simp only [Option.some.injEq, Prod.mk.injEq] at e
   obtain ⟨rfl, rfl⟩ := e
   exact ⟨fun p hp => zlw (ha p hp), e1, Nat.le_refl _, fun i h1 h2 => by omega, hK⟩
  ·cases e
 | ⟨d, gd, x⟩ :: is, ho, t, g, evs, e => by
  simp only [okR, List.all_cons, Bool.and_eq_true] at ho
  have ih := fun t g evs (e : zgw n cf fr e0 e1 is t g evs = some (t', h')) => zit hcf hK is ho.2 t g evs e
  simp only [zgw] at e
  simp only [Dwp]
  split at e
  ·cases e
  ·rename_i hg
   simp only [hg]
   have := ih _ _ _ e
   rw [zdo ho.1] at this
   exact this
  ·rename_i hg
   simp only [hg]
   split at e
   ·rename_i f args
    split at e
    ·rename_i k first cap hf
     simp only [cond_eq_ite] at e
     split at e
     ·rename_i hchk
      simp only [Bool.and_eq_true, List.all_eq_true] at hchk
      obtain ⟨⟨hsm, har⟩, hle⟩ := hchk
      obtain ⟨S, live, mem⟩ := zmc hsm
      split at e
      ·rename_i v h1 hc
       split at e
       ·rename_i hchk2
        simp only [Bool.and_eq_true] at hchk2
        have := ih _ _ _ e
        rw [zdo ho.1, zko] at this
        simp only [hf]
        exact ⟨_, _, _, zj2 S (fun i o ho => (mem i o ho).1) (fun i hi => live i (by simpa using har i hi)) (Nat.le_of_ble_eq_true hle) (Nat.le_of_ble_eq_true hchk2.2) (zlR hchk2.1) (fun Q hq => hcf _ _ _ _ _ hc Q hq), this⟩
       ·cases e
      ·cases e
     ·cases e
    ·cases e
   ·rename_i i
    split at e
    ·rename_i v dd hx
     have := ih _ _ _ e
     rw [zdo ho.1, zko] at this
     simp only [hx]
     exact this
    ·cases e

mutual
theorem zj3 : ∀ {a b : V}, eqV0 a b = true -> a = b := by
 intro a b h
 unfold eqV0 at h
 split at h
 ·rw [eq_of_beq h]
 ·rw [cond_eq_ite] at h
  split at h
  ·rename_i e
   rw [zjS] at e
   rw [ziy] at h
   rw [of_decide_eq_true e, eq_of_beq h]
  ·cases h
 ·rw [eq_of_beq h]
 ·rw [cond_eq_ite] at h
  split at h
  ·rename_i e0
   rw [cond_eq_ite] at h
   split at h
   ·rename_i e1
    rw [Nat.eq_of_beq_eq_true e0, Nat.eq_of_beq_eq_true e1, Nat.eq_of_beq_eq_true h]
   ·cases h
  ·cases h
 ·rfl
 ·rw [cond_eq_ite] at h
  split at h
  ·rename_i e0
   rw [cond_eq_ite] at h
   split at h
   ·rename_i e1
    rw [cond_eq_ite] at h
    split at h
    ·rename_i e2
     rw [cond_eq_ite] at h
     split at h
     ·rename_i e3
      rw [Nat.eq_of_beq_eq_true e0, Nat.eq_of_beq_eq_true e1, Nat.eq_of_beq_eq_true e2, Nat.eq_of_beq_eq_true e3, eq_of_beq h]
     ·cases h
    ·cases h
   ·cases h
  ·cases h
 ·rfl
 ·rfl
 ·rw [Nat.eq_of_beq_eq_true h]
 ·rfl
 ·rfl
 ·rfl
 ·cases h
end
theorem zf1 : ∀ {a b : List V}, zhn a b = true -> a = b
 | [], [], _ => rfl
 | [], _ :: _, h => by simp [zhn] at h
 | _ :: _, [], h => by simp [zhn] at h
 | a :: r, b :: s, h => by
  rw [zhn, cond_eq_ite] at h
  split at h
  ·rename_i e
   rw [zj3 e, zf1 h]
  ·cases h
theorem znb {a b : V} (h : eqVB a b = true) : a = b := by
 unfold eqVB at h
 split at h
 ·rw [cond_eq_ite] at h
  split at h
  ·rename_i e0
   rw [cond_eq_ite] at h
   split at h
   ·rename_i e1
    rw [Nat.eq_of_beq_eq_true e0, zf1 e1, zf1 h]
   ·cases h
  ·cases h
 ·exact zj3 h
theorem zeE : ∀ {a b : List V}, zgM a b = true -> a = b
 | [], [], _ => rfl
 | [], _ :: _, h => by simp [zgM] at h
 | _ :: _, [], h => by simp [zgM] at h
 | a :: r, b :: s, h => by
  rw [zgM, cond_eq_ite] at h
  split at h
  ·rename_i e
   rw [znb e, zeE h]
  ·cases h
theorem zog {a b : Option O} (h : eqOB a b = true) : a = b := by
 unfold eqOB at h
 split at h
 ·rw [zeE h]
 ·rw [cond_eq_ite] at h
  split at h
  ·rename_i e
   rw [Nat.eq_of_beq_eq_true e, zeE h]
  ·cases h
 ·rw [zeE h]
 ·cases h
theorem zlT {n : Nat} {cf : CF} (hcf : CfOk P cf) {s : SI} {t t' : T8} {h h' : Hp} (hd : zjD n s.dst = true) (e : zlG n cf s t h = some (t', h')) {K : Tm -> H -> Prop} (k : K (fn n t') h'.H) : Sstep P s (fn n t) h.H K := by
 unfold zlG at e
 unfold Sstep
 split at e
 ·cases e
 ·rename_i hg
  simp only [Option.some.injEq, Prod.mk.injEq] at e
  obtain ⟨rfl, rfl⟩ := e
  simp only [hg]
  rw [zdo hd] at k
  exact k
 ·rename_i hg
  simp only [hg]
  split at e
  ·rename_i i hi
   split at e
   ·rename_i v dd hx
    simp only [Option.some.injEq, Prod.mk.injEq] at e
    obtain ⟨rfl, rfl⟩ := e
    rw [zdo hd, Hp.app_H] at k
    simp only [hi]
    rw [show exec i (fn n t) h.H.get h.H.next = exec i (fn n t) h.tr.get h.next from rfl, hx]
    exact k
   ·cases e
  ·rename_i f args hi
   split at e
   ·rename_i v h1 hx
    simp only [Option.some.injEq, Prod.mk.injEq] at e
    obtain ⟨rfl, rfl⟩ := e
    rw [zdo hd] at k
    simp only [hi]
    refine ⟨fun v' h2 => v' = v ∧ h2 = h1.H, ⟨v, h1.H, rfl, rfl⟩, zeH hcf hx _ ⟨rfl, rfl⟩, ?_⟩
    rintro v' h2 ⟨rfl, rfl⟩
    exact k
   ·cases e
theorem zku {n : Nat} {F : List Nat} {s : SI} {m : Nat} {t : T8} {h h' : Hp} (e : zkr n F s m t h h' = true) : (m = 1 -> Keep F h.H h'.H) ∧ (m = 2 -> FootIn F s (fn n t)) := by
 unfold zkr at e
 rw [cond_eq_ite] at e
 refine ⟨fun hm => ?_, fun hm => ?_⟩
 ·subst hm
  rw [if_pos (show Nat.beq 1 1 = true from rfl), List.all_eq_true] at e
  exact fun i hi => zog (e i hi)
 ·subst hm
  rw [if_neg (by decide), cond_eq_ite, if_pos (show Nat.beq 2 2 = true from rfl)] at e
  unfold FootIn
  unfold zn0 at e
  split at e
  ·rename_i G hG
   split at hG
   ·rename_i hg
    rw [hg]
    split at hG
    ·rename_i i hi
     cases hG
     simp only [hi]
     intro k hk
     have := List.all_eq_true.1 e k hk
     simpa using this
    ·cases hG
   ·rename_i hg
    split
    ·rename_i h2; exact absurd h2 hg
    ·trivial
  ·cases e
theorem zkF {n : Nat} {cf : CF} (hcf : CfOk P cf) {F : List Nat} {K : Tm -> H -> Prop} {t1 : T8} {h1 : Hp} (hK : K (fn n t1) h1.H) : ∀ (l : List (SI × Nat)), (∀ s ∈ l, zjD n s.1.dst = true) -> ∀ (t : T8) (h : Hp), runA n cf F l t h = some (t1, h1) -> Awp P F K l (fn n t) h.H
 | [], _, t, h, e => by
  simp only [runA, Option.some.injEq, Prod.mk.injEq] at e
  obtain ⟨rfl, rfl⟩ := e
  exact hK
 | (s, m) :: l, hd, t, h, e => by
  simp only [runA] at e
  split at e
  ·rename_i t' h' hs
   rw [cond_eq_ite] at e
   split at e
   ·rename_i hc
    obtain ⟨c1, c2⟩ := zku hc
    have ih := zkF hcf hK l (fun s hs => hd s (by simp [hs])) t' h' e
    exact ⟨zlT hcf (hd (s, m) (by simp)) hs ⟨c1, ih⟩, c2⟩
   ·cases e
  ·cases e

theorem zhl {cf : CF} (hcf : CfOk P cf) (L : List Nat) : (zaC cf L).ok P := by
 intro k fn hk vals v hv h
 unfold zaC at hk
 rw [cond_eq_ite] at hk
 split at hk
 ·cases hk
  unfold plainRun at hv
  split at hv
  ·rename_i hids
   split at hv
   ·rename_i v' h1 hcall
    split at hv
    ·rename_i hvi
     cases hv
     exact zfw hids hvi (fun Q q => hcf _ _ _ _ _ hcall Q (q _)) h _ ⟨rfl, rfl⟩
    ·cases hv
   ·cases hv
  ·cases hv
 ·cases hk
theorem zjb (cf : CF) (L : List Nat) (s : SI) : (repS (zaC cf L) s).cls = (repS (zd7 L) s).cls := by
 unfold repS
 split
 ·rename_i k args hi
  cases hc : L.contains k with
  | true => simp only [zaC, zd7, hc, cond_true]; rfl
  | false => simp only [zaC, zd7, hc, cond_false]
 ·rfl
theorem zj0 {n : Nat} {cf : CF} (hcf : CfOk P cf) {L : List Nat} {d : Option Nat} {f : A} {args : List A} {K : Tm -> H -> Prop} {l : List SI} {t : T8} {h : Hp} {v : V} {h' : Hp} (e : ziC n cf L f args t h = some (v, h')) (k : Swp P K l ((fn n t).put d v) h'.H) :
  Swp P K (repS (zaC cf L) ⟨d, none, .call f args⟩ :: l) (fn n t) h.H := by
 have gen : zgh n cf f args t h = some (v, h') -> Swp P K (⟨d, none, .call f args⟩ :: l) (fn n t) h.H := fun e' => by
  simp only [Swp, Sstep, zao]
  refine ⟨fun v' h2 => v' = v ∧ h2 = h'.H, ⟨v, h'.H, rfl, rfl⟩, zeH hcf e' _ ⟨rfl, rfl⟩, ?_⟩
  rintro v' h2 ⟨rfl, rfl⟩
  exact k
 unfold ziC at e
 split at e
 ·rename_i k0
  simp only [repS]
  rw [cond_eq_ite] at e
  split at e
  ·rename_i hc
   simp only [zaC, hc, cond_true]
   simp only [zmg, zgz] at e
   split at e
   ·rename_i u hu
    simp only [Option.some.injEq, Prod.mk.injEq] at e
    obtain ⟨rfl, rfl⟩ := e
    simp only [Swp, Sstep, zao, exec, hu, zam]
    exact k
   ·cases e
  ·rename_i hc
   have hc' : L.contains k0 = false := by simpa using hc
   simp only [zaC, hc', cond_false]
   exact gen (by simpa only [zgh] using e)
 ·rename_i hne
  have hr : repS (zaC cf L) ⟨d, none, .call f args⟩ = ⟨d, none, .call f args⟩ := by
   unfold repS
   split
   ·rename_i k0 args' hi
    simp only [X.call.injEq] at hi
    exact absurd hi.1 (hne k0)
   ·rfl
  rw [hr]
  refine gen ?_
  unfold zgh
  split
  ·rename_i k0; exact absurd rfl (hne k0)
  ·exact e
theorem zmz {n : Nat} {cf : CF} (hcf : CfOk P cf) {L : List Nat} {r : Exit × T8 × Hp} {k : Kc} {K : Tm -> H -> Prop} (hk : ∀ t h, k t h = some r -> K (fn n t) h.H) : ∀ (l : List SI), okR n l = true -> ∀ (t : T8) (h : Hp), fRP n cf L l k t h = some r -> Swp P K (l.map (repS (zaC cf L))) (fn n t) h.H
 | [], _, t, h, e => hk t h e
 | ⟨d, g, x⟩ :: is, ho, t, h, e => by
  simp only [okR, List.all_cons, Bool.and_eq_true] at ho
  have ih := fun t h e => zmz hcf (L := L) hk is ho.2 t h e
  have step0 : ∀ {h' : Hp} {v : V}, fXP n cf L x t h = some (v, h') -> fRP n cf L is k (wrO n d v t) h' = some r ->
    Swp P K (repS (zaC cf L) ⟨d, none, x⟩ :: is.map (repS (zaC cf L))) (fn n t) h.H := by
   intro h' v hx hr
   have := ih _ _ hr
   rw [zdo ho.1] at this
   cases x with
   | call f args => exact zj0 hcf hx this
   | op i =>
    simp only [fXP, opS, zpF] at hx
    split at hx
    ·rename_i v1 dd hx1
     simp only [Option.some.injEq, Prod.mk.injEq] at hx
     obtain ⟨rfl, rfl⟩ := hx
     rw [Hp.app_H] at this
     have hx' : exec i (fn n t) h.H.get h.H.next = some (v1, dd) := hx1
     simp only [repS, Swp, Sstep, zao, hx']
     exact this
    ·cases hx
  have hg0 : ∀ (q : Option (Nat × Bool)), (repS (zaC cf L) ⟨d, q, x⟩).dst = d ∧ (repS (zaC cf L) ⟨d, q, x⟩).guard = q ∧ (repS (zaC cf L) ⟨d, q, x⟩).ins = (repS (zaC cf L) ⟨d, none, x⟩).ins := fun q => by
   unfold repS
   split
   ·rename_i k0 args hi
    simp only at hi
    subst hi
    simp only
    split <;> exact ⟨rfl, rfl, rfl⟩
   ·exact ⟨rfl, rfl, rfl⟩
  simp only [List.map_cons]
  cases g with
  | some p =>
   obtain ⟨g, w⟩ := p
   obtain ⟨q1, q2, q3⟩ := hg0 (some (g, w))
   obtain ⟨p1, p2, p3⟩ := hg0 none
   simp only [fRP, gK] at e
   have hrd : rd n g t = fn n t g := rfl
   rw [hrd] at e
   have off : zao (some (g, w)) (fn n t) = some false -> fRP n cf L is k (wrO n d .undef t) h = some r -> Swp P K (repS (zaC cf L) ⟨d, some (g, w), x⟩ :: is.map (repS (zaC cf L))) (fn n t) h.H := by
    intro hg hr
    have := ih _ _ hr
    rw [zdo ho.1] at this
    simp only [Swp, Sstep, q1, q2, hg]
    exact this
   have on : ∀ {h' : Hp} {v : V}, zao (some (g, w)) (fn n t) = some true -> fXP n cf L x t h = some (v, h') -> fRP n cf L is k (wrO n d v t) h' = some r -> Swp P K (repS (zaC cf L) ⟨d, some (g, w), x⟩ :: is.map (repS (zaC cf L))) (fn n t) h.H := by
    intro h' v hg hx hr
    have := step0 hx hr
    simp only [Swp, Sstep, p1, p2, zao] at this
    simp only [Swp, Sstep, q1, q2, q3, hg]
    exact this
   split at e
   ·rename_i b hb
    cases hbw : (b == w) with
    | true =>
     rw [hbw, cond_true, sK] at e
     split at e
     ·rename_i v h' hx
      exact on (by simp [zao, hb, hbw]) hx e
     ·cases e
    | false =>
     rw [hbw, cond_false] at e
     exact off (by simp [zao, hb, hbw]) e
   ·rename_i hb
    exact off (by simp [zao, hb]) e
   ·cases e
  | none =>
   cases x with
   | op i =>
    simp only [fRP, oK] at e
    split at e
    ·rename_i v hx
     exact step0 (h' := h.app .keep) (v := v) (by simp only [fXP, opS, hx]) e
    ·rename_i v dd _ hx
     exact step0 (h' := h.app dd) (v := v) (by simp only [fXP, opS, hx]) e
    ·cases e
   | call f args =>
    simp only [fRP, sK] at e
    split at e
    ·rename_i v h' hx
     exact step0 (h' := h') (v := v) hx e
    ·cases e

theorem znG {n : Nat} {body : Kc} {B : (Exit -> Tm -> H -> Prop) -> Tm -> H -> Prop} (hB : ∀ (Q : Exit -> Tm -> H -> Prop) t h e t' h', body t h = some (e, t', h') -> Q e (fn n t') h'.H -> B Q (fn n t) h.H) {m : Nat} {t : T8} {h : Hp} {e : Exit} {t' : T8} {h' : Hp}
  (hr : run8 body m t h = some (e, t', h')) {Q : Exit -> Tm -> H -> Prop} (hq : Q e (fn n t') h'.H) : zfW B Q (fn n t) h.H := by
 let R : Nat -> Tm -> H -> Prop := fun m tm hm => ∃ t h, tm = fn n t ∧ hm = h.H ∧ run8 body m t h = some (e, t', h')
 have least : ∀ tm hm, (∃ m, R m tm hm) -> ∃ m, R m tm hm ∧ ∀ k, R k tm hm -> m ≤ k := by
  intro tm hm ⟨m, hn⟩
  induction m using Nat.strongRecOn with
  | _ m ihn =>
   by_cases hex : ∃ k, k < m ∧ R k tm hm
   ·obtain ⟨k, hk, hrk⟩ := hex
    exact ihn k hk hrk
   ·exact ⟨m, hn, fun k hk => by
     rcases Nat.lt_or_ge k m with h | h
     ·exact absurd ⟨k, h, hk⟩ hex
     ·exact h⟩
 refine ⟨fun tm hm => ∃ m, R m tm hm, fun tm hm => Classical.epsilon fun m => R m tm hm ∧ ∀ k, R k tm hm -> m ≤ k, ⟨m, t, h, rfl, rfl, hr⟩, ?_⟩
 intro tm hm hI
 obtain ⟨hR, hmin⟩ := Classical.epsilon_spec (least tm hm hI)
 generalize hm0 : (Classical.epsilon fun m => R m tm hm ∧ ∀ k, R k tm hm -> m ≤ k) = q at hR hmin
 obtain ⟨t1, h1, rfl, rfl, hrun⟩ := hR
 cases q with
 | zero => cases hrun
 | succ q =>
  simp only [run8] at hrun
  split at hrun
  ·rename_i t2 h2 hb
   refine hB _ _ _ _ _ _ hb ?_
   have hI2 : ∃ m, R m (fn n t2) h2.H := ⟨q, t2, h2, rfl, rfl, hrun⟩
   refine ⟨hI2, ?_⟩
   obtain ⟨_, hmin2⟩ := Classical.epsilon_spec (least _ _ hI2)
   have := hmin2 q ⟨t2, h2, rfl, rfl, hrun⟩
   show (Classical.epsilon fun m => R m (fn n t2) h2.H ∧ ∀ k, R k (fn n t2) h2.H -> m ≤ k) < (Classical.epsilon fun m => R m (fn n t1) h1.H ∧ ∀ k, R k (fn n t1) h1.H -> m ≤ k)
   rw [hm0]; omega
  ·rename_i hne
   refine hB _ _ _ _ _ _ hrun ?_
   cases e with
   | normal => exact absurd hrun (hne _ _)
   | _ => exact hq

theorem zrJ {n : Nat} {cf : CF} (hcf : CfOk P cf) (N : Nat) : ∀ (c : C), okC n c = true -> ∀ (Q : Exit -> Tm -> H -> Prop) (t : T8) (h : Hp) (e : Exit) (t' : T8) (h' : Hp), fC n cf N c t h = some (e, t', h') -> Q e (fn n t') h'.H -> Cwp P c Q (fn n t) h.H := by
 have skip_ok : ∀ {Q : Exit -> Tm -> H -> Prop} {e : Exit} {t' : T8} {h' : Hp}, Q e (fn n t') h'.H -> ∀ t h, zak t h = some (e, t', h') -> Q .normal (fn n t) h.H := by
  intro Q e t' h' hq t h hr
  simp only [zak, Option.some.injEq, Prod.mk.injEq] at hr
  obtain ⟨rfl, rfl, rfl⟩ := hr
  exact hq
 have dreg_ok0 : ∀ {fr : List (Nat × Nat)} {ops : List SI} {k : Kc} {Q : Exit -> Tm -> H -> Prop} {r : Exit × T8 × Hp}, okR n ops = true -> (∀ t h, k t h = some r -> Q .normal (fn n t) h.H) -> ∀ t h, zi3 n cf fr ops k t h = some r -> Cwp P (.dreg fr ops) Q (fn n t) h.H := by
  intro fr ops k Q r ho hk t h hr
  simp only [zi3] at hr
  split at hr
  ·rename_i t1 h1 hd
   exact .inr (.inl (zit (K := Q .normal) hcf (hk _ _ hr) _ ho _ _ _ hd))
  ·simp only [zpH, cond_eq_ite] at hr
   split at hr
   ·rename_i hp
    split at hr
    ·rename_i F hF
     split at hr
     ·rename_i t1 h1 hd
      refine .inr (.inr (.inr (.inl ⟨F, zf5 fr ops, fun p hp' => List.all_eq_true.1 hp p hp', zkF (K := Q .normal) hcf (hk _ _ hr) _ (fun s hs => ?_) _ _ hd⟩)))
      obtain ⟨i, hi, rfl⟩ := List.mem_map.1 hs
      simp only [okR, List.all_eq_true] at ho
      have hlt : i < ops.length := by simpa using hi
      exact ho _ (by simp only [zee]; rw [List.getD_eq_getElem?_getD, List.getElem?_eq_getElem hlt]; exact List.getElem_mem hlt)
     ·cases hr
    ·cases hr
   ·cases hr
 have zgp : ∀ {fr : List (Nat × Nat)} {ops : List SI} {k : Kc} {Q : Exit -> Tm -> H -> Prop} {r : Exit × T8 × Hp}, okR n ops = true -> (∀ t h, k t h = some r -> Q .normal (fn n t) h.H) -> ∀ t h, zlX n cf fr ops k t h = some r -> Cwp P (.dreg fr ops) Q (fn n t) h.H := by
  intro fr ops k Q r ho hk t h hr
  unfold zlX at hr
  cases hL : zjH fr ops with
  | some L =>
   rw [hL] at hr
   simp only [zle] at hr
   split at hr
   ·rename_i t1 h1 hd
    refine .inr (.inr (.inl ⟨zaC cf L, zhl hcf L, fun p hp => ?_, zmz hcf (k := zak) (r := (.normal, t1, h1)) (fun t2 h2 e2 => ?_) ops ho t h hd⟩))
    ·unfold zjH at hL
     simp only [cond_eq_ite] at hL
     split at hL
     ·rename_i hall
      cases hL
      have := List.all_eq_true.1 hall p hp
      simp only [Bool.or_eq_true, beq_iff_eq] at this
      have gd : ∀ j, ((ops.map (repS (zaC cf (fr.map (ze3 ops)).flatten))).getD j default).cls = ((ops.map (repS (zd7 (fr.map (ze3 ops)).flatten))).getD j default).cls := fun j => by
       simp only [List.getD_eq_getElem?_getD, List.getElem?_map]
       cases ops[j]? with
       | none => rfl
       | some s => exact zjb _ _ _
      rw [gd, gd]
      exact this
     ·cases hL
    ·simp only [zak, Option.some.injEq, Prod.mk.injEq] at e2
     obtain ⟨_, rfl, rfl⟩ := e2
     exact hk _ _ hr
   ·exact dreg_ok0 ho hk t h hr
  | none =>
   rw [hL] at hr
   exact dreg_ok0 ho hk t h hr
 intro c
 induction c with
 | skip => intro _ Q t h e t' h' hr hq; exact skip_ok hq _ _ hr
 | reg ops => intro ho Q t h e t' h' hr hq; exact (zkP hcf (skip_ok hq) ops ho t h hr).1
 | dreg fr ops =>
  intro ho Q t h e t' h' hr hq
  cases fr with
  | nil => exact .inl ⟨rfl, (zkP hcf (skip_ok hq) ops ho t h hr).2⟩
  | cons p fr => exact zgp ho (skip_ok hq) t h hr
 | seq a b iha ihb =>
  intro ho Q t h e t' h' hr hq
  simp only [okC, Bool.and_eq_true] at ho
  have kb : ∀ t h, fC n cf N b t h = some (e, t', h') -> Cwp P b Q (fn n t) h.H := fun t h hr => ihb ho.2 Q t h e t' h' hr hq
  have gen : seqC (fC n cf N a) (fC n cf N b) t h = some (e, t', h') -> Cwp P (.seq a b) Q (fn n t) h.H := by
   intro hr
   simp only [seqC] at hr
   simp only [Cwp]
   split at hr
   ·rename_i t1 h1 ha
    exact iha ho.1 _ _ _ _ _ _ ha (kb _ _ hr)
   ·rename_i hne
    refine iha ho.1 _ _ _ _ _ _ hr ?_
    cases e with
    | normal => exact absurd hr (hne _ _)
    | _ => exact hq
  cases a with
  | reg ops => exact (zkP hcf kb ops ho.1 t h hr).1
  | dreg fr ops =>
   cases fr with
   | nil => exact .inl ⟨rfl, (zkP hcf kb ops ho.1 t h hr).2⟩
   | cons p fr => exact zgp (Q := zfo (Cwp P b Q) Q) ho.1 kb t h hr
  | _ => exact gen hr
 | cond c a b iha ihb =>
  intro ho Q t h e t' h' hr hq
  simp only [okC, Bool.and_eq_true] at ho
  simp only [fC, zap, zbn] at hr
  simp only [Cwp]
  split at hr
  ·rename_i x hx
   simp only [zeq, hx]
   cases x with
   | true => exact ⟨fun _ => iha ho.1 _ _ _ _ _ _ hr hq, fun h => by cases h⟩
   | false => exact ⟨fun h => (by cases h), fun _ => ihb ho.2 _ _ _ _ _ _ hr hq⟩
  ·cases hr
 | block id b ih =>
  intro ho Q t h e t' h' hr hq
  simp only [fC, zaY] at hr
  simp only [Cwp]
  split at hr
  ·rename_i i t1 h1 hb
   refine ih ho _ _ _ _ _ _ hb ?_
   simp only [zcF]
   cases hi : Nat.beq i id with
   | true =>
    rw [hi] at hr
    rw [if_pos (Nat.eq_of_beq_eq_true hi)]
    simp only [Option.some.injEq, Prod.mk.injEq] at hr
    obtain ⟨rfl, rfl, rfl⟩ := hr
    exact hq
   | false =>
    rw [hi] at hr
    rw [if_neg (fun e => by rw [e, Nat.beq_refl] at hi; cases hi)]
    simp only [Option.some.injEq, Prod.mk.injEq] at hr
    obtain ⟨rfl, rfl, rfl⟩ := hr
    exact hq
  ·rename_i hne
   refine ih ho _ _ _ _ _ _ hr ?_
   cases e with
   | exit i => exact absurd hr (hne _ _ _)
   | _ => exact hq
 | loop b ih =>
  intro ho Q t h e t' h' hr hq
  exact znG (fun Q t h e t' h' hr hq => ih ho Q t h e t' h' hr hq) hr hq
 | exit id =>
  intro _ Q t h e t' h' hr hq
  simp only [fC, zeV, Option.some.injEq, Prod.mk.injEq] at hr
  obtain ⟨rfl, rfl, rfl⟩ := hr
  exact hq
 | ret =>
  intro _ Q t h e t' h' hr hq
  simp only [fC, retC, Option.some.injEq, Prod.mk.injEq] at hr
  obtain ⟨rfl, rfl, rfl⟩ := hr
  exact hq

def resC (rs : List (Ar × Option (Bool × Nat))) (t : T8) (g : Nat -> Option O) : Option (List V) :=
 match rs with
 | [] => some []
 | (a, none) :: rs => match resC rs t g with
  | some vs => some (a t :: vs)
  | none => none
 | (a, some (agg, n)) :: rs => match zdj g agg n (a t) with
  | some v => match resC rs t g with
   | some vs => some (v :: vs)
   | none => none
  | none => none
def fRes (n : Nat) : List RV -> List (Ar × Option (Bool × Nat))
 | [] => []
 | .tmp k :: rs => (rd n k, none) :: fRes n rs
 | .cell k agg m :: rs => (rd n k, some (agg, m)) :: fRes n rs
theorem zhI (n : Nat) (t : T8) (g : Nat -> Option O) : ∀ rs : List RV, resC (fRes n rs) t g = zbL g (fn n t) rs
 | [] => rfl
 | .tmp k :: rs => by simp only [fRes, resC, zhI n t g rs, zbL, resV]; rfl
 | .cell k agg m :: rs => by
  simp only [fRes, resC, zhI n t g rs, zbL, resV]
  rfl

structure SF8 where
 n : Nat
 N : Nat
 res : List (Ar × Option (Bool × Nat))
 body : CF -> Nat -> Kc
def znV (P : Program) (fn : Func) (n : Nat) : Option SF8 :=
 match zac P fn with
 | some sf => cond (Nat.ble sf.N (zeo n) && okC n sf.body) (some ⟨n, sf.N, fRes n sf.results, fun cf N => fC n cf N sf.body⟩) none
 | none => none
def Tab8 (P : Program) (k : Nat) (s : SF8) : Prop := (∃ fn, P.funcs[k]? = some fn ∧ znV P fn s.n = some s) ∧ zaa P k = true
theorem ziG {P : Program} {fn : Func} {n : Nat} {s : SF8} (h : znV P fn n = some s) : ∃ sf, zac P fn = some sf ∧ s.n = n ∧ s.N = sf.N ∧ Nat.ble sf.N (zeo n) = true ∧ okC n sf.body = true ∧ s.res = fRes n sf.results ∧ ∀ cf N, s.body cf N = fC n cf N sf.body := by
 unfold znV at h
 split at h
 ·rename_i sf hsf
  rw [cond_eq_ite] at h
  split at h
  ·rename_i hc
   simp only [Bool.and_eq_true] at hc
   cases h
   exact ⟨sf, hsf, rfl, rfl, hc.1, hc.2, rfl, fun _ _ => rfl⟩
  ·cases h
 ·cases h

end Fr
end Go.Am
