/-
 AM, PART 12. The walk: rules for simp, and what simp must leave alone.
-/
import Derived.Test.YtpgcodeckphanaaGreatDoorEAm11
namespace Go.Am

@[simp] theorem Tm.put_some (t : Tm) (d k : Nat) (v : V) : (t.put (some d) v) k = if k = d then v else t k := _root_.id rfl
@[simp] theorem Tm.put_none (t : Tm) (v : V) : t.put none v = t := _root_.id rfl
@[simp] theorem zlG (args : List V) (k : Nat) : zea args k = (args[k]?).getD .undef := _root_.id rfl
@[simp] theorem A.ev_t (t : Nat -> V) (i : Nat) : A.ev t (.t i) = t i := _root_.id rfl
@[simp] theorem A.ev_c (t : Nat -> V) (v : V) : A.ev t (.c v) = v := _root_.id rfl

variable {P : Program}
def opK (P : Program) (K : Tm -> H -> Prop) (d : Option Nat) (is : List SI) (t : Tm) (h : H) (r : Option (V × D)) : Prop :=
 match r with
 | some (v, dd) => Owp P K is (t.put d v) (h.app dd)
 | none => False
@[simp] theorem zqy (K : Tm -> H -> Prop) (d : Option Nat) (is : List SI) (t : Tm) (h : H) (v : V) (dd : D) : opK P K d is t h (some (v, dd)) = Owp P K is (t.put d v) (h.app dd) := _root_.id rfl
def zb2 (P : Program) (K : Tm -> H -> Prop) (w : Bool) (d : Option Nat) (x : X) (is : List SI) (t : Tm) (h : H) (g : V) : Prop :=
 match g with
 | .bool b => if (b == w) = true then Owp P K (⟨d, none, x⟩ :: is) t h else Owp P K is (t.put d .undef) h
 | .tup [] => Owp P K is (t.put d .undef) h
 | _ => False
section
variable (K : Tm -> H -> Prop) (d : Option Nat) (x : X) (is : List SI) (t : Tm) (h : H)
@[simp] theorem zol : zb2 P K true d x is t h (.bool true) = Owp P K (⟨d, none, x⟩ :: is) t h := by simp [zb2]
@[simp] theorem zoF : zb2 P K false d x is t h (.bool false) = Owp P K (⟨d, none, x⟩ :: is) t h := by simp [zb2]
@[simp] theorem zoB : zb2 P K false d x is t h (.bool true) = Owp P K is (t.put d .undef) h := by simp [zb2]
@[simp] theorem zpC : zb2 P K true d x is t h (.bool false) = Owp P K is (t.put d .undef) h := by simp [zb2]
@[simp] theorem zlU (w : Bool) : zb2 P K w d x is t h .undef = Owp P K is (t.put d .undef) h := _root_.id rfl
@[simp] theorem zlB (w : Bool) : zb2 P K w d x is t h (.tup []) = Owp P K is (t.put d .undef) h := _root_.id rfl
end
def retK (P : Program) (K : Tm -> H -> Prop) (d : Option Nat) (is : List SI) (t : Tm) (v : V) (h : H) : Prop := Owp P K is (t.put d v) h
@[simp] theorem zrc (K : Tm -> H -> Prop) (d : Option Nat) (is : List SI) (t : Tm) (v : V) (h : H) : retK P K d is t v h = Owp P K is (t.put d v) h := _root_.id rfl
def zin (P : Program) (f : V) (args : List V) (h : H) (Q : V -> H -> Prop) : Prop := zdp P f args h Q
@[simp] theorem znJ (g : FuncId) (first cap args : List V) (h : H) (Q : V -> H -> Prop) : zin P (.func (.func g) first cap) args h Q = Acalls P g (first ++ args ++ cap) h Q := _root_.id rfl
@[simp] theorem zqd (i : Nat) (args : List V) (h : H) (Q : V -> H -> Prop) : zin P (.yl i) args h Q = Ayields P i args h Q := _root_.id rfl
@[simp] theorem znd (args : List V) (h : H) (Q : V -> H -> Prop) : zin P (.sl 0 0 0 1 (some 0)) args h Q = zl4 args h Q := _root_.id rfl
@[simp] theorem zog (args : List V) (h : H) (Q : V -> H -> Prop) : zin P (.sl 0 0 0 2 (some 0)) args h Q = zoM args h Q := _root_.id rfl
@[simp] theorem zmA (args : List V) (h : H) (Q : V -> H -> Prop) : zin P (.sl 0 0 0 3 (some 0)) args h Q = zme args h Q := _root_.id rfl

variable {K : Tm -> H -> Prop}
@[simp] theorem zq4 (t : Tm) (h : H) : Owp P K [] t h = K t h := _root_.id rfl
@[simp] theorem zrn (d : Option Nat) (i : I) (is : List SI) (t : Tm) (h : H) : Owp P K (⟨d, none, .op i⟩ :: is) t h = opK P K d is t h (exec i t h.get h.next) := by
 simp only [Owp, zan, opK]
 split <;> rename_i e <;> simp only [e]
@[simp] theorem zox (d : Option Nat) (g : Nat) (w : Bool) (x : X) (is : List SI) (t : Tm) (h : H) : Owp P K (⟨d, some (g, w), x⟩ :: is) t h = zb2 P K w d x is t h (t g) := by
 simp only [Owp, zan, zb2]
 split
 ·rename_i e
  split at e <;> first | (cases e; done) | skip
  rename_i _ h1 h2
  split
  ·rename_i e'; exact absurd e' (h1 _)
  ·rename_i e'; exact absurd e' h2
  ·rfl
 ·rename_i e
  split at e
  ·rename_i b hb
   simp only [Option.some.injEq] at e
   rw [hb]
   simp [e]
  ·rename_i hb; rw [hb]
  ·cases e
 ·rename_i e
  split at e
  ·rename_i b hb
   simp only [Option.some.injEq] at e
   rw [hb]
   simp [e]
  ·cases e
  ·cases e
@[simp] theorem zqj (d : Option Nat) (f : A) (args : List A) (is : List SI) (t : Tm) (h : H) : Owp P K (⟨d, none, .call f args⟩ :: is) t h = zin P (f.ev t) (args.map (·.ev t)) h (retK P K d is t) := _root_.id rfl

variable {Q : Exit -> Tm -> H -> Prop}
def zi7 (P : Program) (Q : Exit -> Tm -> H -> Prop) (a b : C) (t : Tm) (h : H) (c : V) : Prop := zem c (Cwp P a Q t h) (Cwp P b Q t h)
@[simp] theorem zqe (t : Tm) (h : H) : Cwp P .skip Q t h = Q .normal t h := _root_.id rfl
@[simp] theorem zq3 (ops : List SI) (t : Tm) (h : H) : Cwp P (.reg ops) Q t h = Owp P (Q .normal) ops t h := _root_.id rfl
@[simp] theorem zqJ (a b : C) (t : Tm) (h : H) : Cwp P (.seq a b) Q t h = Cwp P a (ze9 (Cwp P b Q) Q) t h := _root_.id rfl
@[simp] theorem zqH (c : A) (a b : C) (t : Tm) (h : H) : Cwp P (.cond c a b) Q t h = zi7 P Q a b t h (c.ev t) := _root_.id rfl
@[simp] theorem zos (id : Nat) (b : C) (t : Tm) (h : H) : Cwp P (.block id b) Q t h = Cwp P b (zcA id Q) t h := _root_.id rfl
@[simp] theorem zqG (b : C) (t : Tm) (h : H) : Cwp P (.loop b) Q t h = zeT (Cwp P b) Q t h := _root_.id rfl
@[simp] theorem zqt (id : Nat) (t : Tm) (h : H) : Cwp P (.exit id) Q t h = Q (.exit id) t h := _root_.id rfl
@[simp] theorem zrf (t : Tm) (h : H) : Cwp P .ret Q t h = Q .ret t h := _root_.id rfl
@[simp] theorem zoe (a b : C) (t : Tm) (h : H) : zi7 P Q a b t h (.bool true) = Cwp P a Q t h := by simp [zi7, zem]
@[simp] theorem znn (a b : C) (t : Tm) (h : H) : zi7 P Q a b t h (.bool false) = Cwp P b Q t h := by simp [zi7, zem]
@[simp] theorem zmd (next : Tm -> H -> Prop) (t : Tm) (h : H) : ze9 next Q .normal t h = next t h := _root_.id rfl
@[simp] theorem zpn (next : Tm -> H -> Prop) (t : Tm) (h : H) : ze9 next Q .ret t h = Q .ret t h := _root_.id rfl
@[simp] theorem zn5 (next : Tm -> H -> Prop) (i : Nat) (t : Tm) (h : H) : ze9 next Q (.exit i) t h = Q (.exit i) t h := _root_.id rfl
@[simp] theorem zkv (id : Nat) (t : Tm) (h : H) : zcA id Q .normal t h = Q .normal t h := _root_.id rfl
@[simp] theorem zof (id : Nat) (t : Tm) (h : H) : zcA id Q .ret t h = Q .ret t h := _root_.id rfl
@[simp] theorem znx (id i : Nat) (t : Tm) (h : H) : zcA id Q (.exit i) t h = if i = id then Q .normal t h else Q (.exit i) t h := _root_.id rfl
theorem zcD {ops : List SI} {t : Tm} {h : H} (c : Swp P (Q .normal) ops t h) : Cwp P (.dreg [] ops) Q t h := .inl ⟨rfl, c⟩
def sopK (P : Program) (K : Tm -> H -> Prop) (d : Option Nat) (is : List SI) (t : Tm) (h : H) (r : Option (V × D)) : Prop :=
 match r with
 | some (v, dd) => Swp P K is (t.put d v) (h.app dd)
 | none => False
@[simp] theorem zpu (K : Tm -> H -> Prop) (d : Option Nat) (is : List SI) (t : Tm) (h : H) (v : V) (dd : D) : sopK P K d is t h (some (v, dd)) = Swp P K is (t.put d v) (h.app dd) := _root_.id rfl
def zbF (P : Program) (K : Tm -> H -> Prop) (w : Bool) (d : Option Nat) (x : X) (is : List SI) (t : Tm) (h : H) (g : V) : Prop :=
 match g with
 | .bool b => if (b == w) = true then Swp P K (⟨d, none, x⟩ :: is) t h else Swp P K is (t.put d .undef) h
 | .tup [] => Swp P K is (t.put d .undef) h
 | _ => False
def zlE (P : Program) (K : Tm -> H -> Prop) (d : Option Nat) (is : List SI) (t : Tm) (h : H) (f : V) (args : List V) : Prop :=
 ∃ Q' : V -> H -> Prop, (∃ v h', Q' v h') ∧ zdp P f args h Q' ∧ ∀ v h', Q' v h' -> Swp P K is (t.put d v) h'
section
variable (K : Tm -> H -> Prop) (d : Option Nat) (x : X) (is : List SI) (t : Tm) (h : H)
@[simp] theorem zqX : Swp P K [] t h = K t h := _root_.id rfl
@[simp] theorem zoa : zbF P K true d x is t h (.bool true) = Swp P K (⟨d, none, x⟩ :: is) t h := by simp [zbF]
@[simp] theorem zn7 : zbF P K false d x is t h (.bool false) = Swp P K (⟨d, none, x⟩ :: is) t h := by simp [zbF]
@[simp] theorem znT : zbF P K false d x is t h (.bool true) = Swp P K is (t.put d .undef) h := by simp [zbF]
@[simp] theorem zn0 : zbF P K true d x is t h (.bool false) = Swp P K is (t.put d .undef) h := by simp [zbF]
@[simp] theorem zkz (w : Bool) : zbF P K w d x is t h .undef = Swp P K is (t.put d .undef) h := _root_.id rfl
@[simp] theorem zkn (w : Bool) : zbF P K w d x is t h (.tup []) = Swp P K is (t.put d .undef) h := _root_.id rfl
@[simp] theorem zrm (i : I) : Swp P K (⟨d, none, .op i⟩ :: is) t h = sopK P K d is t h (exec i t h.get h.next) := by
 simp only [Swp, Sstep, zan, sopK]
 split <;> rename_i e <;> simp only [e]
@[simp] theorem zo4 (g : Nat) (w : Bool) : Swp P K (⟨d, some (g, w), x⟩ :: is) t h = zbF P K w d x is t h (t g) := by
 simp only [Swp, Sstep, zan, zbF]
 split
 ·rename_i e
  split at e <;> first | (cases e; done) | skip
  rename_i _ h1 h2
  split
  ·rename_i e'; exact absurd e' (h1 _)
  ·rename_i e'; exact absurd e' h2
  ·rfl
 ·rename_i e
  split at e
  ·rename_i b hb
   simp only [Option.some.injEq] at e
   rw [hb]
   simp [e]
  ·rename_i hb; rw [hb]
  ·cases e
 ·rename_i e
  split at e
  ·rename_i b hb
   simp only [Option.some.injEq] at e
   rw [hb]
   simp [e]
  ·cases e
  ·cases e
@[simp] theorem zpQ (f : A) (args : List A) : Swp P K (⟨d, none, .call f args⟩ :: is) t h = zlE P K d is t h (f.ev t) (args.map (·.ev t)) := _root_.id rfl
end
theorem zfJ {K : Tm -> H -> Prop} {d : Option Nat} {is : List SI} {t : Tm} {h : H} {g : FuncId} {first cap args : List V} {v : V} {h' : H} (c : ∀ Q : V -> H -> Prop, Q v h' -> Acalls P g (first ++ args ++ cap) h Q) (k : Swp P K is (t.put d v) h') : zlE P K d is t h (.func (.func g) first cap) args :=
 ⟨fun u h2 => u = v ∧ h2 = h', ⟨v, h', rfl, rfl⟩, c _ ⟨rfl, rfl⟩, by rintro u h2 ⟨rfl, rfl⟩; exact k⟩
def resK (r : Option (List V)) (h : H) (Q : V -> H -> Prop) : Prop :=
 match r with
 | some vs => Q (tupV vs) h
 | none => False
@[simp] theorem zpB (vs : List V) (h : H) (Q : V -> H -> Prop) : resK (some vs) h Q = Q (tupV vs) h := _root_.id rfl
@[simp] theorem zna (rs : List RV) (R : V -> H -> Prop) (t : Tm) (h : H) : zdn rs R .ret t h = resK (zbH h.get t rs) h R := _root_.id rfl
@[simp] theorem zkl (rs : List RV) (R : V -> H -> Prop) (t : Tm) (h : H) : zdn rs R .normal t h = resK (zbH h.get t rs) h R := _root_.id rfl
@[simp] theorem zo5 (g : Nat -> Option O) (t : Tm) : zbH g t [] = some [] := _root_.id rfl
@[simp] theorem zoA (g : Nat -> Option O) (t : Tm) (k : Nat) (rs : List RV) : zbH g t (.tmp k :: rs) = (zbH g t rs).map (t k :: ·) := by
 simp only [zbH, resV]; cases zbH g t rs <;> rfl
@[simp] theorem znX (g : Nat -> Option O) (t : Tm) (k n : Nat) (a : Bool) (rs : List RV) : zbH g t (.cell k a n :: rs) = (zdd g a n (t k)).bind fun v => (zbH g t rs).map (v :: ·) := by
 simp only [zbH, resV]; cases zdd g a n (t k) with
 | none => rfl
 | some v => simp only [Option.bind_some]; cases zbH g t rs <;> rfl
@[simp] theorem zqv : tupV [] = .tup [] := _root_.id rfl
@[simp] theorem zpV (v : V) : tupV [v] = v := _root_.id rfl
@[simp] theorem zqD (v u : V) (vs : List V) : tupV (v :: u :: vs) = .tup (v :: u :: vs) := _root_.id rfl

@[simp] theorem zm7 (v : V) : zal (some v) = some (v, .keep) := _root_.id rfl
def zh7 (off : Nat) : V -> Option V
 | .ptr i n o => some (.ptr i n (o + off))
 | .gp g o => some (.gp g (o + off))
 | _ => none
def zj1 (agg : Bool) (off n : Nat) : V -> Option V
 | .agg cs => zbS agg off n cs
 | _ => none
def zmy (i : Nat) : V -> Option V
 | .tup vs => vs[i]?
 | _ => none
def cidV : V -> Option V
 | .str s => some (.str s)
 | _ => none
def boxV (next : Nat) (v : V) : Option (V × D) := if v.solid then some (.ptr next v.cells.length 0, .push (.row v.cells)) else none
def mapD (d : Option D) : Option (V × D) := d.map fun d => (.undef, d)
section
variable (t : Nat -> V) (g : Nat -> Option O) (n : Nat)
@[simp] theorem zpZ (x : A) : exec (.mov x) t g n = some (x.ev t, .keep) := _root_.id rfl
@[simp] theorem zpK (c a b : A) : exec (.pick c a b) t g n = zal (zgw (c.ev t) (a.ev t) (b.ev t)) := _root_.id rfl
@[simp] theorem zn6 (z : List V) : exec (.alloc z) t g n = some (.ptr n z.length 0, .push (.row z)) := _root_.id rfl
@[simp] theorem zpT (x : A) : exec (.box x) t g n = boxV n (x.ev t) := _root_.id rfl
@[simp] theorem zlK (ty : TypeId) (x : A) : exec (.mkIface ty x) t g n = some (.iface ty (x.ev t), .keep) := _root_.id rfl
@[simp] theorem znN (z : List V) (ps : List (Nat × Nat × A)) : exec (.build z ps) t g n = zal ((zcB z (ps.map fun (o, n, x) => (o, n, x.ev t))).map .agg) := _root_.id rfl
@[simp] theorem zkh (sz len : Nat) (z : List V) (ps : List (Nat × A)) : exec (.buildSlice sz len z ps) t g n = (zcB (zaq len z) (ps.map fun (k, x) => (k * sz, sz, x.ev t))).map fun cs => (.sl n (len * sz) 0 len (some len), .push (.row cs)) := _root_.id rfl
@[simp] theorem zpb (a : Bool) (m : Nat) (x : A) : exec (.load a m x) t g n = zal (zdd g a m (x.ev t)) := _root_.id rfl
@[simp] theorem znH (m : Nat) (a x : A) : exec (.store m a x) t g n = mapD (zdE g m (a.ev t) (x.ev t)) := _root_.id rfl
@[simp] theorem zmU (x : A) : exec (.nilchk x) t g n = zal (zcM (x.ev t)) := _root_.id rfl
@[simp] theorem zqx (op : BinOp) (x y : A) : exec (.bin op x y) t g n = zal (binV op (x.ev t) (y.ev t)) := _root_.id rfl
@[simp] theorem zqZ (b : Bool) (ts : TS) (x y : A) : exec (.eq b ts x y) t g n = zal ((eqV ts (x.ev t) (y.ev t)).map fun r => .bool (if b then !r else r)) := _root_.id rfl
@[simp] theorem zq0 (op : UnOp) (x : A) : exec (.un op x) t g n = zal (unV op (x.ev t)) := _root_.id rfl
@[simp] theorem zlN (k : IntKind) (x : A) : exec (.convInt k x) t g n = zal ((zf7 (x.ev t)).map fun m => .int k (k.wrap m)) := _root_.id rfl
@[simp] theorem zm2 (x : A) : exec (.convId x) t g n = zal (cidV (x.ev t)) := by simp only [exec, cidV]; cases x.ev t <;> rfl
@[simp] theorem znU (x : A) : exec (.strOf x) t g n = zal (zed g (x.ev t)) := _root_.id rfl
@[simp] theorem zko (o : Nat) (x : A) : exec (.fieldAddr o x) t g n = zal (zh7 o (x.ev t)) := by simp only [exec, zh7]; cases x.ev t <;> rfl
@[simp] theorem zoj (a : Bool) (o m : Nat) (x : A) : exec (.field a o m x) t g n = zal (zj1 a o m (x.ev t)) := by simp only [exec, zj1]; cases x.ev t <;> rfl
@[simp] theorem zkk (s : Nat) (x i : A) : exec (.indexAddr s x i) t g n = zal (zaz s (x.ev t) (i.ev t)) := _root_.id rfl
@[simp] theorem zix (l s : Nat) (x i : A) : exec (.indexAddrArr l s x i) t g n = zal (za1 l s (x.ev t) (i.ev t)) := _root_.id rfl
@[simp] theorem zpR (e : StIn) (x y : A) : exec (.ext e x y) t g n = zal (extV e (x.ev t) (y.ev t)) := _root_.id rfl
@[simp] theorem zoi (s : List UInt8) (c : Int) : extV .indexByte (.str s) (.int .u8 c) = some (.int .i64 (Go.Lib.indexByte s c.toNat.toUInt8)) := _root_.id rfl
@[simp] theorem znQ (s : List UInt8) (c : Int) : extV .count (.str s) (.int .u8 c) = some (.int .i64 (Go.Lib.countByte s c.toNat.toUInt8 : Nat)) := _root_.id rfl
@[simp] theorem zlH (s u : List UInt8) : extV .compare (.str s) (.str u) = some (.int .i64 (Go.Lib.compareBytes s u)) := _root_.id rfl
@[simp] theorem zn4 (k : Nat) (fn : List V -> Option V) (args : List A) : exec (.pcall k fn args) t g n = zal (fn (args.map (·.ev t))) := _root_.id rfl
@[simp] theorem zkL (x i : A) : exec (.indexStr x i) t g n = zal (zbL (x.ev t) (i.ev t)) := _root_.id rfl
@[simp] theorem zkr (a : Bool) (l s : Nat) (x i : A) : exec (.indexArr a l s x i) t g n = zal (zcQ a l s (x.ev t) (i.ev t)) := _root_.id rfl
@[simp] theorem zk6 (x : A) (lo hi : Option A) : exec (.sliceStr x lo hi) t g n = zal (zbM (lo.map (·.ev t)) (hi.map (·.ev t)) (x.ev t)) := _root_.id rfl
@[simp] theorem zps (s : Nat) (x hi : A) : exec (.resl s x hi) t g n = zal ((zaw s none (some (hi.ev t)) none (x.ev t)).or (ziH g s (hi.ev t) (x.ev t))) := _root_.id rfl
@[simp] theorem zmf (s : Nat) (x : A) (lo hi mx : Option A) : exec (.sliceSl s x lo hi mx) t g n = zal (zaw s (lo.map (·.ev t)) (hi.map (·.ev t)) (mx.map (·.ev t)) (x.ev t)) := _root_.id rfl
@[simp] theorem zlp (l s : Nat) (x : A) (lo hi mx : Option A) : exec (.sliceArr l s x lo hi mx) t g n = zal (zeX l s (lo.map (·.ev t)) (hi.map (·.ev t)) (mx.map (·.ev t)) (x.ev t)) := _root_.id rfl
@[simp] theorem zkm (s b : Nat) (z : List V) (l c : A) : exec (.makeSlice s b z l c) t g n = zcV n s b z (l.ev t) (c.ev t) := _root_.id rfl
@[simp] theorem zkP (f : Fn) (a c : List A) : exec (.makeFunc f a c) t g n = some (.func f (a.map (·.ev t)) (c.map (·.ev t)), .keep) := _root_.id rfl
@[simp] theorem zmh (x : A) (i : Nat) : exec (.extract x i) t g n = zal (zmy i (x.ev t)) := by simp only [exec, zmy]; cases x.ev t <;> rfl
@[simp] theorem zpW (k : Nat) (x : A) : exec (.len k x) t g n = zal (lenV k g (x.ev t)) := _root_.id rfl
@[simp] theorem zmX (s b : Nat) (x y : A) : exec (.append s b x y) t g n = zax g n s b (x.ev t) (y.ev t) := _root_.id rfl
@[simp] theorem zmz (m : Bool) (x : A) (r : List A) : exec (.minmax m x r) t g n = zal (minmaxV m (x.ev t) (r.map (·.ev t))) := _root_.id rfl
@[simp] theorem zlZ : exec .makeMap t g n = some (.map n, .push (.mapo [] [] 0)) := _root_.id rfl
@[simp] theorem zmw (kd : KD) (z : V) (ok : Bool) (x k : A) : exec (.lookup kd z ok x k) t g n = zal (zcn g kd z ok (x.ev t) (k.ev t)) := _root_.id rfl
@[simp] theorem znj (kd : KD) (x k v : A) : exec (.mapSet kd x k v) t g n = mapD (zb6 g kd (x.ev t) (k.ev t) (v.ev t)) := _root_.id rfl
@[simp] theorem zng (kd : KD) (x k : A) : exec (.mapDel kd x k) t g n = mapD (zb7 g kd (x.ev t) (k.ev t)) := _root_.id rfl
@[simp] theorem zpq (s : Nat) (d x : A) : exec (.copy s d x) t g n = zg5 g s (d.ev t) (x.ev t) := _root_.id rfl
@[simp] theorem zl2 (s : Nat) (z : List V) (x : A) : exec (.clearSl s z x) t g n = mapD (zcm g z (x.ev t)) := _root_.id rfl
@[simp] theorem zlb (x : A) : exec (.clearMap x) t g n = mapD (zbw g (x.ev t)) := _root_.id rfl
end
@[simp] theorem zon (d : D) : mapD (some d) = some (.undef, d) := _root_.id rfl
@[simp] theorem zqm (h : H) : h.app .keep = h := _root_.id rfl
@[simp] theorem zeG (h : H) (i : Nat) (o : O) : h.app (.set i o) = h.set i o := _root_.id rfl
@[simp] theorem zdF (h : H) (o : O) : h.app (.push o) = h.push o := _root_.id rfl
@[simp] theorem zoq (off g o : Nat) : zh7 off (.gp g o) = some (.gp g (o + off)) := _root_.id rfl
@[simp] theorem zn2 (off i n o : Nat) : zh7 off (.ptr i n o) = some (.ptr i n (o + off)) := _root_.id rfl
@[simp] theorem znF (a : Bool) (o n : Nat) (cs : List V) : zj1 a o n (.agg cs) = zbS a o n cs := _root_.id rfl
@[simp] theorem znW (o n : Nat) (cs : List V) : zbS true o n cs = some (.agg ((cs.drop o).take n)) := _root_.id rfl
@[simp] theorem znw (o n : Nat) (cs : List V) : zbS false o n cs = cs[o]? := _root_.id rfl
@[simp] theorem zpG (i : Nat) (vs : List V) : zmy i (.tup vs) = vs[i]? := _root_.id rfl
@[simp] theorem zqg (s : List UInt8) : cidV (.str s) = some (.str s) := _root_.id rfl
@[simp] theorem zqu (n : Nat) (cs : List V) : boxV n (.agg cs) = if cs.all V.one then some (.ptr n cs.length 0, .push (.row cs)) else none := _root_.id rfl
@[simp] theorem zp7 (n : Nat) (k : IntKind) (x : Int) : boxV n (.int k x) = some (.ptr n 1 0, .push (.row [.int k x])) := _root_.id rfl
@[simp] theorem zqw (n : Nat) (s : List UInt8) : boxV n (.str s) = some (.ptr n 1 0, .push (.row [.str s])) := _root_.id rfl
@[simp] theorem zoY (n : Nat) (b : Bool) : boxV n (.bool b) = some (.ptr n 1 0, .push (.row [.bool b])) := _root_.id rfl
@[simp] theorem zob (a b : V) : zgw (.bool true) a b = some a := _root_.id rfl
@[simp] theorem znz (a b : V) : zgw (.bool false) a b = some b := _root_.id rfl
@[simp] theorem zop (c d : Bool) : zgw (.bool c) (.bool d) (.bool false) = some (.bool (c && d)) := by cases c <;> rfl
@[simp] theorem zp2 (c d : Bool) : zgw (.bool c) (.bool true) (.bool d) = some (.bool (c || d)) := by cases c <;> rfl
@[simp] theorem zmo (i n o : Nat) : zcM (.ptr i n o) = some (.ptr i n o) := _root_.id rfl
@[simp] theorem zoc (g o : Nat) : zcM (.gp g o) = some (.gp g o) := _root_.id rfl
@[simp] theorem zl5 (f : FuncId) (a b : List V) : zcM (.func (.func f) a b) = some (.func (.func f) a b) := _root_.id rfl
@[simp] theorem znL (k : IntKind) (n : Int) : zf7 (.int k n) = some n := _root_.id rfl
@[simp] theorem zpS (op : BinOp) (a b : List UInt8) : binV op (.str a) (.str b) = strV op a b := _root_.id rfl
@[simp] theorem zpU (op : BinOp) (k k' : IntKind) (a b : Int) : binV op (.int k a) (.int k' b) = if zcH op then zdj op k a b else if k = k' then intV op k a b else none := _root_.id rfl
attribute [simp] zcH
@[simp] theorem zql (x y : List UInt8) : strV .add x y = if x.length + y.length ≤ 9223372036854775807 then some (.str (x ++ y)) else none := _root_.id rfl
@[simp] theorem zqE (x y : List UInt8) : strV .eql x y = some (.bool (x == y)) := _root_.id rfl
@[simp] theorem zp9 (x y : List UInt8) : strV .neq x y = some (.bool (!(x == y))) := _root_.id rfl
@[simp] theorem zpO (x y : List UInt8) : strV .lss x y = some (.bool (Op.bytesLess x y)) := _root_.id rfl
@[simp] theorem zqU (b : Bool) : unV .not (.bool b) = some (.bool (!b)) := _root_.id rfl
@[simp] theorem zri (k : IntKind) (n : Int) : unV .neg (.int k n) = some (.int k (k.wrap (0 - n))) := _root_.id rfl
@[simp] theorem zoD (cs : List V) : zcB cs [] = some cs := _root_.id rfl
@[simp] theorem znY (cs : List V) (o n : Nat) (v : V) (r : List (Nat × Nat × V)) : zcB cs ((o, n, v) :: r) = if v.solid && v.cells.length == n && decide (o + n ≤ cs.length) then zcB (putCells cs o v.cells) r else none := _root_.id rfl
@[simp] theorem zoE (k : IntKind) (n : Int) : (V.int k n).solid = true := _root_.id rfl
@[simp] theorem znZ (b : Bool) : (V.bool b).solid = true := _root_.id rfl
@[simp] theorem zoZ (s : List UInt8) : (V.str s).solid = true := _root_.id rfl
@[simp] theorem znr : V.nilsl.solid = true := _root_.id rfl
@[simp] theorem zpk (cs : List V) : (V.agg cs).solid = cs.all V.one := _root_.id rfl
@[simp] theorem zo9 (cs : List V) : (V.agg cs).cells = cs := _root_.id rfl
@[simp] theorem zpt (k : IntKind) (n : Int) : (V.int k n).cells = [.int k n] := _root_.id rfl
@[simp] theorem zn9 (b : Bool) : (V.bool b).cells = [.bool b] := _root_.id rfl
@[simp] theorem zpc (s : List UInt8) : (V.str s).cells = [.str s] := _root_.id rfl
@[simp] theorem zmK : V.nilsl.cells = [.nilsl] := _root_.id rfl
@[simp] theorem zqr (i n o l : Nat) (c : Option Nat) : (V.sl i n o l c).cells = [.sl i n o l c] := _root_.id rfl
@[simp] theorem zqY (k : IntKind) (n : Int) : (V.int k n).one = true := _root_.id rfl
@[simp] theorem zp6 (b : Bool) : (V.bool b).one = true := _root_.id rfl
@[simp] theorem zqK (s : List UInt8) : (V.str s).one = true := _root_.id rfl
@[simp] theorem zoX : V.nilsl.one = true := _root_.id rfl
@[simp] theorem zqW : V.slz.one = true := _root_.id rfl
@[simp] theorem zro (i n o l : Nat) (c : Option Nat) : (V.sl i n o l c).one = true := _root_.id rfl
@[simp] theorem zqR (i n o : Nat) : (V.ptr i n o).one = true := _root_.id rfl
theorem zbd {v : V} (h : v.one = true) : v.cells = [v] := by cases v <;> first | rfl | cases h
theorem zbc {v : V} (h : v.one = true) : v.solid = true := by cases v <;> first | rfl | cases h
@[simp] theorem zo3 (g : Nat -> Option O) (a : Bool) (n i m o : Nat) : zdd g a n (.ptr i m o) = (zab g i m).bind fun cs => if a then (if o + n ≤ cs.length then some (.agg ((cs.drop o).take n)) else none) else cs[o]? := by
 simp only [zdd]; cases zab g i m <;> rfl
@[simp] theorem zqB (g : Nat -> Option O) (a : Bool) (n b o : Nat) : zdd g a n (.gp b o) = (GT.lookup b).bind fun cs => if a then (if o + n ≤ cs.length then some (.agg ((cs.drop o).take n)) else none) else cs[o]? := by
 simp only [zdd]; cases GT.lookup b <;> rfl
@[simp] theorem zoh (g : Nat -> Option O) (n i m o : Nat) (x : V) : zdE g n (.ptr i m o) x = if x.solid && x.cells.length == n then (g i).bind fun ob => if ob.len = m then (ob.put o x.cells).map (D.set i) else none else none := by
 simp only [zdE]; cases g i <;> rfl
@[simp] theorem zjA (cs xs : List V) (o : Nat) : (O.row cs).put o xs = if o + xs.length ≤ cs.length then some (.row (putCells cs o xs)) else none := _root_.id rfl
@[simp] theorem zhR (s : Nat) (cs xs : List V) (o : Nat) : (O.grow s cs).put o xs = if o + xs.length ≤ cs.length then some (.grow s (putCells cs o xs)) else none := _root_.id rfl
@[simp] theorem zmO (cs : List V) : (O.row cs).len = cs.length := _root_.id rfl
@[simp] theorem zpX (s : Nat) (cs : List V) : (O.grow s cs).len = cs.length := _root_.id rfl
@[simp] theorem zl3 (cs : List V) : (O.ro cs).len = cs.length := _root_.id rfl
@[simp] theorem zgh (cs : List V) : (O.row cs).cells = cs := _root_.id rfl
@[simp] theorem ziL (s : Nat) (cs : List V) : (O.grow s cs).cells = cs := _root_.id rfl
@[simp] theorem zkQ (cs : List V) : (O.ro cs).cells = cs := _root_.id rfl
theorem zag {g : Nat -> Option O} {i n : Nat} {o : O} (h : g i = some o) (hn : o.len = n) : zab g i n = some o.cells := by simp [zab, h, hn]
@[simp] theorem zlk (h : H) (o : O) : (h.push o).get h.next = some o := by simp [H.get_push]
@[simp] theorem zlR (h : H) (i : Nat) (o : O) : (h.set i o).get i = some o := by simp [H.get_set]
@[simp] theorem zcv (s i n o l : Nat) (c : Option Nat) (k : IntKind) (m : Int) : zaz s (.sl i n o l c) (.int k m) = if 0 ≤ m ∧ m < l then some (.ptr i n (o + m.toNat * s)) else none := _root_.id rfl
@[simp] theorem zio (l s i n o : Nat) (k : IntKind) (m : Int) : za1 l s (.ptr i n o) (.int k m) = if 0 ≤ m ∧ m < l then some (.ptr i n (o + m.toNat * s)) else none := _root_.id rfl
@[simp] theorem ziV (l s g o : Nat) (k : IntKind) (m : Int) : za1 l s (.gp g o) (.int k m) = if 0 ≤ m ∧ m < l then some (.gp g (o + m.toNat * s)) else none := _root_.id rfl
@[simp] theorem zkN (s : List UInt8) (k : IntKind) (m : Int) : zbL (.str s) (.int k m) = if 0 ≤ m then (s[m.toNat]?).map fun b => .int .u8 b.toNat else none := _root_.id rfl
@[simp] theorem zkX (a : Bool) (l s : Nat) (cs : List V) (k : IntKind) (m : Int) : zcQ a l s (.agg cs) (.int k m) = if 0 ≤ m ∧ m < l then zbS a (m.toNat * s) s cs else none := _root_.id rfl
@[simp] theorem zqq (g : Nat -> Option O) (s : List UInt8) : lenV 0 g (.str s) = some (.int .i64 s.length) := _root_.id rfl
@[simp] theorem zq7 (g : Nat -> Option O) (i n o l : Nat) (c : Option Nat) : lenV 1 g (.sl i n o l c) = some (.int .i64 l) := _root_.id rfl
@[simp] theorem znS (g : Nat -> Option O) : lenV 1 g .nilsl = some (.int .i64 0) := _root_.id rfl
@[simp] theorem zqi (g : Nat -> Option O) : lenV 1 g .slz = some (.int .i64 0) := _root_.id rfl
@[simp] theorem zoV (g : Nat -> Option O) (i n o l : Nat) (c : Option Nat) : zed g (.sl i n o l c) = (zaA g 1 (.sl i n o l c)).bind fun p => (p.2.mapM u8Of).map .str := by
 simp only [zed]; cases zaA g 1 (.sl i n o l c) <;> rfl
@[simp] theorem zbq (d y : Nat) : zam d y none = some d := _root_.id rfl
@[simp] theorem zm0 (d y : Nat) (k : IntKind) (n : Int) : zam d y (some (.int k n)) = if 0 ≤ n ∧ n ≤ (y : Int) then some n.toNat else none := _root_.id rfl
@[simp] theorem zky (lo hi : Option V) (s : List UInt8) : zbM lo hi (.str s) = (zam s.length s.length hi).bind fun h => (zam 0 h lo).bind fun l => some (.str ((s.take h).drop l)) := by
 simp only [zbM]; cases zam s.length s.length hi with
 | none => rfl
 | some h => simp only [Option.bind_some]; cases zam 0 h lo <;> rfl
@[simp] theorem zm8 (k k' : IntKind) (x y : Int) : minmaxV false (.int k x) [.int k' y] = if k = k' then some (.int k (if y < x then y else x)) else none := by simp [minmaxV]
@[simp] theorem zmL (k k' : IntKind) (x y : Int) : minmaxV true (.int k x) [.int k' y] = if k = k' then some (.int k (if x < y then y else x)) else none := by simp [minmaxV]
@[simp] theorem zp5 (k : IntKind) (x y : Int) : intV .add k x y = some (.int k (k.wrap (x + y))) := _root_.id rfl
@[simp] theorem zqp (k : IntKind) (x y : Int) : intV .sub k x y = some (.int k (k.wrap (x - y))) := _root_.id rfl
@[simp] theorem zqc (k : IntKind) (x y : Int) : intV .mul k x y = some (.int k (k.wrap (x * y))) := _root_.id rfl
@[simp] theorem zqF (k : IntKind) (x y : Int) : intV .eql k x y = some (.bool (x == y)) := _root_.id rfl
@[simp] theorem zqf (k : IntKind) (x y : Int) : intV .neq k x y = some (.bool (x != y)) := _root_.id rfl
@[simp] theorem zp3 (k : IntKind) (x y : Int) : intV .lss k x y = some (.bool (decide (x < y))) := _root_.id rfl
@[simp] theorem zqs (k : IntKind) (x y : Int) : intV .leq k x y = some (.bool (decide (x ≤ y))) := _root_.id rfl
@[simp] theorem zqa (k : IntKind) (x y : Int) : intV .gtr k x y = some (.bool (decide (y < x))) := _root_.id rfl
@[simp] theorem zqA (k : IntKind) (x y : Int) : intV .geq k x y = some (.bool (decide (y ≤ x))) := _root_.id rfl
@[simp] theorem zod (k : IntKind) (x y : Int) (hy : 0 ≤ y) : zdj .shr k x y = some (.int k (x.fdiv (2 ^ min y.toNat k.bits))) := by
 unfold zdj; rw [if_neg (by omega)]
@[simp] theorem zn1 (k : IntKind) (x y : Int) (hy : 0 ≤ y) : zdj .shl k x y = some (.int k (k.wrap (x * 2 ^ min y.toNat k.bits))) := by
 unfold zdj; rw [if_neg (by omega)]
theorem zap {n : Int} (h1 : -9223372036854775808 ≤ n) (h2 : n ≤ 9223372036854775807) : IntKind.i64.wrap n = n := by
 rw [IntKind.wrap_i64]; omega
end Go.Am
