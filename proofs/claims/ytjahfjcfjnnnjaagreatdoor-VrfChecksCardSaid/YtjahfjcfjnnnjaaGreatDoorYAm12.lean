/-
 AM, PART 12. The walk: rules for simp, and what simp must leave alone.
-/
import Derived.Test.YtjahfjcfjnnnjaaGreatDoorYAm11
namespace Go.Am

@[simp] theorem Tm.put_some (t : Tm) (d k : Nat) (v : V) : (t.put (some d) v) k = if k = d then v else t k := _root_.id rfl
@[simp] theorem Tm.put_none (t : Tm) (v : V) : t.put none v = t := _root_.id rfl
@[simp] theorem zkT (args : List V) (k : Nat) : zdP args k = (args[k]?).getD .undef := _root_.id rfl
@[simp] theorem A.ev_t (t : Nat -> V) (i : Nat) : A.ev t (.t i) = t i := _root_.id rfl
@[simp] theorem A.ev_c (t : Nat -> V) (v : V) : A.ev t (.c v) = v := _root_.id rfl

variable {P : Program}
def opK (P : Program) (K : Tm -> H -> Prop) (d : Option Nat) (is : List SI) (t : Tm) (h : H) (r : Option (V × D)) : Prop :=
 match r with
 | some (v, dd) => Owp P K is (t.put d v) (h.app dd)
 | none => False
@[simp] theorem zn5 (K : Tm -> H -> Prop) (d : Option Nat) (is : List SI) (t : Tm) (h : H) (v : V) (dd : D) : opK P K d is t h (some (v, dd)) = Owp P K is (t.put d v) (h.app dd) := _root_.id rfl
def zbS (P : Program) (K : Tm -> H -> Prop) (w : Bool) (d : Option Nat) (x : X) (is : List SI) (t : Tm) (h : H) (g : V) : Prop :=
 match g with
 | .bool b => if (b == w) = true then Owp P K (⟨d, none, x⟩ :: is) t h else Owp P K is (t.put d .undef) h
 | .tup [] => Owp P K is (t.put d .undef) h
 | _ => False
section
variable (K : Tm -> H -> Prop) (d : Option Nat) (x : X) (is : List SI) (t : Tm) (h : H)
@[simp] theorem znX : zbS P K true d x is t h (.bool true) = Owp P K (⟨d, none, x⟩ :: is) t h := by simp [zbS]
@[simp] theorem znP : zbS P K false d x is t h (.bool false) = Owp P K (⟨d, none, x⟩ :: is) t h := by simp [zbS]
@[simp] theorem znL : zbS P K false d x is t h (.bool true) = Owp P K is (t.put d .undef) h := by simp [zbS]
@[simp] theorem zmP : zbS P K true d x is t h (.bool false) = Owp P K is (t.put d .undef) h := by simp [zbS]
@[simp] theorem zkL (w : Bool) : zbS P K w d x is t h .undef = Owp P K is (t.put d .undef) h := _root_.id rfl
@[simp] theorem zjj (w : Bool) : zbS P K w d x is t h (.tup []) = Owp P K is (t.put d .undef) h := _root_.id rfl
end
def retK (P : Program) (K : Tm -> H -> Prop) (d : Option Nat) (is : List SI) (t : Tm) (v : V) (h : H) : Prop := Owp P K is (t.put d v) h
@[simp] theorem zpg (K : Tm -> H -> Prop) (d : Option Nat) (is : List SI) (t : Tm) (v : V) (h : H) : retK P K d is t v h = Owp P K is (t.put d v) h := _root_.id rfl
def zhu (P : Program) (f : V) (args : List V) (h : H) (Q : V -> H -> Prop) : Prop := zdb P f args h Q
@[simp] theorem zmL (g : FuncId) (first cap args : List V) (h : H) (Q : V -> H -> Prop) : zhu P (.func (.func g) first cap) args h Q = Acalls P g (first ++ args ++ cap) h Q := _root_.id rfl
@[simp] theorem zoa (i : Nat) (args : List V) (h : H) (Q : V -> H -> Prop) : zhu P (.yl i) args h Q = Ayields P i args h Q := _root_.id rfl
@[simp] theorem zl3 (args : List V) (h : H) (Q : V -> H -> Prop) : zhu P (.sl 0 0 0 1 (some 0)) args h Q = zkK args h Q := _root_.id rfl
@[simp] theorem zmf (args : List V) (h : H) (Q : V -> H -> Prop) : zhu P (.sl 0 0 0 2 (some 0)) args h Q = znJ args h Q := _root_.id rfl
@[simp] theorem zlE (args : List V) (h : H) (Q : V -> H -> Prop) : zhu P (.sl 0 0 0 3 (some 0)) args h Q = zkH args h Q := _root_.id rfl

variable {K : Tm -> H -> Prop}
@[simp] theorem zoT (t : Tm) (h : H) : Owp P K [] t h = K t h := _root_.id rfl
@[simp] theorem zpn (d : Option Nat) (i : I) (is : List SI) (t : Tm) (h : H) : Owp P K (⟨d, none, .op i⟩ :: is) t h = opK P K d is t h (exec i t h.get h.next) := by
 simp only [Owp, zaw, opK]
 split <;> rename_i e <;> simp only [e]
@[simp] theorem znQ (d : Option Nat) (g : Nat) (w : Bool) (x : X) (is : List SI) (t : Tm) (h : H) : Owp P K (⟨d, some (g, w), x⟩ :: is) t h = zbS P K w d x is t h (t g) := by
 simp only [Owp, zaw, zbS]
 split
 ·rename_i e
  split at e <;> first | (cases e; done) | skip
  rename_i _ h1 h2
  split
  ·rename_i e'; exact absurd e' (h1 _)
  ·rename_i e'; exact absurd e' h2
  ·rfl
 ·rename_i e
  split at e
  ·rename_i b hb
   simp only [Option.some.injEq] at e
   rw [hb]
   simp [e]
  ·rename_i hb; rw [hb]
  ·cases e
 ·rename_i e
  split at e
  ·rename_i b hb
   simp only [Option.some.injEq] at e
   rw [hb]
   simp [e]
  ·cases e
  ·cases e
@[simp] theorem zoE (d : Option Nat) (f : A) (args : List A) (is : List SI) (t : Tm) (h : H) : Owp P K (⟨d, none, .call f args⟩ :: is) t h = zhu P (f.ev t) (args.map (·.ev t)) h (retK P K d is t) := _root_.id rfl

variable {Q : Exit -> Tm -> H -> Prop}
def zis (P : Program) (Q : Exit -> Tm -> H -> Prop) (a b : C) (t : Tm) (h : H) (c : V) : Prop := zf1 c (Cwp P a Q t h) (Cwp P b Q t h)
@[simp] theorem zog (t : Tm) (h : H) : Cwp P .skip Q t h = Q .normal t h := _root_.id rfl
@[simp] theorem zo0 (ops : List SI) (t : Tm) (h : H) : Cwp P (.reg ops) Q t h = Owp P (Q .normal) ops t h := _root_.id rfl
@[simp] theorem zo3 (a b : C) (t : Tm) (h : H) : Cwp P (.seq a b) Q t h = Cwp P a (zeI (Cwp P b Q) Q) t h := _root_.id rfl
@[simp] theorem zoJ (c : A) (a b : C) (t : Tm) (h : H) : Cwp P (.cond c a b) Q t h = zis P Q a b t h (c.ev t) := _root_.id rfl
@[simp] theorem zm4 (id : Nat) (b : C) (t : Tm) (h : H) : Cwp P (.block id b) Q t h = Cwp P b (zdM id Q) t h := _root_.id rfl
@[simp] theorem zn2 (b : C) (t : Tm) (h : H) : Cwp P (.loop b) Q t h = ziM (Cwp P b) Q t h := _root_.id rfl
@[simp] theorem zox (id : Nat) (t : Tm) (h : H) : Cwp P (.exit id) Q t h = Q (.exit id) t h := _root_.id rfl
@[simp] theorem zo9 (t : Tm) (h : H) : Cwp P .ret Q t h = Q .ret t h := _root_.id rfl
@[simp] theorem zmw (a b : C) (t : Tm) (h : H) : zis P Q a b t h (.bool true) = Cwp P a Q t h := by simp [zis, zf1]
@[simp] theorem zk5 (a b : C) (t : Tm) (h : H) : zis P Q a b t h (.bool false) = Cwp P b Q t h := by simp [zis, zf1]
@[simp] theorem zkE (next : Tm -> H -> Prop) (t : Tm) (h : H) : zeI next Q .normal t h = next t h := _root_.id rfl
@[simp] theorem zna (next : Tm -> H -> Prop) (t : Tm) (h : H) : zeI next Q .ret t h = Q .ret t h := _root_.id rfl
@[simp] theorem zms (next : Tm -> H -> Prop) (i : Nat) (t : Tm) (h : H) : zeI next Q (.exit i) t h = Q (.exit i) t h := _root_.id rfl
@[simp] theorem zju (id : Nat) (t : Tm) (h : H) : zdM id Q .normal t h = Q .normal t h := _root_.id rfl
@[simp] theorem zmD (id : Nat) (t : Tm) (h : H) : zdM id Q .ret t h = Q .ret t h := _root_.id rfl
@[simp] theorem zla (id i : Nat) (t : Tm) (h : H) : zdM id Q (.exit i) t h = if i = id then Q .normal t h else Q (.exit i) t h := _root_.id rfl
theorem zcD {ops : List SI} {t : Tm} {h : H} (c : Swp P (Q .normal) ops t h) : Cwp P (.dreg [] ops) Q t h := .inl ⟨rfl, c⟩
def sopK (P : Program) (K : Tm -> H -> Prop) (d : Option Nat) (is : List SI) (t : Tm) (h : H) (r : Option (V × D)) : Prop :=
 match r with
 | some (v, dd) => Swp P K is (t.put d v) (h.app dd)
 | none => False
@[simp] theorem zm1 (K : Tm -> H -> Prop) (d : Option Nat) (is : List SI) (t : Tm) (h : H) (v : V) (dd : D) : sopK P K d is t h (some (v, dd)) = Swp P K is (t.put d v) (h.app dd) := _root_.id rfl
def zbE (P : Program) (K : Tm -> H -> Prop) (w : Bool) (d : Option Nat) (x : X) (is : List SI) (t : Tm) (h : H) (g : V) : Prop :=
 match g with
 | .bool b => if (b == w) = true then Swp P K (⟨d, none, x⟩ :: is) t h else Swp P K is (t.put d .undef) h
 | .tup [] => Swp P K is (t.put d .undef) h
 | _ => False
def zkV (P : Program) (K : Tm -> H -> Prop) (d : Option Nat) (is : List SI) (t : Tm) (h : H) (f : V) (args : List V) : Prop :=
 ∃ Q' : V -> H -> Prop, (∃ v h', Q' v h') ∧ zdb P f args h Q' ∧ ∀ v h', Q' v h' -> Swp P K is (t.put d v) h'
section
variable (K : Tm -> H -> Prop) (d : Option Nat) (x : X) (is : List SI) (t : Tm) (h : H)
@[simp] theorem zpe : Swp P K [] t h = K t h := _root_.id rfl
@[simp] theorem zmj : zbE P K true d x is t h (.bool true) = Swp P K (⟨d, none, x⟩ :: is) t h := by simp [zbE]
@[simp] theorem zmo : zbE P K false d x is t h (.bool false) = Swp P K (⟨d, none, x⟩ :: is) t h := by simp [zbE]
@[simp] theorem zmA : zbE P K false d x is t h (.bool true) = Swp P K is (t.put d .undef) h := by simp [zbE]
@[simp] theorem zmt : zbE P K true d x is t h (.bool false) = Swp P K is (t.put d .undef) h := by simp [zbE]
@[simp] theorem zjY (w : Bool) : zbE P K w d x is t h .undef = Swp P K is (t.put d .undef) h := _root_.id rfl
@[simp] theorem zi8 (w : Bool) : zbE P K w d x is t h (.tup []) = Swp P K is (t.put d .undef) h := _root_.id rfl
@[simp] theorem zpo (i : I) : Swp P K (⟨d, none, .op i⟩ :: is) t h = sopK P K d is t h (exec i t h.get h.next) := by
 simp only [Swp, Sstep, zaw, sopK]
 split <;> rename_i e <;> simp only [e]
@[simp] theorem znk (g : Nat) (w : Bool) : Swp P K (⟨d, some (g, w), x⟩ :: is) t h = zbE P K w d x is t h (t g) := by
 simp only [Swp, Sstep, zaw, zbE]
 split
 ·rename_i e
  split at e <;> first | (cases e; done) | skip
  rename_i _ h1 h2
  split
  ·rename_i e'; exact absurd e' (h1 _)
  ·rename_i e'; exact absurd e' h2
  ·rfl
 ·rename_i e
  split at e
  ·rename_i b hb
   simp only [Option.some.injEq] at e
   rw [hb]
   simp [e]
  ·rename_i hb; rw [hb]
  ·cases e
 ·rename_i e
  split at e
  ·rename_i b hb
   simp only [Option.some.injEq] at e
   rw [hb]
   simp [e]
  ·cases e
  ·cases e
@[simp] theorem zor (f : A) (args : List A) : Swp P K (⟨d, none, .call f args⟩ :: is) t h = zkV P K d is t h (f.ev t) (args.map (·.ev t)) := _root_.id rfl
end
theorem zgV {K : Tm -> H -> Prop} {d : Option Nat} {is : List SI} {t : Tm} {h : H} {g : FuncId} {first cap args : List V} {v : V} {h' : H} (c : ∀ Q : V -> H -> Prop, Q v h' -> Acalls P g (first ++ args ++ cap) h Q) (k : Swp P K is (t.put d v) h') : zkV P K d is t h (.func (.func g) first cap) args :=
 ⟨fun u h2 => u = v ∧ h2 = h', ⟨v, h', rfl, rfl⟩, c _ ⟨rfl, rfl⟩, by rintro u h2 ⟨rfl, rfl⟩; exact k⟩
def resK (r : Option (List V)) (h : H) (Q : V -> H -> Prop) : Prop :=
 match r with
 | some vs => Q (tupV vs) h
 | none => False
@[simp] theorem znO (vs : List V) (h : H) (Q : V -> H -> Prop) : resK (some vs) h Q = Q (tupV vs) h := _root_.id rfl
@[simp] theorem zlA (rs : List RV) (R : V -> H -> Prop) (t : Tm) (h : H) : zc1 rs R .ret t h = resK (zbP h.get t rs) h R := _root_.id rfl
@[simp] theorem zi9 (rs : List RV) (R : V -> H -> Prop) (t : Tm) (h : H) : zc1 rs R .normal t h = resK (zbP h.get t rs) h R := _root_.id rfl
@[simp] theorem znh (g : Nat -> Option O) (t : Tm) : zbP g t [] = some [] := _root_.id rfl
@[simp] theorem znA (g : Nat -> Option O) (t : Tm) (k : Nat) (rs : List RV) : zbP g t (.tmp k :: rs) = (zbP g t rs).map (t k :: ·) := by
 simp only [zbP, resV]; cases zbP g t rs <;> rfl
@[simp] theorem zmk (g : Nat -> Option O) (t : Tm) (k n : Nat) (a : Bool) (rs : List RV) : zbP g t (.cell k a n :: rs) = (zcU g a n (t k)).bind fun v => (zbP g t rs).map (v :: ·) := by
 simp only [zbP, resV]; cases zcU g a n (t k) with
 | none => rfl
 | some v => simp only [Option.bind_some]; cases zbP g t rs <;> rfl
@[simp] theorem zoc : tupV [] = .tup [] := _root_.id rfl
@[simp] theorem zoM (v : V) : tupV [v] = v := _root_.id rfl
@[simp] theorem zoI (v u : V) (vs : List V) : tupV (v :: u :: vs) = .tup (v :: u :: vs) := _root_.id rfl

@[simp] theorem zl9 (v : V) : zat (some v) = some (v, .keep) := _root_.id rfl
def zg2 (off : Nat) : V -> Option V
 | .ptr i n o => some (.ptr i n (o + off))
 | .gp g o => some (.gp g (o + off))
 | _ => none
def zik (agg : Bool) (off n : Nat) : V -> Option V
 | .agg cs => zcp agg off n cs
 | _ => none
def zlY (i : Nat) : V -> Option V
 | .tup vs => vs[i]?
 | _ => none
def cidV : V -> Option V
 | .str s => some (.str s)
 | _ => none
def boxV (next : Nat) (v : V) : Option (V × D) := if v.solid then some (.ptr next v.cells.length 0, .push (.row v.cells)) else none
def mapD (d : Option D) : Option (V × D) := d.map fun d => (.undef, d)
section
variable (t : Nat -> V) (g : Nat -> Option O) (n : Nat)
@[simp] theorem zod (x : A) : exec (.mov x) t g n = some (x.ev t, .keep) := _root_.id rfl
@[simp] theorem zm2 (c a b : A) : exec (.pick c a b) t g n = zat (zfO (c.ev t) (a.ev t) (b.ev t)) := _root_.id rfl
@[simp] theorem zmn (z : List V) : exec (.alloc z) t g n = some (.ptr n z.length 0, .push (.row z)) := _root_.id rfl
@[simp] theorem zob (x : A) : exec (.box x) t g n = boxV n (x.ev t) := _root_.id rfl
@[simp] theorem zku (ty : TypeId) (x : A) : exec (.mkIface ty x) t g n = some (.iface ty (x.ev t), .keep) := _root_.id rfl
@[simp] theorem zmv (z : List V) (ps : List (Nat × Nat × A)) : exec (.build z ps) t g n = zat ((zco z (ps.map fun (o, n, x) => (o, n, x.ev t))).map .agg) := _root_.id rfl
@[simp] theorem ziE (sz len : Nat) (z : List V) (ps : List (Nat × A)) : exec (.buildSlice sz len z ps) t g n = (zco (zaB len z) (ps.map fun (k, x) => (k * sz, sz, x.ev t))).map fun cs => (.sl n (len * sz) 0 len (some len), .push (.row cs)) := _root_.id rfl
@[simp] theorem zng (a : Bool) (m : Nat) (x : A) : exec (.load a m x) t g n = zat (zcU g a m (x.ev t)) := _root_.id rfl
@[simp] theorem zmJ (m : Nat) (a x : A) : exec (.store m a x) t g n = mapD (zdi g m (a.ev t) (x.ev t)) := _root_.id rfl
@[simp] theorem zk8 (x : A) : exec (.nilchk x) t g n = zat (zcv (x.ev t)) := _root_.id rfl
@[simp] theorem zon (op : BinOp) (x y : A) : exec (.bin op x y) t g n = zat (binV op (x.ev t) (y.ev t)) := _root_.id rfl
@[simp] theorem zoY (b : Bool) (ts : TS) (x y : A) : exec (.eq b ts x y) t g n = zat ((eqV ts (x.ev t) (y.ev t)).map fun r => .bool (if b then !r else r)) := _root_.id rfl
@[simp] theorem zoZ (op : UnOp) (x : A) : exec (.un op x) t g n = zat (unV op (x.ev t)) := _root_.id rfl
@[simp] theorem zkn (k : IntKind) (x : A) : exec (.convInt k x) t g n = zat ((zfK (x.ev t)).map fun m => .int k (k.wrap m)) := _root_.id rfl
@[simp] theorem zk0 (x : A) : exec (.convId x) t g n = zat (cidV (x.ev t)) := by simp only [exec, cidV]; cases x.ev t <;> rfl
@[simp] theorem zmu (x : A) : exec (.strOf x) t g n = zat (zdR g (x.ev t)) := _root_.id rfl
@[simp] theorem zi6 (o : Nat) (x : A) : exec (.fieldAddr o x) t g n = zat (zg2 o (x.ev t)) := by simp only [exec, zg2]; cases x.ev t <;> rfl
@[simp] theorem zmh (a : Bool) (o m : Nat) (x : A) : exec (.field a o m x) t g n = zat (zik a o m (x.ev t)) := by simp only [exec, zik]; cases x.ev t <;> rfl
@[simp] theorem zi4 (s : Nat) (x i : A) : exec (.indexAddr s x i) t g n = zat (zaH s (x.ev t) (i.ev t)) := _root_.id rfl
@[simp] theorem zhG (l s : Nat) (x i : A) : exec (.indexAddrArr l s x i) t g n = zat (za7 l s (x.ev t) (i.ev t)) := _root_.id rfl
@[simp] theorem zoz (e : StIn) (x y : A) : exec (.ext e x y) t g n = zat (extV e (x.ev t) (y.ev t)) := _root_.id rfl
@[simp] theorem zmy (s : List UInt8) (c : Int) : extV .indexByte (.str s) (.int .u8 c) = some (.int .i64 (Go.Lib.indexByte s c.toNat.toUInt8)) := _root_.id rfl
@[simp] theorem zmx (s : List UInt8) (c : Int) : extV .count (.str s) (.int .u8 c) = some (.int .i64 (Go.Lib.countByte s c.toNat.toUInt8 : Nat)) := _root_.id rfl
@[simp] theorem zkU (s u : List UInt8) : extV .compare (.str s) (.str u) = some (.int .i64 (Go.Lib.compareBytes s u)) := _root_.id rfl
@[simp] theorem zmq (k : Nat) (fn : List V -> Option V) (args : List A) : exec (.pcall k fn args) t g n = zat (fn (args.map (·.ev t))) := _root_.id rfl
@[simp] theorem zjf (x i : A) : exec (.indexStr x i) t g n = zat (zbJ (x.ev t) (i.ev t)) := _root_.id rfl
@[simp] theorem zjQ (a : Bool) (l s : Nat) (x i : A) : exec (.indexArr a l s x i) t g n = zat (zcB a l s (x.ev t) (i.ev t)) := _root_.id rfl
@[simp] theorem zjK (x : A) (lo hi : Option A) : exec (.sliceStr x lo hi) t g n = zat (zbK (lo.map (·.ev t)) (hi.map (·.ev t)) (x.ev t)) := _root_.id rfl
@[simp] theorem zm5 (s : Nat) (x hi : A) : exec (.resl s x hi) t g n = zat ((zav s none (some (hi.ev t)) none (x.ev t)).or (zhV g s (hi.ev t) (x.ev t))) := _root_.id rfl
@[simp] theorem zkB (s : Nat) (x : A) (lo hi mx : Option A) : exec (.sliceSl s x lo hi mx) t g n = zat (zav s (lo.map (·.ev t)) (hi.map (·.ev t)) (mx.map (·.ev t)) (x.ev t)) := _root_.id rfl
@[simp] theorem zj7 (l s : Nat) (x : A) (lo hi mx : Option A) : exec (.sliceArr l s x lo hi mx) t g n = zat (zeo l s (lo.map (·.ev t)) (hi.map (·.ev t)) (mx.map (·.ev t)) (x.ev t)) := _root_.id rfl
@[simp] theorem zi7 (s b : Nat) (z : List V) (l c : A) : exec (.makeSlice s b z l c) t g n = zcH n s b z (l.ev t) (c.ev t) := _root_.id rfl
@[simp] theorem zjU (f : Fn) (a c : List A) : exec (.makeFunc f a c) t g n = some (.func f (a.map (·.ev t)) (c.map (·.ev t)), .keep) := _root_.id rfl
@[simp] theorem zkQ (x : A) (i : Nat) : exec (.extract x i) t g n = zat (zlY i (x.ev t)) := by simp only [exec, zlY]; cases x.ev t <;> rfl
@[simp] theorem zn3 (k : Nat) (x : A) : exec (.len k x) t g n = zat (lenV k g (x.ev t)) := _root_.id rfl
@[simp] theorem zl8 (s b : Nat) (x y : A) : exec (.append s b x y) t g n = zay g n s b (x.ev t) (y.ev t) := _root_.id rfl
@[simp] theorem zk1 (m : Bool) (x : A) (r : List A) : exec (.minmax m x r) t g n = zat (minmaxV m (x.ev t) (r.map (·.ev t))) := _root_.id rfl
@[simp] theorem zko : exec .makeMap t g n = some (.map n, .push (.mapo [] [] 0)) := _root_.id rfl
@[simp] theorem zlD (kd : KD) (z : V) (ok : Bool) (x k : A) : exec (.lookup kd z ok x k) t g n = zat (zef g kd z ok (x.ev t) (k.ev t)) := _root_.id rfl
@[simp] theorem zle (kd : KD) (x k v : A) : exec (.mapSet kd x k v) t g n = mapD (zck g kd (x.ev t) (k.ev t) (v.ev t)) := _root_.id rfl
@[simp] theorem zkX (kd : KD) (x k : A) : exec (.mapDel kd x k) t g n = mapD (zc9 g kd (x.ev t) (k.ev t)) := _root_.id rfl
@[simp] theorem znT (s : Nat) (d x : A) : exec (.copy s d x) t g n = zfd g s (d.ev t) (x.ev t) := _root_.id rfl
@[simp] theorem zkN (s : Nat) (z : List V) (x : A) : exec (.clearSl s z x) t g n = mapD (zcl g z (x.ev t)) := _root_.id rfl
@[simp] theorem zjB (x : A) : exec (.clearMap x) t g n = mapD (zbO g (x.ev t)) := _root_.id rfl
end
@[simp] theorem zmR (d : D) : mapD (some d) = some (.undef, d) := _root_.id rfl
@[simp] theorem zol (h : H) : h.app .keep = h := _root_.id rfl
@[simp] theorem zer (h : H) (i : Nat) (o : O) : h.app (.set i o) = h.set i o := _root_.id rfl
@[simp] theorem zci (h : H) (o : O) : h.app (.push o) = h.push o := _root_.id rfl
@[simp] theorem znv (off g o : Nat) : zg2 off (.gp g o) = some (.gp g (o + off)) := _root_.id rfl
@[simp] theorem zmr (off i n o : Nat) : zg2 off (.ptr i n o) = some (.ptr i n (o + off)) := _root_.id rfl
@[simp] theorem zmK (a : Bool) (o n : Nat) (cs : List V) : zik a o n (.agg cs) = zcp a o n cs := _root_.id rfl
@[simp] theorem zmd (o n : Nat) (cs : List V) : zcp true o n cs = some (.agg ((cs.drop o).take n)) := _root_.id rfl
@[simp] theorem zlf (o n : Nat) (cs : List V) : zcp false o n cs = cs[o]? := _root_.id rfl
@[simp] theorem zmY (i : Nat) (vs : List V) : zlY i (.tup vs) = vs[i]? := _root_.id rfl
@[simp] theorem zn9 (s : List UInt8) : cidV (.str s) = some (.str s) := _root_.id rfl
@[simp] theorem zoA (n : Nat) (cs : List V) : boxV n (.agg cs) = if cs.all V.one then some (.ptr n cs.length 0, .push (.row cs)) else none := _root_.id rfl
@[simp] theorem zot (n : Nat) (k : IntKind) (x : Int) : boxV n (.int k x) = some (.ptr n 1 0, .push (.row [.int k x])) := _root_.id rfl
@[simp] theorem zoh (n : Nat) (s : List UInt8) : boxV n (.str s) = some (.ptr n 1 0, .push (.row [.str s])) := _root_.id rfl
@[simp] theorem zmU (n : Nat) (b : Bool) : boxV n (.bool b) = some (.ptr n 1 0, .push (.row [.bool b])) := _root_.id rfl
@[simp] theorem zmm (a b : V) : zfO (.bool true) a b = some a := _root_.id rfl
@[simp] theorem zlx (a b : V) : zfO (.bool false) a b = some b := _root_.id rfl
@[simp] theorem zmX (c d : Bool) : zfO (.bool c) (.bool d) (.bool false) = some (.bool (c && d)) := by cases c <;> rfl
@[simp] theorem zn0 (c d : Bool) : zfO (.bool c) (.bool true) (.bool d) = some (.bool (c || d)) := by cases c <;> rfl
@[simp] theorem zlO (i n o : Nat) : zcv (.ptr i n o) = some (.ptr i n o) := _root_.id rfl
@[simp] theorem zmE (g o : Nat) : zcv (.gp g o) = some (.gp g o) := _root_.id rfl
@[simp] theorem zkv (f : FuncId) (a b : List V) : zcv (.func (.func f) a b) = some (.func (.func f) a b) := _root_.id rfl
@[simp] theorem zmI (k : IntKind) (n : Int) : zfK (.int k n) = some n := _root_.id rfl
@[simp] theorem zoO (op : BinOp) (a b : List UInt8) : binV op (.str a) (.str b) = strV op a b := _root_.id rfl
@[simp] theorem zn6 (op : BinOp) (k k' : IntKind) (a b : Int) : binV op (.int k a) (.int k' b) = if zcy op then zcW op k a b else if k = k' then intV op k a b else none := _root_.id rfl
attribute [simp] zcy
@[simp] theorem zoR (x y : List UInt8) : strV .add x y = if x.length + y.length ≤ 9223372036854775807 then some (.str (x ++ y)) else none := _root_.id rfl
@[simp] theorem zom (x y : List UInt8) : strV .eql x y = some (.bool (x == y)) := _root_.id rfl
@[simp] theorem zov (x y : List UInt8) : strV .neq x y = some (.bool (!(x == y))) := _root_.id rfl
@[simp] theorem zoN (x y : List UInt8) : strV .lss x y = some (.bool (Op.bytesLess x y)) := _root_.id rfl
@[simp] theorem zo4 (b : Bool) : unV .not (.bool b) = some (.bool (!b)) := _root_.id rfl
@[simp] theorem zoX (k : IntKind) (n : Int) : unV .neg (.int k n) = some (.int k (k.wrap (0 - n))) := _root_.id rfl
@[simp] theorem zns (cs : List V) : zco cs [] = some cs := _root_.id rfl
@[simp] theorem zmC (cs : List V) (o n : Nat) (v : V) (r : List (Nat × Nat × V)) : zco cs ((o, n, v) :: r) = if v.solid && v.cells.length == n && decide (o + n ≤ cs.length) then zco (zaM cs o v.cells) r else none := _root_.id rfl
@[simp] theorem zmN (k : IntKind) (n : Int) : (V.int k n).solid = true := _root_.id rfl
@[simp] theorem zmg (b : Bool) : (V.bool b).solid = true := _root_.id rfl
@[simp] theorem znN (s : List UInt8) : (V.str s).solid = true := _root_.id rfl
@[simp] theorem zlJ : V.nilsl.solid = true := _root_.id rfl
@[simp] theorem zm9 (cs : List V) : (V.agg cs).solid = cs.all V.one := _root_.id rfl
@[simp] theorem znI (cs : List V) : (V.agg cs).cells = cs := _root_.id rfl
@[simp] theorem zmM (k : IntKind) (n : Int) : (V.int k n).cells = [.int k n] := _root_.id rfl
@[simp] theorem zmi (b : Bool) : (V.bool b).cells = [.bool b] := _root_.id rfl
@[simp] theorem zne (s : List UInt8) : (V.str s).cells = [.str s] := _root_.id rfl
@[simp] theorem zlv : V.nilsl.cells = [.nilsl] := _root_.id rfl
@[simp] theorem zoH (i n o l : Nat) (c : Option Nat) : (V.sl i n o l c).cells = [.sl i n o l c] := _root_.id rfl
@[simp] theorem zoW (k : IntKind) (n : Int) : (V.int k n).one = true := _root_.id rfl
@[simp] theorem zoe (b : Bool) : (V.bool b).one = true := _root_.id rfl
@[simp] theorem zpf (s : List UInt8) : (V.str s).one = true := _root_.id rfl
@[simp] theorem znG : V.nilsl.one = true := _root_.id rfl
@[simp] theorem zo1 : V.slz.one = true := _root_.id rfl
@[simp] theorem zpj (i n o l : Nat) (c : Option Nat) : (V.sl i n o l c).one = true := _root_.id rfl
@[simp] theorem zpc (i n o : Nat) : (V.ptr i n o).one = true := _root_.id rfl
theorem zaT {v : V} (h : v.one = true) : v.cells = [v] := by cases v <;> first | rfl | cases h
theorem zaR {v : V} (h : v.one = true) : v.solid = true := by cases v <;> first | rfl | cases h
@[simp] theorem zmS (g : Nat -> Option O) (a : Bool) (n i m o : Nat) : zcU g a n (.ptr i m o) = (zaf g i m).bind fun cs => if a then (if o + n ≤ cs.length then some (.agg ((cs.drop o).take n)) else none) else cs[o]? := by
 simp only [zcU]; cases zaf g i m <;> rfl
@[simp] theorem zn7 (g : Nat -> Option O) (a : Bool) (n b o : Nat) : zcU g a n (.gp b o) = (GT.lookup b).bind fun cs => if a then (if o + n ≤ cs.length then some (.agg ((cs.drop o).take n)) else none) else cs[o]? := by
 simp only [zcU]; cases GT.lookup b <;> rfl
@[simp] theorem zmH (g : Nat -> Option O) (n i m o : Nat) (x : V) : zdi g n (.ptr i m o) x = if x.solid && x.cells.length == n then (g i).bind fun ob => if ob.len = m then (ob.put o x.cells).map (D.set i) else none else none := by
 simp only [zdi]; cases g i <;> rfl
@[simp] theorem zoS (cs xs : List V) (o : Nat) : (O.row cs).put o xs = if o + xs.length ≤ cs.length then some (.row (zaM cs o xs)) else none := _root_.id rfl
@[simp] theorem zok (s : Nat) (cs xs : List V) (o : Nat) : (O.grow s cs).put o xs = if o + xs.length ≤ cs.length then some (.grow s (zaM cs o xs)) else none := _root_.id rfl
@[simp] theorem zlw (cs : List V) : (O.row cs).len = cs.length := _root_.id rfl
@[simp] theorem zoo (s : Nat) (cs : List V) : (O.grow s cs).len = cs.length := _root_.id rfl
@[simp] theorem zky (cs : List V) : (O.ro cs).len = cs.length := _root_.id rfl
@[simp] theorem ziB (cs : List V) : (O.row cs).cells = cs := _root_.id rfl
@[simp] theorem zhI (s : Nat) (cs : List V) : (O.grow s cs).cells = cs := _root_.id rfl
@[simp] theorem zj1 (cs : List V) : (O.ro cs).cells = cs := _root_.id rfl
theorem zak {g : Nat -> Option O} {i n : Nat} {o : O} (h : g i = some o) (hn : o.len = n) : zaf g i n = some o.cells := by simp [zaf, h, hn]
@[simp] theorem zjy (h : H) (o : O) : (h.push o).get h.next = some o := by simp [H.get_push]
@[simp] theorem zkD (h : H) (i : Nat) (o : O) : (h.set i o).get i = some o := by simp [H.get_set]
@[simp] theorem zdk (s i n o l : Nat) (c : Option Nat) (k : IntKind) (m : Int) : zaH s (.sl i n o l c) (.int k m) = if 0 ≤ m ∧ m < l then some (.ptr i n (o + m.toNat * s)) else none := _root_.id rfl
@[simp] theorem zhN (l s i n o : Nat) (k : IntKind) (m : Int) : za7 l s (.ptr i n o) (.int k m) = if 0 ≤ m ∧ m < l then some (.ptr i n (o + m.toNat * s)) else none := _root_.id rfl
@[simp] theorem zhW (l s g o : Nat) (k : IntKind) (m : Int) : za7 l s (.gp g o) (.int k m) = if 0 ≤ m ∧ m < l then some (.gp g (o + m.toNat * s)) else none := _root_.id rfl
@[simp] theorem zja (s : List UInt8) (k : IntKind) (m : Int) : zbJ (.str s) (.int k m) = if 0 ≤ m then (s[m.toNat]?).map fun b => .int .u8 b.toNat else none := _root_.id rfl
@[simp] theorem zjC (a : Bool) (l s : Nat) (cs : List V) (k : IntKind) (m : Int) : zcB a l s (.agg cs) (.int k m) = if 0 ≤ m ∧ m < l then zcp a (m.toNat * s) s cs else none := _root_.id rfl
@[simp] theorem zn4 (g : Nat -> Option O) (s : List UInt8) : lenV 0 g (.str s) = some (.int .i64 s.length) := _root_.id rfl
@[simp] theorem zo6 (g : Nat -> Option O) (i n o l : Nat) (c : Option Nat) : lenV 1 g (.sl i n o l c) = some (.int .i64 l) := _root_.id rfl
@[simp] theorem zmz (g : Nat -> Option O) : lenV 1 g .nilsl = some (.int .i64 0) := _root_.id rfl
@[simp] theorem zn8 (g : Nat -> Option O) : lenV 1 g .slz = some (.int .i64 0) := _root_.id rfl
@[simp] theorem znK (g : Nat -> Option O) (i n o l : Nat) (c : Option Nat) : zdR g (.sl i n o l c) = (zaC g 1 (.sl i n o l c)).bind fun p => (p.2.mapM u8Of).map .str := by
 simp only [zdR]; cases zaC g 1 (.sl i n o l c) <;> rfl
@[simp] theorem zbo (d y : Nat) : zau d y none = some d := _root_.id rfl
@[simp] theorem zl0 (d y : Nat) (k : IntKind) (n : Int) : zau d y (some (.int k n)) = if 0 ≤ n ∧ n ≤ (y : Int) then some n.toNat else none := _root_.id rfl
@[simp] theorem zjx (lo hi : Option V) (s : List UInt8) : zbK lo hi (.str s) = (zau s.length s.length hi).bind fun h => (zau 0 h lo).bind fun l => some (.str ((s.take h).drop l)) := by
 simp only [zbK]; cases zau s.length s.length hi with
 | none => rfl
 | some h => simp only [Option.bind_some]; cases zau 0 h lo <;> rfl
@[simp] theorem zlr (k k' : IntKind) (x y : Int) : minmaxV false (.int k x) [.int k' y] = if k = k' then some (.int k (if y < x then y else x)) else none := by simp [minmaxV]
@[simp] theorem zlc (k k' : IntKind) (x y : Int) : minmaxV true (.int k x) [.int k' y] = if k = k' then some (.int k (if x < y then y else x)) else none := by simp [minmaxV]
@[simp] theorem zoG (k : IntKind) (x y : Int) : intV .add k x y = some (.int k (k.wrap (x + y))) := _root_.id rfl
@[simp] theorem zoP (k : IntKind) (x y : Int) : intV .sub k x y = some (.int k (k.wrap (x - y))) := _root_.id rfl
@[simp] theorem zop (k : IntKind) (x y : Int) : intV .mul k x y = some (.int k (k.wrap (x * y))) := _root_.id rfl
@[simp] theorem zoL (k : IntKind) (x y : Int) : intV .eql k x y = some (.bool (x == y)) := _root_.id rfl
@[simp] theorem zow (k : IntKind) (x y : Int) : intV .neq k x y = some (.bool (x != y)) := _root_.id rfl
@[simp] theorem zou (k : IntKind) (x y : Int) : intV .lss k x y = some (.bool (decide (x < y))) := _root_.id rfl
@[simp] theorem zoK (k : IntKind) (x y : Int) : intV .leq k x y = some (.bool (decide (x ≤ y))) := _root_.id rfl
@[simp] theorem zoC (k : IntKind) (x y : Int) : intV .gtr k x y = some (.bool (decide (y < x))) := _root_.id rfl
@[simp] theorem zoj (k : IntKind) (x y : Int) : intV .geq k x y = some (.bool (decide (y ≤ x))) := _root_.id rfl
@[simp] theorem zme (k : IntKind) (x y : Int) (hy : 0 ≤ y) : zcW .shr k x y = some (.int k (x.fdiv (2 ^ min y.toNat k.bits))) := by
 unfold zcW; rw [if_neg (by omega)]
@[simp] theorem zmG (k : IntKind) (x y : Int) (hy : 0 ≤ y) : zcW .shl k x y = some (.int k (k.wrap (x * 2 ^ min y.toNat k.bits))) := by
 unfold zcW; rw [if_neg (by omega)]
theorem zas {n : Int} (h1 : -9223372036854775808 ≤ n) (h2 : n ≤ 9223372036854775807) : IntKind.i64.wrap n = n := by
 rw [IntKind.wrap_i64]; omega
end Go.Am
