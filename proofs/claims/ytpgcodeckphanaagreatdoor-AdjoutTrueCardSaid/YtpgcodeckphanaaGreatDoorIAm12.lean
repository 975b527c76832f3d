/-
 AM, PART 12. The walk: rules for simp, and what simp must leave alone.
-/
import Derived.Test.YtpgcodeckphanaaGreatDoorIAm11
namespace Go.Am

@[simp] theorem Tm.put_some (t : Tm) (d k : Nat) (v : V) : (t.put (some d) v) k = if k = d then v else t k := _root_.id rfl
@[simp] theorem Tm.put_none (t : Tm) (v : V) : t.put none v = t := _root_.id rfl
@[simp] theorem zml (args : List V) (k : Nat) : zeh args k = (args[k]?).getD .undef := _root_.id rfl
@[simp] theorem A.ev_t (t : Nat -> V) (i : Nat) : A.ev t (.t i) = t i := _root_.id rfl
@[simp] theorem A.ev_c (t : Nat -> V) (v : V) : A.ev t (.c v) = v := _root_.id rfl

variable {P : Program}
def opK (P : Program) (K : Tm -> H -> Prop) (d : Option Nat) (is : List SI) (t : Tm) (h : H) (r : Option (V × D)) : Prop :=
 match r with
 | some (v, dd) => Owp P K is (t.put d v) (h.app dd)
 | none => False
@[simp] theorem zq4 (K : Tm -> H -> Prop) (d : Option Nat) (is : List SI) (t : Tm) (h : H) (v : V) (dd : D) : opK P K d is t h (some (v, dd)) = Owp P K is (t.put d v) (h.app dd) := _root_.id rfl
def zcd (P : Program) (K : Tm -> H -> Prop) (w : Bool) (d : Option Nat) (x : X) (is : List SI) (t : Tm) (h : H) (g : V) : Prop :=
 match g with
 | .bool b => if (b == w) = true then Owp P K (⟨d, none, x⟩ :: is) t h else Owp P K is (t.put d .undef) h
 | .tup [] => Owp P K is (t.put d .undef) h
 | _ => False
section
variable (K : Tm -> H -> Prop) (d : Option Nat) (x : X) (is : List SI) (t : Tm) (h : H)
@[simp] theorem zqi : zcd P K true d x is t h (.bool true) = Owp P K (⟨d, none, x⟩ :: is) t h := by simp [zcd]
@[simp] theorem zpd : zcd P K false d x is t h (.bool false) = Owp P K (⟨d, none, x⟩ :: is) t h := by simp [zcd]
@[simp] theorem zpy : zcd P K false d x is t h (.bool true) = Owp P K is (t.put d .undef) h := by simp [zcd]
@[simp] theorem zqa : zcd P K true d x is t h (.bool false) = Owp P K is (t.put d .undef) h := by simp [zcd]
@[simp] theorem zmQ (w : Bool) : zcd P K w d x is t h .undef = Owp P K is (t.put d .undef) h := _root_.id rfl
@[simp] theorem zmh (w : Bool) : zcd P K w d x is t h (.tup []) = Owp P K is (t.put d .undef) h := _root_.id rfl
end
def retK (P : Program) (K : Tm -> H -> Prop) (d : Option Nat) (is : List SI) (t : Tm) (v : V) (h : H) : Prop := Owp P K is (t.put d v) h
@[simp] theorem zrw (K : Tm -> H -> Prop) (d : Option Nat) (is : List SI) (t : Tm) (v : V) (h : H) : retK P K d is t v h = Owp P K is (t.put d v) h := _root_.id rfl
def ziM (P : Program) (f : V) (args : List V) (h : H) (Q : V -> H -> Prop) : Prop := zdA P f args h Q
@[simp] theorem zoW (g : FuncId) (first cap args : List V) (h : H) (Q : V -> H -> Prop) : ziM P (.func (.func g) first cap) args h Q = Acalls P g (first ++ args ++ cap) h Q := _root_.id rfl
@[simp] theorem zrb (i : Nat) (args : List V) (h : H) (Q : V -> H -> Prop) : ziM P (.yl i) args h Q = Ayields P i args h Q := _root_.id rfl
@[simp] theorem zm1 (args : List V) (h : H) (Q : V -> H -> Prop) : ziM P (.sl 0 0 0 1 (some 0)) args h Q = zmx args h Q := _root_.id rfl
@[simp] theorem zoz (args : List V) (h : H) (Q : V -> H -> Prop) : ziM P (.sl 0 0 0 2 (some 0)) args h Q = zp5 args h Q := _root_.id rfl
@[simp] theorem znp (args : List V) (h : H) (Q : V -> H -> Prop) : ziM P (.sl 0 0 0 3 (some 0)) args h Q = zmK args h Q := _root_.id rfl

variable {K : Tm -> H -> Prop}
@[simp] theorem zrz (t : Tm) (h : H) : Owp P K [] t h = K t h := _root_.id rfl
@[simp] theorem zr7 (d : Option Nat) (i : I) (is : List SI) (t : Tm) (h : H) : Owp P K (⟨d, none, .op i⟩ :: is) t h = opK P K d is t h (exec i t h.get h.next) := by
 simp only [Owp, zao, opK]
 split <;> rename_i e <;> simp only [e]
@[simp] theorem zpb (d : Option Nat) (g : Nat) (w : Bool) (x : X) (is : List SI) (t : Tm) (h : H) : Owp P K (⟨d, some (g, w), x⟩ :: is) t h = zcd P K w d x is t h (t g) := by
 simp only [Owp, zao, zcd]
 split
 ·rename_i e
  split at e <;> first | (cases e; done) | skip
  rename_i _ h1 h2
  split
  ·rename_i e'; exact absurd e' (h1 _)
  ·rename_i e'; exact absurd e' h2
  ·rfl
 ·rename_i e
  split at e
  ·rename_i b hb
   simp only [Option.some.injEq] at e
   rw [hb]
   simp [e]
  ·rename_i hb; rw [hb]
  ·cases e
 ·rename_i e
  split at e
  ·rename_i b hb
   simp only [Option.some.injEq] at e
   rw [hb]
   simp [e]
  ·cases e
  ·cases e
@[simp] theorem zqA (d : Option Nat) (f : A) (args : List A) (is : List SI) (t : Tm) (h : H) : Owp P K (⟨d, none, .call f args⟩ :: is) t h = ziM P (f.ev t) (args.map (·.ev t)) h (retK P K d is t) := _root_.id rfl

variable {Q : Exit -> Tm -> H -> Prop}
def zhM (P : Program) (Q : Exit -> Tm -> H -> Prop) (a b : C) (t : Tm) (h : H) (c : V) : Prop := zeq c (Cwp P a Q t h) (Cwp P b Q t h)
@[simp] theorem zqQ (t : Tm) (h : H) : Cwp P .skip Q t h = Q .normal t h := _root_.id rfl
@[simp] theorem zrP (ops : List SI) (t : Tm) (h : H) : Cwp P (.reg ops) Q t h = Owp P (Q .normal) ops t h := _root_.id rfl
@[simp] theorem zr3 (a b : C) (t : Tm) (h : H) : Cwp P (.seq a b) Q t h = Cwp P a (zfo (Cwp P b Q) Q) t h := _root_.id rfl
@[simp] theorem zqV (c : A) (a b : C) (t : Tm) (h : H) : Cwp P (.cond c a b) Q t h = zhM P Q a b t h (c.ev t) := _root_.id rfl
@[simp] theorem zpI (id : Nat) (b : C) (t : Tm) (h : H) : Cwp P (.block id b) Q t h = Cwp P b (zcF id Q) t h := _root_.id rfl
@[simp] theorem zrn (b : C) (t : Tm) (h : H) : Cwp P (.loop b) Q t h = zfW (Cwp P b) Q t h := _root_.id rfl
@[simp] theorem zrp (id : Nat) (t : Tm) (h : H) : Cwp P (.exit id) Q t h = Q (.exit id) t h := _root_.id rfl
@[simp] theorem zrH (t : Tm) (h : H) : Cwp P .ret Q t h = Q .ret t h := _root_.id rfl
@[simp] theorem zoG (a b : C) (t : Tm) (h : H) : zhM P Q a b t h (.bool true) = Cwp P a Q t h := by simp [zhM, zeq]
@[simp] theorem zoa (a b : C) (t : Tm) (h : H) : zhM P Q a b t h (.bool false) = Cwp P b Q t h := by simp [zhM, zeq]
theorem ziN {a b : C} {t : Tm} {h : H} {c : Bool} (h1 : c = true -> Cwp P a Q t h) (h2 : c = false -> Cwp P b Q t h) : zhM P Q a b t h (.bool c) := ⟨h1, h2⟩
@[simp] theorem zmJ (next : Tm -> H -> Prop) (t : Tm) (h : H) : zfo next Q .normal t h = next t h := _root_.id rfl
@[simp] theorem zo7 (next : Tm -> H -> Prop) (t : Tm) (h : H) : zfo next Q .ret t h = Q .ret t h := _root_.id rfl
@[simp] theorem zoP (next : Tm -> H -> Prop) (i : Nat) (t : Tm) (h : H) : zfo next Q (.exit i) t h = Q (.exit i) t h := _root_.id rfl
@[simp] theorem zmd (id : Nat) (t : Tm) (h : H) : zcF id Q .normal t h = Q .normal t h := _root_.id rfl
@[simp] theorem zoq (id : Nat) (t : Tm) (h : H) : zcF id Q .ret t h = Q .ret t h := _root_.id rfl
@[simp] theorem zm5 (id i : Nat) (t : Tm) (h : H) : zcF id Q (.exit i) t h = if i = id then Q .normal t h else Q (.exit i) t h := _root_.id rfl
theorem zbM {ops : List SI} {t : Tm} {h : H} (c : Swp P (Q .normal) ops t h) : Cwp P (.dreg [] ops) Q t h := .inl ⟨rfl, c⟩
def sopK (P : Program) (K : Tm -> H -> Prop) (d : Option Nat) (is : List SI) (t : Tm) (h : H) (r : Option (V × D)) : Prop :=
 match r with
 | some (v, dd) => Swp P K is (t.put d v) (h.app dd)
 | none => False
@[simp] theorem zp2 (K : Tm -> H -> Prop) (d : Option Nat) (is : List SI) (t : Tm) (h : H) (v : V) (dd : D) : sopK P K d is t h (some (v, dd)) = Swp P K is (t.put d v) (h.app dd) := _root_.id rfl
def zbN (P : Program) (K : Tm -> H -> Prop) (w : Bool) (d : Option Nat) (x : X) (is : List SI) (t : Tm) (h : H) (g : V) : Prop :=
 match g with
 | .bool b => if (b == w) = true then Swp P K (⟨d, none, x⟩ :: is) t h else Swp P K is (t.put d .undef) h
 | .tup [] => Swp P K is (t.put d .undef) h
 | _ => False
def zmF (P : Program) (K : Tm -> H -> Prop) (d : Option Nat) (is : List SI) (t : Tm) (h : H) (f : V) (args : List V) : Prop :=
 ∃ Q' : V -> H -> Prop, (∃ v h', Q' v h') ∧ zdA P f args h Q' ∧ ∀ v h', Q' v h' -> Swp P K is (t.put d v) h'
section
variable (K : Tm -> H -> Prop) (d : Option Nat) (x : X) (is : List SI) (t : Tm) (h : H)
@[simp] theorem zr5 : Swp P K [] t h = K t h := _root_.id rfl
@[simp] theorem zoU : zbN P K true d x is t h (.bool true) = Swp P K (⟨d, none, x⟩ :: is) t h := by simp [zbN]
@[simp] theorem zo2 : zbN P K false d x is t h (.bool false) = Swp P K (⟨d, none, x⟩ :: is) t h := by simp [zbN]
@[simp] theorem zo3 : zbN P K false d x is t h (.bool true) = Swp P K is (t.put d .undef) h := by simp [zbN]
@[simp] theorem zoN : zbN P K true d x is t h (.bool false) = Swp P K is (t.put d .undef) h := by simp [zbN]
@[simp] theorem zlb (w : Bool) : zbN P K w d x is t h .undef = Swp P K is (t.put d .undef) h := _root_.id rfl
@[simp] theorem zkR (w : Bool) : zbN P K w d x is t h (.tup []) = Swp P K is (t.put d .undef) h := _root_.id rfl
@[simp] theorem zr9 (i : I) : Swp P K (⟨d, none, .op i⟩ :: is) t h = sopK P K d is t h (exec i t h.get h.next) := by
 simp only [Swp, Sstep, zao, sopK]
 split <;> rename_i e <;> simp only [e]
@[simp] theorem zpt (g : Nat) (w : Bool) : Swp P K (⟨d, some (g, w), x⟩ :: is) t h = zbN P K w d x is t h (t g) := by
 simp only [Swp, Sstep, zao, zbN]
 split
 ·rename_i e
  split at e <;> first | (cases e; done) | skip
  rename_i _ h1 h2
  split
  ·rename_i e'; exact absurd e' (h1 _)
  ·rename_i e'; exact absurd e' h2
  ·rfl
 ·rename_i e
  split at e
  ·rename_i b hb
   simp only [Option.some.injEq] at e
   rw [hb]
   simp [e]
  ·rename_i hb; rw [hb]
  ·cases e
 ·rename_i e
  split at e
  ·rename_i b hb
   simp only [Option.some.injEq] at e
   rw [hb]
   simp [e]
  ·cases e
  ·cases e
@[simp] theorem zqG (f : A) (args : List A) : Swp P K (⟨d, none, .call f args⟩ :: is) t h = zmF P K d is t h (f.ev t) (args.map (·.ev t)) := _root_.id rfl
end
theorem zew {K : Tm -> H -> Prop} {d : Option Nat} {is : List SI} {t : Tm} {h : H} {g : FuncId} {first cap args : List V} {v : V} {h' : H} (c : ∀ Q : V -> H -> Prop, Q v h' -> Acalls P g (first ++ args ++ cap) h Q) (k : Swp P K is (t.put d v) h') : zmF P K d is t h (.func (.func g) first cap) args :=
 ⟨fun u h2 => u = v ∧ h2 = h', ⟨v, h', rfl, rfl⟩, c _ ⟨rfl, rfl⟩, by rintro u h2 ⟨rfl, rfl⟩; exact k⟩
def resK (r : Option (List V)) (h : H) (Q : V -> H -> Prop) : Prop :=
 match r with
 | some vs => Q (tupV vs) h
 | none => False
@[simp] theorem zqt (vs : List V) (h : H) (Q : V -> H -> Prop) : resK (some vs) h Q = Q (tupV vs) h := _root_.id rfl
@[simp] theorem znO (rs : List RV) (R : V -> H -> Prop) (t : Tm) (h : H) : zdB rs R .ret t h = resK (zbL h.get t rs) h R := _root_.id rfl
@[simp] theorem zkS (rs : List RV) (R : V -> H -> Prop) (t : Tm) (h : H) : zdB rs R .normal t h = resK (zbL h.get t rs) h R := _root_.id rfl
@[simp] theorem zpM (g : Nat -> Option O) (t : Tm) : zbL g t [] = some [] := _root_.id rfl
@[simp] theorem zpU (g : Nat -> Option O) (t : Tm) (k : Nat) (rs : List RV) : zbL g t (.tmp k :: rs) = (zbL g t rs).map (t k :: ·) := by
 simp only [zbL, resV]; cases zbL g t rs <;> rfl
@[simp] theorem zoZ (g : Nat -> Option O) (t : Tm) (k n : Nat) (a : Bool) (rs : List RV) : zbL g t (.cell k a n :: rs) = (zdj g a n (t k)).bind fun v => (zbL g t rs).map (v :: ·) := by
 simp only [zbL, resV]; cases zdj g a n (t k) with
 | none => rfl
 | some v => simp only [Option.bind_some]; cases zbL g t rs <;> rfl
@[simp] theorem zrk : tupV [] = .tup [] := _root_.id rfl
@[simp] theorem zq3 (v : V) : tupV [v] = v := _root_.id rfl
@[simp] theorem zq8 (v u : V) (vs : List V) : tupV (v :: u :: vs) = .tup (v :: u :: vs) := _root_.id rfl

@[simp] theorem zoj (v : V) : zam (some v) = some (v, .keep) := _root_.id rfl
def zix (off : Nat) : V -> Option V
 | .ptr i n o => some (.ptr i n (o + off))
 | .gp g o => some (.gp g (o + off))
 | _ => none
def zkg (agg : Bool) (off n : Nat) : V -> Option V
 | .agg cs => zb0 agg off n cs
 | _ => none
def znN (i : Nat) : V -> Option V
 | .tup vs => vs[i]?
 | _ => none
def cidV : V -> Option V
 | .str s => some (.str s)
 | _ => none
def boxV (next : Nat) (v : V) : Option (V × D) := if v.solid then some (.ptr next v.cells.length 0, .push (.row v.cells)) else none
def mapD (d : Option D) : Option (V × D) := d.map fun d => (.undef, d)
section
variable (t : Nat -> V) (g : Nat -> Option O) (n : Nat)
@[simp] theorem zqT (x : A) : exec (.mov x) t g n = some (x.ev t, .keep) := _root_.id rfl
@[simp] theorem zqb (c a b : A) : exec (.pick c a b) t g n = zam (zg0 (c.ev t) (a.ev t) (b.ev t)) := _root_.id rfl
@[simp] theorem zox (z : List V) : exec (.alloc z) t g n = some (.ptr n z.length 0, .push (.row z)) := _root_.id rfl
@[simp] theorem zqX (x : A) : exec (.box x) t g n = boxV n (x.ev t) := _root_.id rfl
@[simp] theorem zmo (ty : TypeId) (x : A) : exec (.mkIface ty x) t g n = some (.iface ty (x.ev t), .keep) := _root_.id rfl
@[simp] theorem zoB (z : List V) (ps : List (Nat × Nat × A)) : exec (.build z ps) t g n = zam ((zcI z (ps.map fun (o, n, x) => (o, n, x.ev t))).map .agg) := _root_.id rfl
@[simp] theorem zjN (sz len : Nat) (z : List V) (ps : List (Nat × A)) : exec (.buildSlice sz len z ps) t g n = (zcI (zaq len z) (ps.map fun (k, x) => (k * sz, sz, x.ev t))).map fun cs => (.sl n (len * sz) 0 len (some len), .push (.row cs)) := _root_.id rfl
@[simp] theorem zqg (a : Bool) (m : Nat) (x : A) : exec (.load a m x) t g n = zam (zdj g a m (x.ev t)) := _root_.id rfl
@[simp] theorem zoV (m : Nat) (a x : A) : exec (.store m a x) t g n = mapD (zdF g m (a.ev t) (x.ev t)) := _root_.id rfl
@[simp] theorem zol (x : A) : exec (.nilchk x) t g n = zam (zcN (x.ev t)) := _root_.id rfl
@[simp] theorem zrh (op : BinOp) (x y : A) : exec (.bin op x y) t g n = zam (binV op (x.ev t) (y.ev t)) := _root_.id rfl
@[simp] theorem zrQ (b : Bool) (ts : TS) (x y : A) : exec (.eq b ts x y) t g n = zam ((eqV ts (x.ev t) (y.ev t)).map fun r => .bool (if b then !r else r)) := _root_.id rfl
@[simp] theorem zrK (op : UnOp) (x : A) : exec (.un op x) t g n = zam (unV op (x.ev t)) := _root_.id rfl
@[simp] theorem zmy (k : IntKind) (x : A) : exec (.convInt k x) t g n = zam ((zgA (x.ev t)).map fun m => .int k (k.wrap m)) := _root_.id rfl
@[simp] theorem zoc (x : A) : exec (.convId x) t g n = zam (cidV (x.ev t)) := by simp only [exec, cidV]; cases x.ev t <;> rfl
@[simp] theorem zo4 (x : A) : exec (.strOf x) t g n = zam (zen g (x.ev t)) := _root_.id rfl
@[simp] theorem zkQ (o : Nat) (x : A) : exec (.fieldAddr o x) t g n = zam (zix o (x.ev t)) := by simp only [exec, zix]; cases x.ev t <;> rfl
@[simp] theorem zo6 (a : Bool) (o m : Nat) (x : A) : exec (.field a o m x) t g n = zam (zkg a o m (x.ev t)) := by simp only [exec, zkg]; cases x.ev t <;> rfl
@[simp] theorem zkT (s : Nat) (x i : A) : exec (.indexAddr s x i) t g n = zam (zaA s (x.ev t) (i.ev t)) := _root_.id rfl
@[simp] theorem ziV (l s : Nat) (x i : A) : exec (.indexAddrArr l s x i) t g n = zam (za4 l s (x.ev t) (i.ev t)) := _root_.id rfl
@[simp] theorem zqH (e : StIn) (x y : A) : exec (.ext e x y) t g n = zam (extV e (x.ev t) (y.ev t)) := _root_.id rfl
@[simp] theorem zov (s : List UInt8) (c : Int) : extV .indexByte (.str s) (.int .u8 c) = some (.int .i64 (Go.Lib.indexByte s c.toNat.toUInt8)) := _root_.id rfl
@[simp] theorem zow (s : List UInt8) (c : Int) : extV .count (.str s) (.int .u8 c) = some (.int .i64 (Go.Lib.countByte s c.toNat.toUInt8 : Nat)) := _root_.id rfl
@[simp] theorem zmP (s u : List UInt8) : extV .compare (.str s) (.str u) = some (.int .i64 (Go.Lib.compareBytes s u)) := _root_.id rfl
@[simp] theorem zoM (k : Nat) (fn : List V -> Option V) (args : List A) : exec (.pcall k fn args) t g n = zam (fn (args.map (·.ev t))) := _root_.id rfl
@[simp] theorem zlk (x i : A) : exec (.indexStr x i) t g n = zam (zbZ (x.ev t) (i.ev t)) := _root_.id rfl
@[simp] theorem zlj (a : Bool) (l s : Nat) (x i : A) : exec (.indexArr a l s x i) t g n = zam (zc1 a l s (x.ev t) (i.ev t)) := _root_.id rfl
@[simp] theorem zll (x : A) (lo hi : Option A) : exec (.sliceStr x lo hi) t g n = zam (zbW (lo.map (·.ev t)) (hi.map (·.ev t)) (x.ev t)) := _root_.id rfl
@[simp] theorem zpY (s : Nat) (x hi : A) : exec (.resl s x hi) t g n = zam ((zay s none (some (hi.ev t)) none (x.ev t)).or (zi7 g s (hi.ev t) (x.ev t))) := _root_.id rfl
@[simp] theorem zmS (s : Nat) (x : A) (lo hi mx : Option A) : exec (.sliceSl s x lo hi mx) t g n = zam (zay s (lo.map (·.ev t)) (hi.map (·.ev t)) (mx.map (·.ev t)) (x.ev t)) := _root_.id rfl
@[simp] theorem zkX (l s : Nat) (x : A) (lo hi mx : Option A) : exec (.sliceArr l s x lo hi mx) t g n = zam (zfc l s (lo.map (·.ev t)) (hi.map (·.ev t)) (mx.map (·.ev t)) (x.ev t)) := _root_.id rfl
@[simp] theorem zkU (s b : Nat) (z : List V) (l c : A) : exec (.makeSlice s b z l c) t g n = zaH n s b z (l.ev t) (c.ev t) := _root_.id rfl
@[simp] theorem zlA (f : Fn) (a c : List A) : exec (.makeFunc f a c) t g n = some (.func f (a.map (·.ev t)) (c.map (·.ev t)), .keep) := _root_.id rfl
@[simp] theorem zmr (x : A) (i : Nat) : exec (.extract x i) t g n = zam (znN i (x.ev t)) := by simp only [exec, znN]; cases x.ev t <;> rfl
@[simp] theorem zrd (k : Nat) (x : A) : exec (.len k x) t g n = zam (lenV k g (x.ev t)) := _root_.id rfl
@[simp] theorem znW (s b : Nat) (x y : A) : exec (.append s b x y) t g n = zaG g n s b (x.ev t) (y.ev t) := _root_.id rfl
@[simp] theorem zm7 (m : Bool) (x : A) (r : List A) : exec (.minmax m x r) t g n = zam (minmaxV m (x.ev t) (r.map (·.ev t))) := _root_.id rfl
@[simp] theorem zmC : exec .makeMap t g n = some (.map n, .push (.mapo [] [] 0)) := _root_.id rfl
@[simp] theorem znd (kd : KD) (z : V) (ok : Bool) (x k : A) : exec (.lookup kd z ok x k) t g n = zam (zcw g kd z ok (x.ev t) (k.ev t)) := _root_.id rfl
@[simp] theorem znu (kd : KD) (x k v : A) : exec (.mapSet kd x k v) t g n = mapD (zcj g kd (x.ev t) (k.ev t) (v.ev t)) := _root_.id rfl
@[simp] theorem zn5 (kd : KD) (x k : A) : exec (.mapDel kd x k) t g n = mapD (zch g kd (x.ev t) (k.ev t)) := _root_.id rfl
@[simp] theorem zpp (s : Nat) (d x : A) : exec (.copy s d x) t g n = zhy g s (d.ev t) (x.ev t) := _root_.id rfl
@[simp] theorem zmp (s : Nat) (z : List V) (x : A) : exec (.clearSl s z x) t g n = mapD (zcz g z (x.ev t)) := _root_.id rfl
@[simp] theorem zlO (x : A) : exec (.clearMap x) t g n = mapD (zbY g (x.ev t)) := _root_.id rfl
end
@[simp] theorem zpr (d : D) : mapD (some d) = some (.undef, d) := _root_.id rfl
@[simp] theorem zrg (h : H) : h.app .keep = h := _root_.id rfl
@[simp] theorem zgf (h : H) (i : Nat) (o : O) : h.app (.set i o) = h.set i o := _root_.id rfl
@[simp] theorem zeB (h : H) (o : O) : h.app (.push o) = h.push o := _root_.id rfl
@[simp] theorem zqj (off g o : Nat) : zix off (.gp g o) = some (.gp g (o + off)) := _root_.id rfl
@[simp] theorem zos (off i n o : Nat) : zix off (.ptr i n o) = some (.ptr i n (o + off)) := _root_.id rfl
@[simp] theorem zor (a : Bool) (o n : Nat) (cs : List V) : zkg a o n (.agg cs) = zb0 a o n cs := _root_.id rfl
@[simp] theorem zoX (o n : Nat) (cs : List V) : zb0 true o n cs = some (.agg ((cs.drop o).take n)) := _root_.id rfl
@[simp] theorem znC (o n : Nat) (cs : List V) : zb0 false o n cs = cs[o]? := _root_.id rfl
@[simp] theorem zpz (i : Nat) (vs : List V) : znN i (.tup vs) = vs[i]? := _root_.id rfl
@[simp] theorem zq0 (s : List UInt8) : cidV (.str s) = some (.str s) := _root_.id rfl
@[simp] theorem zqJ (n : Nat) (cs : List V) : boxV n (.agg cs) = if cs.all V.one then some (.ptr n cs.length 0, .push (.row cs)) else none := _root_.id rfl
@[simp] theorem zqC (n : Nat) (k : IntKind) (x : Int) : boxV n (.int k x) = some (.ptr n 1 0, .push (.row [.int k x])) := _root_.id rfl
@[simp] theorem zqI (n : Nat) (s : List UInt8) : boxV n (.str s) = some (.ptr n 1 0, .push (.row [.str s])) := _root_.id rfl
@[simp] theorem zpn (n : Nat) (b : Bool) : boxV n (.bool b) = some (.ptr n 1 0, .push (.row [.bool b])) := _root_.id rfl
@[simp] theorem zot (a b : V) : zg0 (.bool true) a b = some a := _root_.id rfl
@[simp] theorem zof (a b : V) : zg0 (.bool false) a b = some b := _root_.id rfl
@[simp] theorem zqh (c d : Bool) : zg0 (.bool c) (.bool d) (.bool false) = some (.bool (c && d)) := by cases c <;> rfl
@[simp] theorem zrs (c d : Bool) : zg0 (.bool c) (.bool true) (.bool d) = some (.bool (c || d)) := by cases c <;> rfl
@[simp] theorem znB (i n o : Nat) : zcN (.ptr i n o) = some (.ptr i n o) := _root_.id rfl
@[simp] theorem zou (g o : Nat) : zcN (.gp g o) = some (.gp g o) := _root_.id rfl
@[simp] theorem zmE (f : FuncId) (a b : List V) : zcN (.func (.func f) a b) = some (.func (.func f) a b) := _root_.id rfl
@[simp] theorem zoH (k : IntKind) (n : Int) : zgA (.int k n) = some n := _root_.id rfl
@[simp] theorem zq5 (op : BinOp) (a b : List UInt8) : binV op (.str a) (.str b) = strV op a b := _root_.id rfl
@[simp] theorem zqY (op : BinOp) (k k' : IntKind) (a b : Int) : binV op (.int k a) (.int k' b) = if zc2 op then zcT op k a b else if k = k' then intV op k a b else none := _root_.id rfl
attribute [simp] zc2
@[simp] theorem zre (x y : List UInt8) : strV .add x y = if x.length + y.length ≤ 9223372036854775807 then some (.str (x ++ y)) else none := _root_.id rfl
@[simp] theorem zra (x y : List UInt8) : strV .eql x y = some (.bool (x == y)) := _root_.id rfl
@[simp] theorem zqB (x y : List UInt8) : strV .neq x y = some (.bool (!(x == y))) := _root_.id rfl
@[simp] theorem zq9 (x y : List UInt8) : strV .lss x y = some (.bool (Op.bytesLess x y)) := _root_.id rfl
@[simp] theorem zrx (b : Bool) : unV .not (.bool b) = some (.bool (!b)) := _root_.id rfl
@[simp] theorem zry (k : IntKind) (n : Int) : unV .neg (.int k n) = some (.int k (k.wrap (0 - n))) := _root_.id rfl
@[simp] theorem zqc (cs : List V) : zcI cs [] = some cs := _root_.id rfl
@[simp] theorem zoK (cs : List V) (o n : Nat) (v : V) (r : List (Nat × Nat × V)) : zcI cs ((o, n, v) :: r) = if v.solid && v.cells.length == n && decide (o + n ≤ cs.length) then zcI (putCells cs o v.cells) r else none := _root_.id rfl
@[simp] theorem zpk (k : IntKind) (n : Int) : (V.int k n).solid = true := _root_.id rfl
@[simp] theorem zoO (b : Bool) : (V.bool b).solid = true := _root_.id rfl
@[simp] theorem zp0 (s : List UInt8) : (V.str s).solid = true := _root_.id rfl
@[simp] theorem zok : V.nilsl.solid = true := _root_.id rfl
@[simp] theorem zqf (cs : List V) : (V.agg cs).solid = cs.all V.one := _root_.id rfl
@[simp] theorem zql (cs : List V) : (V.agg cs).cells = cs := _root_.id rfl
@[simp] theorem zqq (k : IntKind) (n : Int) : (V.int k n).cells = [.int k n] := _root_.id rfl
@[simp] theorem zoQ (b : Bool) : (V.bool b).cells = [.bool b] := _root_.id rfl
@[simp] theorem zpm (s : List UInt8) : (V.str s).cells = [.str s] := _root_.id rfl
@[simp] theorem znq : V.nilsl.cells = [.nilsl] := _root_.id rfl
@[simp] theorem zq1 (i n o l : Nat) (c : Option Nat) : (V.sl i n o l c).cells = [.sl i n o l c] := _root_.id rfl
@[simp] theorem zru (k : IntKind) (n : Int) : (V.int k n).one = true := _root_.id rfl
@[simp] theorem zrf (b : Bool) : (V.bool b).one = true := _root_.id rfl
@[simp] theorem zrM (s : List UInt8) : (V.str s).one = true := _root_.id rfl
@[simp] theorem zp4 : V.nilsl.one = true := _root_.id rfl
@[simp] theorem zrD : V.slz.one = true := _root_.id rfl
@[simp] theorem zsa (i n o l : Nat) (c : Option Nat) : (V.sl i n o l c).one = true := _root_.id rfl
@[simp] theorem zrG (i n o : Nat) : (V.ptr i n o).one = true := _root_.id rfl
theorem zbd {v : V} (h : v.one = true) : v.cells = [v] := by cases v <;> first | rfl | cases h
theorem zbe {v : V} (h : v.one = true) : v.solid = true := by cases v <;> first | rfl | cases h
@[simp] theorem zqr (g : Nat -> Option O) (a : Bool) (n i m o : Nat) : zdj g a n (.ptr i m o) = (zab g i m).bind fun cs => if a then (if o + n ≤ cs.length then some (.agg ((cs.drop o).take n)) else none) else cs[o]? := by
 simp only [zdj]; cases zab g i m <;> rfl
@[simp] theorem zq6 (g : Nat -> Option O) (a : Bool) (n b o : Nat) : zdj g a n (.gp b o) = (GT.lookup b).bind fun cs => if a then (if o + n ≤ cs.length then some (.agg ((cs.drop o).take n)) else none) else cs[o]? := by
 simp only [zdj]; cases GT.lookup b <;> rfl
@[simp] theorem zoR (g : Nat -> Option O) (n i m o : Nat) (x : V) : zdF g n (.ptr i m o) x = if x.solid && x.cells.length == n then (g i).bind fun ob => if ob.len = m then (ob.put o x.cells).map (D.set i) else none else none := by
 simp only [zdF]; cases g i <;> rfl
@[simp] theorem zkD (cs xs : List V) (o : Nat) : (O.row cs).put o xs = if o + xs.length ≤ cs.length then some (.row (putCells cs o xs)) else none := _root_.id rfl
@[simp] theorem zh1 (s : Nat) (cs xs : List V) (o : Nat) : (O.grow s cs).put o xs = if o + xs.length ≤ cs.length then some (.grow s (putCells cs o xs)) else none := _root_.id rfl
@[simp] theorem znI (cs : List V) : (O.row cs).len = cs.length := _root_.id rfl
@[simp] theorem zqy (s : Nat) (cs : List V) : (O.grow s cs).len = cs.length := _root_.id rfl
@[simp] theorem zmD (cs : List V) : (O.ro cs).len = cs.length := _root_.id rfl
@[simp] theorem zjl (cs : List V) : (O.row cs).cells = cs := _root_.id rfl
@[simp] theorem zjf (s : Nat) (cs : List V) : (O.grow s cs).cells = cs := _root_.id rfl
@[simp] theorem zk0 (cs : List V) : (O.ro cs).cells = cs := _root_.id rfl
theorem zai {g : Nat -> Option O} {i n : Nat} {o : O} (h : g i = some o) (hn : o.len = n) : zab g i n = some o.cells := by simp [zab, h, hn]
@[simp] theorem zlI (h : H) (o : O) : (h.push o).get h.next = some o := by simp [H.get_push]
@[simp] theorem zmG (h : H) (i : Nat) (o : O) : (h.set i o).get i = some o := by simp [H.get_set]
@[simp] theorem zbQ (s i n o l : Nat) (c : Option Nat) (k : IntKind) (m : Int) : zaA s (.sl i n o l c) (.int k m) = if 0 ≤ m ∧ m < l then some (.ptr i n (o + m.toNat * s)) else none := _root_.id rfl
@[simp] theorem ziI (l s i n o : Nat) (k : IntKind) (m : Int) : za4 l s (.ptr i n o) (.int k m) = if 0 ≤ m ∧ m < l then some (.ptr i n (o + m.toNat * s)) else none := _root_.id rfl
@[simp] theorem zjj (l s g o : Nat) (k : IntKind) (m : Int) : za4 l s (.gp g o) (.int k m) = if 0 ≤ m ∧ m < l then some (.gp g (o + m.toNat * s)) else none := _root_.id rfl
@[simp] theorem zk7 (s : List UInt8) (k : IntKind) (m : Int) : zbZ (.str s) (.int k m) = if 0 ≤ m then (s[m.toNat]?).map fun b => .int .u8 b.toNat else none := _root_.id rfl
@[simp] theorem zlp (a : Bool) (l s : Nat) (cs : List V) (k : IntKind) (m : Int) : zc1 a l s (.agg cs) (.int k m) = if 0 ≤ m ∧ m < l then zb0 a (m.toNat * s) s cs else none := _root_.id rfl
@[simp] theorem zqU (g : Nat -> Option O) (s : List UInt8) : lenV 0 g (.str s) = some (.int .i64 s.length) := _root_.id rfl
@[simp] theorem zrR (g : Nat -> Option O) (i n o l : Nat) (c : Option Nat) : lenV 1 g (.sl i n o l c) = some (.int .i64 l) := _root_.id rfl
@[simp] theorem zoT (g : Nat -> Option O) : lenV 1 g .nilsl = some (.int .i64 0) := _root_.id rfl
@[simp] theorem zrq (g : Nat -> Option O) : lenV 1 g .slz = some (.int .i64 0) := _root_.id rfl
@[simp] theorem zpN (g : Nat -> Option O) (i n o l : Nat) (c : Option Nat) : zen g (.sl i n o l c) = (zaB g 1 (.sl i n o l c)).bind fun p => (p.2.mapM u8Of).map .str := by
 simp only [zen]; cases zaB g 1 (.sl i n o l c) <;> rfl
@[simp] theorem zbx (d y : Nat) : zan d y none = some d := _root_.id rfl
@[simp] theorem znT (d y : Nat) (k : IntKind) (n : Int) : zan d y (some (.int k n)) = if 0 ≤ n ∧ n ≤ (y : Int) then some n.toNat else none := _root_.id rfl
@[simp] theorem zln (lo hi : Option V) (s : List UInt8) : zbW lo hi (.str s) = (zan s.length s.length hi).bind fun h => (zan 0 h lo).bind fun l => some (.str ((s.take h).drop l)) := by
 simp only [zbW]; cases zan s.length s.length hi with
 | none => rfl
 | some h => simp only [Option.bind_some]; cases zan 0 h lo <;> rfl
@[simp] theorem znM (k k' : IntKind) (x y : Int) : minmaxV false (.int k x) [.int k' y] = if k = k' then some (.int k (if y < x then y else x)) else none := by simp [minmaxV]
@[simp] theorem zm3 (k k' : IntKind) (x y : Int) : minmaxV true (.int k x) [.int k' y] = if k = k' then some (.int k (if x < y then y else x)) else none := by simp [minmaxV]
@[simp] theorem zrc (k : IntKind) (x y : Int) : intV .add k x y = some (.int k (k.wrap (x + y))) := _root_.id rfl
@[simp] theorem zqK (k : IntKind) (x y : Int) : intV .sub k x y = some (.int k (k.wrap (x - y))) := _root_.id rfl
@[simp] theorem zqz (k : IntKind) (x y : Int) : intV .mul k x y = some (.int k (k.wrap (x * y))) := _root_.id rfl
@[simp] theorem zrj (k : IntKind) (x y : Int) : intV .eql k x y = some (.bool (x == y)) := _root_.id rfl
@[simp] theorem zrr (k : IntKind) (x y : Int) : intV .neq k x y = some (.bool (x != y)) := _root_.id rfl
@[simp] theorem zqE (k : IntKind) (x y : Int) : intV .lss k x y = some (.bool (decide (x < y))) := _root_.id rfl
@[simp] theorem zqx (k : IntKind) (x y : Int) : intV .leq k x y = some (.bool (decide (x ≤ y))) := _root_.id rfl
@[simp] theorem zqW (k : IntKind) (x y : Int) : intV .gtr k x y = some (.bool (decide (y < x))) := _root_.id rfl
@[simp] theorem zqM (k : IntKind) (x y : Int) : intV .geq k x y = some (.bool (decide (y ≤ x))) := _root_.id rfl
@[simp] theorem zi6 (k : IntKind) (x y : Int) (hy : 0 ≤ y) : zcT .shr k x y = some (.int k (x.fdiv (2 ^ min y.toNat k.bits))) := by
 unfold zcT; rw [if_neg (by omega)]
@[simp] theorem zoE (k : IntKind) (x y : Int) (hy : 0 ≤ y) : zcT .shl k x y = some (.int k (k.wrap (x * 2 ^ min y.toNat k.bits))) := by
 unfold zcT; rw [if_neg (by omega)]
theorem zaf {n : Int} (h1 : -9223372036854775808 ≤ n) (h2 : n ≤ 9223372036854775807) : IntKind.i64.wrap n = n := by
 rw [IntKind.wrap_i64]; omega
end Go.Am
