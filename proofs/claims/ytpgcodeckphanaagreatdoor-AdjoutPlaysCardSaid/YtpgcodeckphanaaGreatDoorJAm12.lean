/-
 AM, PART 12. The walk: rules for simp, and what simp must leave alone.
-/
import Derived.Test.YtpgcodeckphanaaGreatDoorJAm11
namespace Go.Am

@[simp] theorem Tm.put_some (t : Tm) (d k : Nat) (v : V) : (t.put (some d) v) k = if k = d then v else t k := _root_.id rfl
@[simp] theorem Tm.put_none (t : Tm) (v : V) : t.put none v = t := _root_.id rfl
@[simp] theorem zmF (args : List V) (k : Nat) : zeA args k = (args[k]?).getD .undef := _root_.id rfl
@[simp] theorem A.ev_t (t : Nat -> V) (i : Nat) : A.ev t (.t i) = t i := _root_.id rfl
@[simp] theorem A.ev_c (t : Nat -> V) (v : V) : A.ev t (.c v) = v := _root_.id rfl

variable {P : Program}
def opK (P : Program) (K : Tm -> H -> Prop) (d : Option Nat) (is : List SI) (t : Tm) (h : H) (r : Option (V × D)) : Prop :=
 match r with
 | some (v, dd) => Owp P K is (t.put d v) (h.app dd)
 | none => False
@[simp] theorem zqI (K : Tm -> H -> Prop) (d : Option Nat) (is : List SI) (t : Tm) (h : H) (v : V) (dd : D) : opK P K d is t h (some (v, dd)) = Owp P K is (t.put d v) (h.app dd) := _root_.id rfl
def zcl (P : Program) (K : Tm -> H -> Prop) (w : Bool) (d : Option Nat) (x : X) (is : List SI) (t : Tm) (h : H) (g : V) : Prop :=
 match g with
 | .bool b => if (b == w) = true then Owp P K (⟨d, none, x⟩ :: is) t h else Owp P K is (t.put d .undef) h
 | .tup [] => Owp P K is (t.put d .undef) h
 | _ => False
section
variable (K : Tm -> H -> Prop) (d : Option Nat) (x : X) (is : List SI) (t : Tm) (h : H)
@[simp] theorem zpi : zcl P K true d x is t h (.bool true) = Owp P K (⟨d, none, x⟩ :: is) t h := by simp [zcl]
@[simp] theorem zpx : zcl P K false d x is t h (.bool false) = Owp P K (⟨d, none, x⟩ :: is) t h := by simp [zcl]
@[simp] theorem zqv : zcl P K false d x is t h (.bool true) = Owp P K is (t.put d .undef) h := by simp [zcl]
@[simp] theorem zqj : zcl P K true d x is t h (.bool false) = Owp P K is (t.put d .undef) h := by simp [zcl]
@[simp] theorem zmw (w : Bool) : zcl P K w d x is t h .undef = Owp P K is (t.put d .undef) h := _root_.id rfl
@[simp] theorem zl9 (w : Bool) : zcl P K w d x is t h (.tup []) = Owp P K is (t.put d .undef) h := _root_.id rfl
end
def retK (P : Program) (K : Tm -> H -> Prop) (d : Option Nat) (is : List SI) (t : Tm) (v : V) (h : H) : Prop := Owp P K is (t.put d v) h
@[simp] theorem zrN (K : Tm -> H -> Prop) (d : Option Nat) (is : List SI) (t : Tm) (v : V) (h : H) : retK P K d is t v h = Owp P K is (t.put d v) h := _root_.id rfl
def zjk (P : Program) (f : V) (args : List V) (h : H) (Q : V -> H -> Prop) : Prop := zdT P f args h Q
@[simp] theorem zoZ (g : FuncId) (first cap args : List V) (h : H) (Q : V -> H -> Prop) : zjk P (.func (.func g) first cap) args h Q = Acalls P g (first ++ args ++ cap) h Q := _root_.id rfl
@[simp] theorem zrt (i : Nat) (args : List V) (h : H) (Q : V -> H -> Prop) : zjk P (.yl i) args h Q = Ayields P i args h Q := _root_.id rfl
@[simp] theorem znt (args : List V) (h : H) (Q : V -> H -> Prop) : zjk P (.sl 0 0 0 1 (some 0)) args h Q = zmS args h Q := _root_.id rfl
@[simp] theorem zoF (args : List V) (h : H) (Q : V -> H -> Prop) : zjk P (.sl 0 0 0 2 (some 0)) args h Q = zpz args h Q := _root_.id rfl
@[simp] theorem znG (args : List V) (h : H) (Q : V -> H -> Prop) : zjk P (.sl 0 0 0 3 (some 0)) args h Q = zmA args h Q := _root_.id rfl

variable {K : Tm -> H -> Prop}
@[simp] theorem zrP (t : Tm) (h : H) : Owp P K [] t h = K t h := _root_.id rfl
@[simp] theorem zsl (d : Option Nat) (i : I) (is : List SI) (t : Tm) (h : H) : Owp P K (⟨d, none, .op i⟩ :: is) t h = opK P K d is t h (exec i t h.get h.next) := by
 simp only [Owp, zaq, opK]
 split <;> rename_i e <;> simp only [e]
@[simp] theorem zpL (d : Option Nat) (g : Nat) (w : Bool) (x : X) (is : List SI) (t : Tm) (h : H) : Owp P K (⟨d, some (g, w), x⟩ :: is) t h = zcl P K w d x is t h (t g) := by
 simp only [Owp, zaq, zcl]
 split
 ·rename_i e
  split at e <;> first | (cases e; done) | skip
  rename_i _ h1 h2
  split
  ·rename_i e'; exact absurd e' (h1 _)
  ·rename_i e'; exact absurd e' h2
  ·rfl
 ·rename_i e
  split at e
  ·rename_i b hb
   simp only [Option.some.injEq] at e
   rw [hb]
   simp [e]
  ·rename_i hb; rw [hb]
  ·cases e
 ·rename_i e
  split at e
  ·rename_i b hb
   simp only [Option.some.injEq] at e
   rw [hb]
   simp [e]
  ·cases e
  ·cases e
@[simp] theorem zru (d : Option Nat) (f : A) (args : List A) (is : List SI) (t : Tm) (h : H) : Owp P K (⟨d, none, .call f args⟩ :: is) t h = zjk P (f.ev t) (args.map (·.ev t)) h (retK P K d is t) := _root_.id rfl

variable {Q : Exit -> Tm -> H -> Prop}
def zhS (P : Program) (Q : Exit -> Tm -> H -> Prop) (a b : C) (t : Tm) (h : H) (c : V) : Prop := zeC c (Cwp P a Q t h) (Cwp P b Q t h)
@[simp] theorem zrx (t : Tm) (h : H) : Cwp P .skip Q t h = Q .normal t h := _root_.id rfl
@[simp] theorem zr0 (ops : List SI) (t : Tm) (h : H) : Cwp P (.reg ops) Q t h = Owp P (Q .normal) ops t h := _root_.id rfl
@[simp] theorem zrS (a b : C) (t : Tm) (h : H) : Cwp P (.seq a b) Q t h = Cwp P a (zfw (Cwp P b Q) Q) t h := _root_.id rfl
@[simp] theorem zrv (c : A) (a b : C) (t : Tm) (h : H) : Cwp P (.cond c a b) Q t h = zhS P Q a b t h (c.ev t) := _root_.id rfl
@[simp] theorem zpS (id : Nat) (b : C) (t : Tm) (h : H) : Cwp P (.block id b) Q t h = Cwp P b (zcV id Q) t h := _root_.id rfl
@[simp] theorem zqL (b : C) (t : Tm) (h : H) : Cwp P (.loop b) Q t h = zgf (Cwp P b) Q t h := _root_.id rfl
@[simp] theorem zqQ (id : Nat) (t : Tm) (h : H) : Cwp P (.exit id) Q t h = Q (.exit id) t h := _root_.id rfl
@[simp] theorem zsd (t : Tm) (h : H) : Cwp P .ret Q t h = Q .ret t h := _root_.id rfl
@[simp] theorem zo4 (a b : C) (t : Tm) (h : H) : zhS P Q a b t h (.bool true) = Cwp P a Q t h := by simp [zhS, zeC]
@[simp] theorem znf (a b : C) (t : Tm) (h : H) : zhS P Q a b t h (.bool false) = Cwp P b Q t h := by simp [zhS, zeC]
theorem zjt {a b : C} {t : Tm} {h : H} {c : Bool} (h1 : c = true -> Cwp P a Q t h) (h2 : c = false -> Cwp P b Q t h) : zhS P Q a b t h (.bool c) := ⟨h1, h2⟩
@[simp] theorem zm5 (next : Tm -> H -> Prop) (t : Tm) (h : H) : zfw next Q .normal t h = next t h := _root_.id rfl
@[simp] theorem zpA (next : Tm -> H -> Prop) (t : Tm) (h : H) : zfw next Q .ret t h = Q .ret t h := _root_.id rfl
@[simp] theorem zpa (next : Tm -> H -> Prop) (i : Nat) (t : Tm) (h : H) : zfw next Q (.exit i) t h = Q (.exit i) t h := _root_.id rfl
@[simp] theorem zl8 (id : Nat) (t : Tm) (h : H) : zcV id Q .normal t h = Q .normal t h := _root_.id rfl
@[simp] theorem zoC (id : Nat) (t : Tm) (h : H) : zcV id Q .ret t h = Q .ret t h := _root_.id rfl
@[simp] theorem zn9 (id i : Nat) (t : Tm) (h : H) : zcV id Q (.exit i) t h = if i = id then Q .normal t h else Q (.exit i) t h := _root_.id rfl
theorem zaL {ops : List SI} {t : Tm} {h : H} (c : Swp P (Q .normal) ops t h) : Cwp P (.dreg [] ops) Q t h := .inl ⟨rfl, c⟩
def sopK (P : Program) (K : Tm -> H -> Prop) (d : Option Nat) (is : List SI) (t : Tm) (h : H) (r : Option (V × D)) : Prop :=
 match r with
 | some (v, dd) => Swp P K is (t.put d v) (h.app dd)
 | none => False
@[simp] theorem zpl (K : Tm -> H -> Prop) (d : Option Nat) (is : List SI) (t : Tm) (h : H) (v : V) (dd : D) : sopK P K d is t h (some (v, dd)) = Swp P K is (t.put d v) (h.app dd) := _root_.id rfl
def zbR (P : Program) (K : Tm -> H -> Prop) (w : Bool) (d : Option Nat) (x : X) (is : List SI) (t : Tm) (h : H) (g : V) : Prop :=
 match g with
 | .bool b => if (b == w) = true then Swp P K (⟨d, none, x⟩ :: is) t h else Swp P K is (t.put d .undef) h
 | .tup [] => Swp P K is (t.put d .undef) h
 | _ => False
def zmU (P : Program) (K : Tm -> H -> Prop) (d : Option Nat) (is : List SI) (t : Tm) (h : H) (f : V) (args : List V) : Prop :=
 ∃ Q' : V -> H -> Prop, (∃ v h', Q' v h') ∧ zdT P f args h Q' ∧ ∀ v h', Q' v h' -> Swp P K is (t.put d v) h'
section
variable (K : Tm -> H -> Prop) (d : Option Nat) (x : X) (is : List SI) (t : Tm) (h : H)
@[simp] theorem zrT : Swp P K [] t h = K t h := _root_.id rfl
@[simp] theorem zoz : zbR P K true d x is t h (.bool true) = Swp P K (⟨d, none, x⟩ :: is) t h := by simp [zbR]
@[simp] theorem zoG : zbR P K false d x is t h (.bool false) = Swp P K (⟨d, none, x⟩ :: is) t h := by simp [zbR]
@[simp] theorem zoW : zbR P K false d x is t h (.bool true) = Swp P K is (t.put d .undef) h := by simp [zbR]
@[simp] theorem zoN : zbR P K true d x is t h (.bool false) = Swp P K is (t.put d .undef) h := by simp [zbR]
@[simp] theorem zlL (w : Bool) : zbR P K w d x is t h .undef = Swp P K is (t.put d .undef) h := _root_.id rfl
@[simp] theorem zld (w : Bool) : zbR P K w d x is t h (.tup []) = Swp P K is (t.put d .undef) h := _root_.id rfl
@[simp] theorem zso (i : I) : Swp P K (⟨d, none, .op i⟩ :: is) t h = sopK P K d is t h (exec i t h.get h.next) := by
 simp only [Swp, Sstep, zaq, sopK]
 split <;> rename_i e <;> simp only [e]
@[simp] theorem zqn (g : Nat) (w : Bool) : Swp P K (⟨d, some (g, w), x⟩ :: is) t h = zbR P K w d x is t h (t g) := by
 simp only [Swp, Sstep, zaq, zbR]
 split
 ·rename_i e
  split at e <;> first | (cases e; done) | skip
  rename_i _ h1 h2
  split
  ·rename_i e'; exact absurd e' (h1 _)
  ·rename_i e'; exact absurd e' h2
  ·rfl
 ·rename_i e
  split at e
  ·rename_i b hb
   simp only [Option.some.injEq] at e
   rw [hb]
   simp [e]
  ·rename_i hb; rw [hb]
  ·cases e
 ·rename_i e
  split at e
  ·rename_i b hb
   simp only [Option.some.injEq] at e
   rw [hb]
   simp [e]
  ·cases e
  ·cases e
@[simp] theorem zro (f : A) (args : List A) : Swp P K (⟨d, none, .call f args⟩ :: is) t h = zmU P K d is t h (f.ev t) (args.map (·.ev t)) := _root_.id rfl
end
theorem zbf {K : Tm -> H -> Prop} {d : Option Nat} {is : List SI} {t : Tm} {h : H} {g : FuncId} {first cap args : List V} {v : V} {h' : H} (c : ∀ Q : V -> H -> Prop, Q v h' -> Acalls P g (first ++ args ++ cap) h Q) (k : Swp P K is (t.put d v) h') : zmU P K d is t h (.func (.func g) first cap) args :=
 ⟨fun u h2 => u = v ∧ h2 = h', ⟨v, h', rfl, rfl⟩, c _ ⟨rfl, rfl⟩, by rintro u h2 ⟨rfl, rfl⟩; exact k⟩
def resK (r : Option (List V)) (h : H) (Q : V -> H -> Prop) : Prop :=
 match r with
 | some vs => Q (tupV vs) h
 | none => False
@[simp] theorem zqD (vs : List V) (h : H) (Q : V -> H -> Prop) : resK (some vs) h Q = Q (tupV vs) h := _root_.id rfl
@[simp] theorem znY (rs : List RV) (R : V -> H -> Prop) (t : Tm) (h : H) : zdI rs R .ret t h = resK (zbP h.get t rs) h R := _root_.id rfl
@[simp] theorem zlc (rs : List RV) (R : V -> H -> Prop) (t : Tm) (h : H) : zdI rs R .normal t h = resK (zbP h.get t rs) h R := _root_.id rfl
@[simp] theorem zpV (g : Nat -> Option O) (t : Tm) : zbP g t [] = some [] := _root_.id rfl
@[simp] theorem zqg (g : Nat -> Option O) (t : Tm) (k : Nat) (rs : List RV) : zbP g t (.tmp k :: rs) = (zbP g t rs).map (t k :: ·) := by
 simp only [zbP, resV]; cases zbP g t rs <;> rfl
@[simp] theorem zoT (g : Nat -> Option O) (t : Tm) (k n : Nat) (a : Bool) (rs : List RV) : zbP g t (.cell k a n :: rs) = (zdw g a n (t k)).bind fun v => (zbP g t rs).map (v :: ·) := by
 simp only [zbP, resV]; cases zdw g a n (t k) with
 | none => rfl
 | some v => simp only [Option.bind_some]; cases zbP g t rs <;> rfl
@[simp] theorem zqR : tupV [] = .tup [] := _root_.id rfl
@[simp] theorem zrz (v : V) : tupV [v] = v := _root_.id rfl
@[simp] theorem zq6 (v u : V) (vs : List V) : tupV (v :: u :: vs) = .tup (v :: u :: vs) := _root_.id rfl

@[simp] theorem zod (v : V) : zao (some v) = some (v, .keep) := _root_.id rfl
def ziL (off : Nat) : V -> Option V
 | .ptr i n o => some (.ptr i n (o + off))
 | .gp g o => some (.gp g (o + off))
 | _ => none
def zky (agg : Bool) (off n : Nat) : V -> Option V
 | .agg cs => zca agg off n cs
 | _ => none
def zon (i : Nat) : V -> Option V
 | .tup vs => vs[i]?
 | _ => none
def cidV : V -> Option V
 | .str s => some (.str s)
 | _ => none
def boxV (next : Nat) (v : V) : Option (V × D) := if v.solid then some (.ptr next v.cells.length 0, .push (.row v.cells)) else none
def mapD (d : Option D) : Option (V × D) := d.map fun d => (.undef, d)
section
variable (t : Nat -> V) (g : Nat -> Option O) (n : Nat)
@[simp] theorem zqO (x : A) : exec (.mov x) t g n = some (x.ev t, .keep) := _root_.id rfl
@[simp] theorem zpY (c a b : A) : exec (.pick c a b) t g n = zao (zhf (c.ev t) (a.ev t) (b.ev t)) := _root_.id rfl
@[simp] theorem zoK (z : List V) : exec (.alloc z) t g n = some (.ptr n z.length 0, .push (.row z)) := _root_.id rfl
@[simp] theorem zre (x : A) : exec (.box x) t g n = boxV n (x.ev t) := _root_.id rfl
@[simp] theorem zmT (ty : TypeId) (x : A) : exec (.mkIface ty x) t g n = some (.iface ty (x.ev t), .keep) := _root_.id rfl
@[simp] theorem zoV (z : List V) (ps : List (Nat × Nat × A)) : exec (.build z ps) t g n = zao ((zcY z (ps.map fun (o, n, x) => (o, n, x.ev t))).map .agg) := _root_.id rfl
@[simp] theorem zkr (sz len : Nat) (z : List V) (ps : List (Nat × A)) : exec (.buildSlice sz len z ps) t g n = (zcY (zax len z) (ps.map fun (k, x) => (k * sz, sz, x.ev t))).map fun cs => (.sl n (len * sz) 0 len (some len), .push (.row cs)) := _root_.id rfl
@[simp] theorem zqw (a : Bool) (m : Nat) (x : A) : exec (.load a m x) t g n = zao (zdw g a m (x.ev t)) := _root_.id rfl
@[simp] theorem zo0 (m : Nat) (a x : A) : exec (.store m a x) t g n = mapD (zeb g m (a.ev t) (x.ev t)) := _root_.id rfl
@[simp] theorem zns (x : A) : exec (.nilchk x) t g n = zao (zc3 (x.ev t)) := _root_.id rfl
@[simp] theorem zqH (op : BinOp) (x y : A) : exec (.bin op x y) t g n = zao (binV op (x.ev t) (y.ev t)) := _root_.id rfl
@[simp] theorem zr6 (b : Bool) (ts : TS) (x y : A) : exec (.eq b ts x y) t g n = zao ((eqV ts (x.ev t) (y.ev t)).map fun r => .bool (if b then !r else r)) := _root_.id rfl
@[simp] theorem zrK (op : UnOp) (x : A) : exec (.un op x) t g n = zao (unV op (x.ev t)) := _root_.id rfl
@[simp] theorem zmK (k : IntKind) (x : A) : exec (.convInt k x) t g n = zao ((zgA (x.ev t)).map fun m => .int k (k.wrap m)) := _root_.id rfl
@[simp] theorem zoi (x : A) : exec (.convId x) t g n = zao (cidV (x.ev t)) := by simp only [exec, cidV]; cases x.ev t <;> rfl
@[simp] theorem zoU (x : A) : exec (.strOf x) t g n = zao (zey g (x.ev t)) := _root_.id rfl
@[simp] theorem zle (o : Nat) (x : A) : exec (.fieldAddr o x) t g n = zao (ziL o (x.ev t)) := by simp only [exec, ziL]; cases x.ev t <;> rfl
@[simp] theorem zo6 (a : Bool) (o m : Nat) (x : A) : exec (.field a o m x) t g n = zao (zky a o m (x.ev t)) := by simp only [exec, zky]; cases x.ev t <;> rfl
@[simp] theorem zlg (s : Nat) (x i : A) : exec (.indexAddr s x i) t g n = zao (zaH s (x.ev t) (i.ev t)) := _root_.id rfl
@[simp] theorem zi9 (l s : Nat) (x i : A) : exec (.indexAddrArr l s x i) t g n = zao (zbb l s (x.ev t) (i.ev t)) := _root_.id rfl
@[simp] theorem zrk (e : StIn) (x y : A) : exec (.ext e x y) t g n = zao (extV e (x.ev t) (y.ev t)) := _root_.id rfl
@[simp] theorem zo9 (s : List UInt8) (c : Int) : extV .indexByte (.str s) (.int .u8 c) = some (.int .i64 (Go.Lib.indexByte s c.toNat.toUInt8)) := _root_.id rfl
@[simp] theorem zo3 (s : List UInt8) (c : Int) : extV .count (.str s) (.int .u8 c) = some (.int .i64 (Go.Lib.countByte s c.toNat.toUInt8 : Nat)) := _root_.id rfl
@[simp] theorem zmQ (s u : List UInt8) : extV .compare (.str s) (.str u) = some (.int .i64 (Go.Lib.compareBytes s u)) := _root_.id rfl
@[simp] theorem zoL (k : Nat) (fn : List V -> Option V) (args : List A) : exec (.pcall k fn args) t g n = zao (fn (args.map (·.ev t))) := _root_.id rfl
@[simp] theorem zl4 (x i : A) : exec (.indexStr x i) t g n = zao (zb8 (x.ev t) (i.ev t)) := _root_.id rfl
@[simp] theorem zmh (a : Bool) (l s : Nat) (x i : A) : exec (.indexArr a l s x i) t g n = zao (zc8 a l s (x.ev t) (i.ev t)) := _root_.id rfl
@[simp] theorem zlZ (x : A) (lo hi : Option A) : exec (.sliceStr x lo hi) t g n = zao (zb1 (lo.map (·.ev t)) (hi.map (·.ev t)) (x.ev t)) := _root_.id rfl
@[simp] theorem zpP (s : Nat) (x hi : A) : exec (.resl s x hi) t g n = zao ((zaB s none (some (hi.ev t)) none (x.ev t)).or (zjA g s (hi.ev t) (x.ev t))) := _root_.id rfl
@[simp] theorem zm7 (s : Nat) (x : A) (lo hi mx : Option A) : exec (.sliceSl s x lo hi mx) t g n = zao (zaB s (lo.map (·.ev t)) (hi.map (·.ev t)) (mx.map (·.ev t)) (x.ev t)) := _root_.id rfl
@[simp] theorem zlS (l s : Nat) (x : A) (lo hi mx : Option A) : exec (.sliceArr l s x lo hi mx) t g n = zao (zfq l s (lo.map (·.ev t)) (hi.map (·.ev t)) (mx.map (·.ev t)) (x.ev t)) := _root_.id rfl
@[simp] theorem zlf (s b : Nat) (z : List V) (l c : A) : exec (.makeSlice s b z l c) t g n = zdu n s b z (l.ev t) (c.ev t) := _root_.id rfl
@[simp] theorem zlB (f : Fn) (a c : List A) : exec (.makeFunc f a c) t g n = some (.func f (a.map (·.ev t)) (c.map (·.ev t)), .keep) := _root_.id rfl
@[simp] theorem zmB (x : A) (i : Nat) : exec (.extract x i) t g n = zao (zon i (x.ev t)) := by simp only [exec, zon]; cases x.ev t <;> rfl
@[simp] theorem zqN (k : Nat) (x : A) : exec (.len k x) t g n = zao (lenV k g (x.ev t)) := _root_.id rfl
@[simp] theorem zoy (s b : Nat) (x y : A) : exec (.append s b x y) t g n = zaz g n s b (x.ev t) (y.ev t) := _root_.id rfl
@[simp] theorem znx (m : Bool) (x : A) (r : List A) : exec (.minmax m x r) t g n = zao (minmaxV m (x.ev t) (r.map (·.ev t))) := _root_.id rfl
@[simp] theorem zmN : exec .makeMap t g n = some (.map n, .push (.mapo [] [] 0)) := _root_.id rfl
@[simp] theorem znm (kd : KD) (z : V) (ok : Bool) (x k : A) : exec (.lookup kd z ok x k) t g n = zao (zcS g kd z ok (x.ev t) (k.ev t)) := _root_.id rfl
@[simp] theorem zos (kd : KD) (x k v : A) : exec (.mapSet kd x k v) t g n = mapD (zcp g kd (x.ev t) (k.ev t) (v.ev t)) := _root_.id rfl
@[simp] theorem znI (kd : KD) (x k : A) : exec (.mapDel kd x k) t g n = mapD (zcn g kd (x.ev t) (k.ev t)) := _root_.id rfl
@[simp] theorem zqb (s : Nat) (d x : A) : exec (.copy s d x) t g n = zhX g s (d.ev t) (x.ev t) := _root_.id rfl
@[simp] theorem zmX (s : Nat) (z : List V) (x : A) : exec (.clearSl s z x) t g n = mapD (zcQ g z (x.ev t)) := _root_.id rfl
@[simp] theorem zmn (x : A) : exec (.clearMap x) t g n = mapD (zbL g (x.ev t)) := _root_.id rfl
end
@[simp] theorem zqo (d : D) : mapD (some d) = some (.undef, d) := _root_.id rfl
@[simp] theorem zrh (h : H) : h.app .keep = h := _root_.id rfl
@[simp] theorem zfk (h : H) (i : Nat) (o : O) : h.app (.set i o) = h.set i o := _root_.id rfl
@[simp] theorem zd7 (h : H) (o : O) : h.app (.push o) = h.push o := _root_.id rfl
@[simp] theorem zpR (off g o : Nat) : ziL off (.gp g o) = some (.gp g (o + off)) := _root_.id rfl
@[simp] theorem zoA (off i n o : Nat) : ziL off (.ptr i n o) = some (.ptr i n (o + off)) := _root_.id rfl
@[simp] theorem zoI (a : Bool) (o n : Nat) (cs : List V) : zky a o n (.agg cs) = zca a o n cs := _root_.id rfl
@[simp] theorem zpd (o n : Nat) (cs : List V) : zca true o n cs = some (.agg ((cs.drop o).take n)) := _root_.id rfl
@[simp] theorem znu (o n : Nat) (cs : List V) : zca false o n cs = cs[o]? := _root_.id rfl
@[simp] theorem zpp (i : Nat) (vs : List V) : zon i (.tup vs) = vs[i]? := _root_.id rfl
@[simp] theorem zqW (s : List UInt8) : cidV (.str s) = some (.str s) := _root_.id rfl
@[simp] theorem zrf (n : Nat) (cs : List V) : boxV n (.agg cs) = if cs.all V.one then some (.ptr n cs.length 0, .push (.row cs)) else none := _root_.id rfl
@[simp] theorem zrw (n : Nat) (k : IntKind) (x : Int) : boxV n (.int k x) = some (.ptr n 1 0, .push (.row [.int k x])) := _root_.id rfl
@[simp] theorem zqV (n : Nat) (s : List UInt8) : boxV n (.str s) = some (.ptr n 1 0, .push (.row [.str s])) := _root_.id rfl
@[simp] theorem zqz (n : Nat) (b : Bool) : boxV n (.bool b) = some (.ptr n 1 0, .push (.row [.bool b])) := _root_.id rfl
@[simp] theorem zpf (a b : V) : zhf (.bool true) a b = some a := _root_.id rfl
@[simp] theorem znS (a b : V) : zhf (.bool false) a b = some b := _root_.id rfl
@[simp] theorem zp9 (c d : Bool) : zhf (.bool c) (.bool d) (.bool false) = some (.bool (c && d)) := by cases c <;> rfl
@[simp] theorem zrg (c d : Bool) : zhf (.bool c) (.bool true) (.bool d) = some (.bool (c || d)) := by cases c <;> rfl
@[simp] theorem zn3 (i n o : Nat) : zc3 (.ptr i n o) = some (.ptr i n o) := _root_.id rfl
@[simp] theorem zoB (g o : Nat) : zc3 (.gp g o) = some (.gp g o) := _root_.id rfl
@[simp] theorem zm2 (f : FuncId) (a b : List V) : zc3 (.func (.func f) a b) = some (.func (.func f) a b) := _root_.id rfl
@[simp] theorem zo7 (k : IntKind) (n : Int) : zgA (.int k n) = some n := _root_.id rfl
@[simp] theorem zqJ (op : BinOp) (a b : List UInt8) : binV op (.str a) (.str b) = strV op a b := _root_.id rfl
@[simp] theorem zq4 (op : BinOp) (k k' : IntKind) (a b : Int) : binV op (.int k a) (.int k' b) = if zdc op then zcU op k a b else if k = k' then intV op k a b else none := _root_.id rfl
attribute [simp] zdc
@[simp] theorem zrn (x y : List UInt8) : strV .add x y = if x.length + y.length ≤ 9223372036854775807 then some (.str (x ++ y)) else none := _root_.id rfl
@[simp] theorem zrc (x y : List UInt8) : strV .eql x y = some (.bool (x == y)) := _root_.id rfl
@[simp] theorem zry (x y : List UInt8) : strV .neq x y = some (.bool (!(x == y))) := _root_.id rfl
@[simp] theorem zqZ (x y : List UInt8) : strV .lss x y = some (.bool (Op.bytesLess x y)) := _root_.id rfl
@[simp] theorem zr4 (b : Bool) : unV .not (.bool b) = some (.bool (!b)) := _root_.id rfl
@[simp] theorem zsh (k : IntKind) (n : Int) : unV .neg (.int k n) = some (.int k (k.wrap (0 - n))) := _root_.id rfl
@[simp] theorem zqk (cs : List V) : zcY cs [] = some cs := _root_.id rfl
@[simp] theorem zoE (cs : List V) (o n : Nat) (v : V) (r : List (Nat × Nat × V)) : zcY cs ((o, n, v) :: r) = if v.solid && v.cells.length == n && decide (o + n ≤ cs.length) then zcY (putCells cs o v.cells) r else none := _root_.id rfl
@[simp] theorem zpF (k : IntKind) (n : Int) : (V.int k n).solid = true := _root_.id rfl
@[simp] theorem zo2 (b : Bool) : (V.bool b).solid = true := _root_.id rfl
@[simp] theorem zpy (s : List UInt8) : (V.str s).solid = true := _root_.id rfl
@[simp] theorem znL : V.nilsl.solid = true := _root_.id rfl
@[simp] theorem zpX (cs : List V) : (V.agg cs).solid = cs.all V.one := _root_.id rfl
@[simp] theorem zpm (cs : List V) : (V.agg cs).cells = cs := _root_.id rfl
@[simp] theorem zqe (k : IntKind) (n : Int) : (V.int k n).cells = [.int k n] := _root_.id rfl
@[simp] theorem zpb (b : Bool) : (V.bool b).cells = [.bool b] := _root_.id rfl
@[simp] theorem zqA (s : List UInt8) : (V.str s).cells = [.str s] := _root_.id rfl
@[simp] theorem zob : V.nilsl.cells = [.nilsl] := _root_.id rfl
@[simp] theorem zqM (i n o l : Nat) (c : Option Nat) : (V.sl i n o l c).cells = [.sl i n o l c] := _root_.id rfl
@[simp] theorem zrO (k : IntKind) (n : Int) : (V.int k n).one = true := _root_.id rfl
@[simp] theorem zq9 (b : Bool) : (V.bool b).one = true := _root_.id rfl
@[simp] theorem zrZ (s : List UInt8) : (V.str s).one = true := _root_.id rfl
@[simp] theorem zqc : V.nilsl.one = true := _root_.id rfl
@[simp] theorem zrC : V.slz.one = true := _root_.id rfl
@[simp] theorem zsj (i n o l : Nat) (c : Option Nat) : (V.sl i n o l c).one = true := _root_.id rfl
@[simp] theorem zsc (i n o : Nat) : (V.ptr i n o).one = true := _root_.id rfl
theorem zaD {v : V} (h : v.one = true) : v.cells = [v] := by cases v <;> first | rfl | cases h
theorem zaE {v : V} (h : v.one = true) : v.solid = true := by cases v <;> first | rfl | cases h
@[simp] theorem zqC (g : Nat -> Option O) (a : Bool) (n i m o : Nat) : zdw g a n (.ptr i m o) = (zab g i m).bind fun cs => if a then (if o + n ≤ cs.length then some (.agg ((cs.drop o).take n)) else none) else cs[o]? := by
 simp only [zdw]; cases zab g i m <;> rfl
@[simp] theorem zri (g : Nat -> Option O) (a : Bool) (n b o : Nat) : zdw g a n (.gp b o) = (GT.lookup b).bind fun cs => if a then (if o + n ≤ cs.length then some (.agg ((cs.drop o).take n)) else none) else cs[o]? := by
 simp only [zdw]; cases GT.lookup b <;> rfl
@[simp] theorem zo8 (g : Nat -> Option O) (n i m o : Nat) (x : V) : zeb g n (.ptr i m o) x = if x.solid && x.cells.length == n then (g i).bind fun ob => if ob.len = m then (ob.put o x.cells).map (D.set i) else none else none := by
 simp only [zeb]; cases g i <;> rfl
@[simp] theorem zkx (cs xs : List V) (o : Nat) : (O.row cs).put o xs = if o + xs.length ≤ cs.length then some (.row (putCells cs o xs)) else none := _root_.id rfl
@[simp] theorem zia (s : Nat) (cs xs : List V) (o : Nat) : (O.grow s cs).put o xs = if o + xs.length ≤ cs.length then some (.grow s (putCells cs o xs)) else none := _root_.id rfl
@[simp] theorem zou (cs : List V) : (O.row cs).len = cs.length := _root_.id rfl
@[simp] theorem zrA (s : Nat) (cs : List V) : (O.grow s cs).len = cs.length := _root_.id rfl
@[simp] theorem zmG (cs : List V) : (O.ro cs).len = cs.length := _root_.id rfl
@[simp] theorem zkj (cs : List V) : (O.row cs).cells = cs := _root_.id rfl
@[simp] theorem zjp (s : Nat) (cs : List V) : (O.grow s cs).cells = cs := _root_.id rfl
@[simp] theorem zlJ (cs : List V) : (O.ro cs).cells = cs := _root_.id rfl
theorem zag {g : Nat -> Option O} {i n : Nat} {o : O} (h : g i = some o) (hn : o.len = n) : zab g i n = some o.cells := by simp [zab, h, hn]
@[simp] theorem zmq (h : H) (o : O) : (h.push o).get h.next = some o := by simp [H.get_push]
@[simp] theorem zm6 (h : H) (i : Nat) (o : O) : (h.set i o).get i = some o := by simp [H.get_set]
@[simp] theorem zbU (s i n o l : Nat) (c : Option Nat) (k : IntKind) (m : Int) : zaH s (.sl i n o l c) (.int k m) = if 0 ≤ m ∧ m < l then some (.ptr i n (o + m.toNat * s)) else none := _root_.id rfl
@[simp] theorem zjj (l s i n o : Nat) (k : IntKind) (m : Int) : zbb l s (.ptr i n o) (.int k m) = if 0 ≤ m ∧ m < l then some (.ptr i n (o + m.toNat * s)) else none := _root_.id rfl
@[simp] theorem zjE (l s g o : Nat) (k : IntKind) (m : Int) : zbb l s (.gp g o) (.int k m) = if 0 ≤ m ∧ m < l then some (.gp g (o + m.toNat * s)) else none := _root_.id rfl
@[simp] theorem zmv (s : List UInt8) (k : IntKind) (m : Int) : zb8 (.str s) (.int k m) = if 0 ≤ m then (s[m.toNat]?).map fun b => .int .u8 b.toNat else none := _root_.id rfl
@[simp] theorem zl1 (a : Bool) (l s : Nat) (cs : List V) (k : IntKind) (m : Int) : zc8 a l s (.agg cs) (.int k m) = if 0 ≤ m ∧ m < l then zca a (m.toNat * s) s cs else none := _root_.id rfl
@[simp] theorem zq7 (g : Nat -> Option O) (s : List UInt8) : lenV 0 g (.str s) = some (.int .i64 s.length) := _root_.id rfl
@[simp] theorem zrX (g : Nat -> Option O) (i n o l : Nat) (c : Option Nat) : lenV 1 g (.sl i n o l c) = some (.int .i64 l) := _root_.id rfl
@[simp] theorem zoJ (g : Nat -> Option O) : lenV 1 g .nilsl = some (.int .i64 0) := _root_.id rfl
@[simp] theorem zq0 (g : Nat -> Option O) : lenV 1 g .slz = some (.int .i64 0) := _root_.id rfl
@[simp] theorem zpU (g : Nat -> Option O) (i n o l : Nat) (c : Option Nat) : zey g (.sl i n o l c) = (zaC g 1 (.sl i n o l c)).bind fun p => (p.2.mapM u8Of).map .str := by
 simp only [zey]; cases zaC g 1 (.sl i n o l c) <;> rfl
@[simp] theorem zbC (d y : Nat) : zap d y none = some d := _root_.id rfl
@[simp] theorem znV (d y : Nat) (k : IntKind) (n : Int) : zap d y (some (.int k n)) = if 0 ≤ n ∧ n ≤ (y : Int) then some n.toNat else none := _root_.id rfl
@[simp] theorem zmj (lo hi : Option V) (s : List UInt8) : zb1 lo hi (.str s) = (zap s.length s.length hi).bind fun h => (zap 0 h lo).bind fun l => some (.str ((s.take h).drop l)) := by
 simp only [zb1]; cases zap s.length s.length hi with
 | none => rfl
 | some h => simp only [Option.bind_some]; cases zap 0 h lo <;> rfl
@[simp] theorem zom (k k' : IntKind) (x y : Int) : minmaxV false (.int k x) [.int k' y] = if k = k' then some (.int k (if y < x then y else x)) else none := by simp [minmaxV]
@[simp] theorem zoh (k k' : IntKind) (x y : Int) : minmaxV true (.int k x) [.int k' y] = if k = k' then some (.int k (if x < y then y else x)) else none := by simp [minmaxV]
@[simp] theorem zq1 (k : IntKind) (x y : Int) : intV .add k x y = some (.int k (k.wrap (x + y))) := _root_.id rfl
@[simp] theorem zqT (k : IntKind) (x y : Int) : intV .sub k x y = some (.int k (k.wrap (x - y))) := _root_.id rfl
@[simp] theorem zrl (k : IntKind) (x y : Int) : intV .mul k x y = some (.int k (k.wrap (x * y))) := _root_.id rfl
@[simp] theorem zqY (k : IntKind) (x y : Int) : intV .eql k x y = some (.bool (x == y)) := _root_.id rfl
@[simp] theorem zrd (k : IntKind) (x y : Int) : intV .neq k x y = some (.bool (x != y)) := _root_.id rfl
@[simp] theorem zqK (k : IntKind) (x y : Int) : intV .lss k x y = some (.bool (decide (x < y))) := _root_.id rfl
@[simp] theorem zq3 (k : IntKind) (x y : Int) : intV .leq k x y = some (.bool (decide (x ≤ y))) := _root_.id rfl
@[simp] theorem zqX (k : IntKind) (x y : Int) : intV .gtr k x y = some (.bool (decide (y < x))) := _root_.id rfl
@[simp] theorem zqP (k : IntKind) (x y : Int) : intV .geq k x y = some (.bool (decide (y ≤ x))) := _root_.id rfl
@[simp] theorem zoR (k : IntKind) (x y : Int) (hy : 0 ≤ y) : zcU .shr k x y = some (.int k (x.fdiv (2 ^ min y.toNat k.bits))) := by
 unfold zcU; rw [if_neg (by omega)]
@[simp] theorem zoY (k : IntKind) (x y : Int) (hy : 0 ≤ y) : zcU .shl k x y = some (.int k (k.wrap (x * 2 ^ min y.toNat k.bits))) := by
 unfold zcU; rw [if_neg (by omega)]
theorem zah {n : Int} (h1 : -9223372036854775808 ≤ n) (h2 : n ≤ 9223372036854775807) : IntKind.i64.wrap n = n := by
 rw [IntKind.wrap_i64]; omega
end Go.Am
