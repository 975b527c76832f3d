/-
 AM, PART 12. The walk: rules for simp, and what simp must leave alone.
-/
import Derived.Test.YtpgcodeckphanaaGreatDoorHAm11
namespace Go.Am

@[simp] theorem Tm.put_some (t : Tm) (d k : Nat) (v : V) : (t.put (some d) v) k = if k = d then v else t k := _root_.id rfl
@[simp] theorem Tm.put_none (t : Tm) (v : V) : t.put none v = t := _root_.id rfl
@[simp] theorem zl6 (args : List V) (k : Nat) : zbB args k = (args[k]?).getD .undef := _root_.id rfl
@[simp] theorem A.ev_t (t : Nat -> V) (i : Nat) : A.ev t (.t i) = t i := _root_.id rfl
@[simp] theorem A.ev_c (t : Nat -> V) (v : V) : A.ev t (.c v) = v := _root_.id rfl

variable {P : Program}
def opK (P : Program) (K : Tm -> H -> Prop) (d : Option Nat) (is : List SI) (t : Tm) (h : H) (r : Option (V × D)) : Prop :=
 match r with
 | some (v, dd) => Owp P K is (t.put d v) (h.app dd)
 | none => False
@[simp] theorem zqr (K : Tm -> H -> Prop) (d : Option Nat) (is : List SI) (t : Tm) (h : H) (v : V) (dd : D) : opK P K d is t h (some (v, dd)) = Owp P K is (t.put d v) (h.app dd) := _root_.id rfl
def zbY (P : Program) (K : Tm -> H -> Prop) (w : Bool) (d : Option Nat) (x : X) (is : List SI) (t : Tm) (h : H) (g : V) : Prop :=
 match g with
 | .bool b => if (b == w) = true then Owp P K (⟨d, none, x⟩ :: is) t h else Owp P K is (t.put d .undef) h
 | .tup [] => Owp P K is (t.put d .undef) h
 | _ => False
section
variable (K : Tm -> H -> Prop) (d : Option Nat) (x : X) (is : List SI) (t : Tm) (h : H)
@[simp] theorem zpD : zbY P K true d x is t h (.bool true) = Owp P K (⟨d, none, x⟩ :: is) t h := by simp [zbY]
@[simp] theorem zpK : zbY P K false d x is t h (.bool false) = Owp P K (⟨d, none, x⟩ :: is) t h := by simp [zbY]
@[simp] theorem zo2 : zbY P K false d x is t h (.bool true) = Owp P K is (t.put d .undef) h := by simp [zbY]
@[simp] theorem zpE : zbY P K true d x is t h (.bool false) = Owp P K is (t.put d .undef) h := by simp [zbY]
@[simp] theorem zma (w : Bool) : zbY P K w d x is t h .undef = Owp P K is (t.put d .undef) h := _root_.id rfl
@[simp] theorem zlo (w : Bool) : zbY P K w d x is t h (.tup []) = Owp P K is (t.put d .undef) h := _root_.id rfl
end
def retK (P : Program) (K : Tm -> H -> Prop) (d : Option Nat) (is : List SI) (t : Tm) (v : V) (h : H) : Prop := Owp P K is (t.put d v) h
@[simp] theorem zqU (K : Tm -> H -> Prop) (d : Option Nat) (is : List SI) (t : Tm) (v : V) (h : H) : retK P K d is t v h = Owp P K is (t.put d v) h := _root_.id rfl
def ziG (P : Program) (f : V) (args : List V) (h : H) (Q : V -> H -> Prop) : Prop := zde P f args h Q
@[simp] theorem znW (g : FuncId) (first cap args : List V) (h : H) (Q : V -> H -> Prop) : ziG P (.func (.func g) first cap) args h Q = Acalls P g (first ++ args ++ cap) h Q := _root_.id rfl
@[simp] theorem zp0 (i : Nat) (args : List V) (h : H) (Q : V -> H -> Prop) : ziG P (.yl i) args h Q = Ayields P i args h Q := _root_.id rfl
@[simp] theorem zmi (args : List V) (h : H) (Q : V -> H -> Prop) : ziG P (.sl 0 0 0 1 (some 0)) args h Q = zlG args h Q := _root_.id rfl
@[simp] theorem zop (args : List V) (h : H) (Q : V -> H -> Prop) : ziG P (.sl 0 0 0 2 (some 0)) args h Q = zox args h Q := _root_.id rfl
@[simp] theorem zmn (args : List V) (h : H) (Q : V -> H -> Prop) : ziG P (.sl 0 0 0 3 (some 0)) args h Q = zlE args h Q := _root_.id rfl

variable {K : Tm -> H -> Prop}
@[simp] theorem zqM (t : Tm) (h : H) : Owp P K [] t h = K t h := _root_.id rfl
@[simp] theorem zrl (d : Option Nat) (i : I) (is : List SI) (t : Tm) (h : H) : Owp P K (⟨d, none, .op i⟩ :: is) t h = opK P K d is t h (exec i t h.get h.next) := by
 simp only [Owp, zao, opK]
 split <;> rename_i e <;> simp only [e]
@[simp] theorem zpz (d : Option Nat) (g : Nat) (w : Bool) (x : X) (is : List SI) (t : Tm) (h : H) : Owp P K (⟨d, some (g, w), x⟩ :: is) t h = zbY P K w d x is t h (t g) := by
 simp only [Owp, zao, zbY]
 split
 ·rename_i e
  split at e <;> first | (cases e; done) | skip
  rename_i _ h1 h2
  split
  ·rename_i e'; exact absurd e' (h1 _)
  ·rename_i e'; exact absurd e' h2
  ·rfl
 ·rename_i e
  split at e
  ·rename_i b hb
   simp only [Option.some.injEq] at e
   rw [hb]
   simp [e]
  ·rename_i hb; rw [hb]
  ·cases e
 ·rename_i e
  split at e
  ·rename_i b hb
   simp only [Option.some.injEq] at e
   rw [hb]
   simp [e]
  ·cases e
  ·cases e
@[simp] theorem zpT (d : Option Nat) (f : A) (args : List A) (is : List SI) (t : Tm) (h : H) : Owp P K (⟨d, none, .call f args⟩ :: is) t h = ziG P (f.ev t) (args.map (·.ev t)) h (retK P K d is t) := _root_.id rfl

variable {Q : Exit -> Tm -> H -> Prop}
def zi2 (P : Program) (Q : Exit -> Tm -> H -> Prop) (a b : C) (t : Tm) (h : H) (c : V) : Prop := zdB c (Cwp P a Q t h) (Cwp P b Q t h)
@[simp] theorem zpO (t : Tm) (h : H) : Cwp P .skip Q t h = Q .normal t h := _root_.id rfl
@[simp] theorem zq2 (ops : List SI) (t : Tm) (h : H) : Cwp P (.reg ops) Q t h = Owp P (Q .normal) ops t h := _root_.id rfl
@[simp] theorem zqV (a b : C) (t : Tm) (h : H) : Cwp P (.seq a b) Q t h = Cwp P a (zd2 (Cwp P b Q) Q) t h := _root_.id rfl
@[simp] theorem zqy (c : A) (a b : C) (t : Tm) (h : H) : Cwp P (.cond c a b) Q t h = zi2 P Q a b t h (c.ev t) := _root_.id rfl
@[simp] theorem zpt (id : Nat) (b : C) (t : Tm) (h : H) : Cwp P (.block id b) Q t h = Cwp P b (zdY id Q) t h := _root_.id rfl
@[simp] theorem zqf (b : C) (t : Tm) (h : H) : Cwp P (.loop b) Q t h = zjH (Cwp P b) Q t h := _root_.id rfl
@[simp] theorem zqz (id : Nat) (t : Tm) (h : H) : Cwp P (.exit id) Q t h = Q (.exit id) t h := _root_.id rfl
@[simp] theorem zq3 (t : Tm) (h : H) : Cwp P .ret Q t h = Q .ret t h := _root_.id rfl
@[simp] theorem zoi (a b : C) (t : Tm) (h : H) : zi2 P Q a b t h (.bool true) = Cwp P a Q t h := by simp [zi2, zdB]
@[simp] theorem znr (a b : C) (t : Tm) (h : H) : zi2 P Q a b t h (.bool false) = Cwp P b Q t h := by simp [zi2, zdB]
@[simp] theorem zl5 (next : Tm -> H -> Prop) (t : Tm) (h : H) : zd2 next Q .normal t h = next t h := _root_.id rfl
@[simp] theorem zo3 (next : Tm -> H -> Prop) (t : Tm) (h : H) : zd2 next Q .ret t h = Q .ret t h := _root_.id rfl
@[simp] theorem znQ (next : Tm -> H -> Prop) (i : Nat) (t : Tm) (h : H) : zd2 next Q (.exit i) t h = Q (.exit i) t h := _root_.id rfl
@[simp] theorem zky (id : Nat) (t : Tm) (h : H) : zdY id Q .normal t h = Q .normal t h := _root_.id rfl
@[simp] theorem zn5 (id : Nat) (t : Tm) (h : H) : zdY id Q .ret t h = Q .ret t h := _root_.id rfl
@[simp] theorem znx (id i : Nat) (t : Tm) (h : H) : zdY id Q (.exit i) t h = if i = id then Q .normal t h else Q (.exit i) t h := _root_.id rfl
theorem zdL {ops : List SI} {t : Tm} {h : H} (c : Swp P (Q .normal) ops t h) : Cwp P (.dreg [] ops) Q t h := .inl ⟨rfl, c⟩
def sopK (P : Program) (K : Tm -> H -> Prop) (d : Option Nat) (is : List SI) (t : Tm) (h : H) (r : Option (V × D)) : Prop :=
 match r with
 | some (v, dd) => Swp P K is (t.put d v) (h.app dd)
 | none => False
@[simp] theorem zoB (K : Tm -> H -> Prop) (d : Option Nat) (is : List SI) (t : Tm) (h : H) (v : V) (dd : D) : sopK P K d is t h (some (v, dd)) = Swp P K is (t.put d v) (h.app dd) := _root_.id rfl
def zbz (P : Program) (K : Tm -> H -> Prop) (w : Bool) (d : Option Nat) (x : X) (is : List SI) (t : Tm) (h : H) (g : V) : Prop :=
 match g with
 | .bool b => if (b == w) = true then Swp P K (⟨d, none, x⟩ :: is) t h else Swp P K is (t.put d .undef) h
 | .tup [] => Swp P K is (t.put d .undef) h
 | _ => False
def zlZ (P : Program) (K : Tm -> H -> Prop) (d : Option Nat) (is : List SI) (t : Tm) (h : H) (f : V) (args : List V) : Prop :=
 ∃ Q' : V -> H -> Prop, (∃ v h', Q' v h') ∧ zde P f args h Q' ∧ ∀ v h', Q' v h' -> Swp P K is (t.put d v) h'
section
variable (K : Tm -> H -> Prop) (d : Option Nat) (x : X) (is : List SI) (t : Tm) (h : H)
@[simp] theorem zqO : Swp P K [] t h = K t h := _root_.id rfl
@[simp] theorem zoa : zbz P K true d x is t h (.bool true) = Swp P K (⟨d, none, x⟩ :: is) t h := by simp [zbz]
@[simp] theorem zof : zbz P K false d x is t h (.bool false) = Swp P K (⟨d, none, x⟩ :: is) t h := by simp [zbz]
@[simp] theorem zok : zbz P K false d x is t h (.bool true) = Swp P K is (t.put d .undef) h := by simp [zbz]
@[simp] theorem zn7 : zbz P K true d x is t h (.bool false) = Swp P K is (t.put d .undef) h := by simp [zbz]
@[simp] theorem zkF (w : Bool) : zbz P K w d x is t h .undef = Swp P K is (t.put d .undef) h := _root_.id rfl
@[simp] theorem zkl (w : Bool) : zbz P K w d x is t h (.tup []) = Swp P K is (t.put d .undef) h := _root_.id rfl
@[simp] theorem zri (i : I) : Swp P K (⟨d, none, .op i⟩ :: is) t h = sopK P K d is t h (exec i t h.get h.next) := by
 simp only [Swp, Sstep, zao, sopK]
 split <;> rename_i e <;> simp only [e]
@[simp] theorem zpH (g : Nat) (w : Bool) : Swp P K (⟨d, some (g, w), x⟩ :: is) t h = zbz P K w d x is t h (t g) := by
 simp only [Swp, Sstep, zao, zbz]
 split
 ·rename_i e
  split at e <;> first | (cases e; done) | skip
  rename_i _ h1 h2
  split
  ·rename_i e'; exact absurd e' (h1 _)
  ·rename_i e'; exact absurd e' h2
  ·rfl
 ·rename_i e
  split at e
  ·rename_i b hb
   simp only [Option.some.injEq] at e
   rw [hb]
   simp [e]
  ·rename_i hb; rw [hb]
  ·cases e
 ·rename_i e
  split at e
  ·rename_i b hb
   simp only [Option.some.injEq] at e
   rw [hb]
   simp [e]
  ·cases e
  ·cases e
@[simp] theorem zqe (f : A) (args : List A) : Swp P K (⟨d, none, .call f args⟩ :: is) t h = zlZ P K d is t h (f.ev t) (args.map (·.ev t)) := _root_.id rfl
end
theorem zij {K : Tm -> H -> Prop} {d : Option Nat} {is : List SI} {t : Tm} {h : H} {g : FuncId} {first cap args : List V} {v : V} {h' : H} (c : ∀ Q : V -> H -> Prop, Q v h' -> Acalls P g (first ++ args ++ cap) h Q) (k : Swp P K is (t.put d v) h') : zlZ P K d is t h (.func (.func g) first cap) args :=
 ⟨fun u h2 => u = v ∧ h2 = h', ⟨v, h', rfl, rfl⟩, c _ ⟨rfl, rfl⟩, by rintro u h2 ⟨rfl, rfl⟩; exact k⟩
def resK (r : Option (List V)) (h : H) (Q : V -> H -> Prop) : Prop :=
 match r with
 | some vs => Q (tupV vs) h
 | none => False
@[simp] theorem zpp (vs : List V) (h : H) (Q : V -> H -> Prop) : resK (some vs) h Q = Q (tupV vs) h := _root_.id rfl
@[simp] theorem zmY (rs : List RV) (R : V -> H -> Prop) (t : Tm) (h : H) : zda rs R .ret t h = resK (zbr h.get t rs) h R := _root_.id rfl
@[simp] theorem zki (rs : List RV) (R : V -> H -> Prop) (t : Tm) (h : H) : zda rs R .normal t h = resK (zbr h.get t rs) h R := _root_.id rfl
@[simp] theorem zpl (g : Nat -> Option O) (t : Tm) : zbr g t [] = some [] := _root_.id rfl
@[simp] theorem zow (g : Nat -> Option O) (t : Tm) (k : Nat) (rs : List RV) : zbr g t (.tmp k :: rs) = (zbr g t rs).map (t k :: ·) := by
 simp only [zbr, resV]; cases zbr g t rs <;> rfl
@[simp] theorem znM (g : Nat -> Option O) (t : Tm) (k n : Nat) (a : Bool) (rs : List RV) : zbr g t (.cell k a n :: rs) = (zc0 g a n (t k)).bind fun v => (zbr g t rs).map (v :: ·) := by
 simp only [zbr, resV]; cases zc0 g a n (t k) with
 | none => rfl
 | some v => simp only [Option.bind_some]; cases zbr g t rs <;> rfl
@[simp] theorem zpZ : tupV [] = .tup [] := _root_.id rfl
@[simp] theorem zqa (v : V) : tupV [v] = v := _root_.id rfl
@[simp] theorem zqg (v u : V) (vs : List V) : tupV (v :: u :: vs) = .tup (v :: u :: vs) := _root_.id rfl

@[simp] theorem zmP (v : V) : zak (some v) = some (v, .keep) := _root_.id rfl
def zhC (off : Nat) : V -> Option V
 | .ptr i n o => some (.ptr i n (o + off))
 | .gp g o => some (.gp g (o + off))
 | _ => none
def zjd (agg : Bool) (off n : Nat) : V -> Option V
 | .agg cs => zbP agg off n cs
 | _ => none
def zm7 (i : Nat) : V -> Option V
 | .tup vs => vs[i]?
 | _ => none
def cidV : V -> Option V
 | .str s => some (.str s)
 | _ => none
def boxV (next : Nat) (v : V) : Option (V × D) := if v.solid then some (.ptr next v.cells.length 0, .push (.row v.cells)) else none
def mapD (d : Option D) : Option (V × D) := d.map fun d => (.undef, d)
section
variable (t : Nat -> V) (g : Nat -> Option O) (n : Nat)
@[simp] theorem zqx (x : A) : exec (.mov x) t g n = some (x.ev t, .keep) := _root_.id rfl
@[simp] theorem zoq (c a b : A) : exec (.pick c a b) t g n = zak (zf8 (c.ev t) (a.ev t) (b.ev t)) := _root_.id rfl
@[simp] theorem zol (z : List V) : exec (.alloc z) t g n = some (.ptr n z.length 0, .push (.row z)) := _root_.id rfl
@[simp] theorem zpN (x : A) : exec (.box x) t g n = boxV n (x.ev t) := _root_.id rfl
@[simp] theorem zlF (ty : TypeId) (x : A) : exec (.mkIface ty x) t g n = some (.iface ty (x.ev t), .keep) := _root_.id rfl
@[simp] theorem zoj (z : List V) (ps : List (Nat × Nat × A)) : exec (.build z ps) t g n = zak ((zcs z (ps.map fun (o, n, x) => (o, n, x.ev t))).map .agg) := _root_.id rfl
@[simp] theorem zjs (sz len : Nat) (z : List V) (ps : List (Nat × A)) : exec (.buildSlice sz len z ps) t g n = (zcs (zaj len z) (ps.map fun (k, x) => (k * sz, sz, x.ev t))).map fun cs => (.sl n (len * sz) 0 len (some len), .push (.row cs)) := _root_.id rfl
@[simp] theorem zoY (a : Bool) (m : Nat) (x : A) : exec (.load a m x) t g n = zak (zc0 g a m (x.ev t)) := _root_.id rfl
@[simp] theorem zog (m : Nat) (a x : A) : exec (.store m a x) t g n = mapD (zdz g m (a.ev t) (x.ev t)) := _root_.id rfl
@[simp] theorem znG (x : A) : exec (.nilchk x) t g n = zak (zcz (x.ev t)) := _root_.id rfl
@[simp] theorem zp5 (op : BinOp) (x y : A) : exec (.bin op x y) t g n = zak (binV op (x.ev t) (y.ev t)) := _root_.id rfl
@[simp] theorem zrd (b : Bool) (ts : TS) (x y : A) : exec (.eq b ts x y) t g n = zak ((eqV ts (x.ev t) (y.ev t)).map fun r => .bool (if b then !r else r)) := _root_.id rfl
@[simp] theorem zq5 (op : UnOp) (x : A) : exec (.un op x) t g n = zak (unV op (x.ev t)) := _root_.id rfl
@[simp] theorem zl4 (k : IntKind) (x : A) : exec (.convInt k x) t g n = zak ((zgt (x.ev t)).map fun m => .int k (k.wrap m)) := _root_.id rfl
@[simp] theorem znE (x : A) : exec (.convId x) t g n = zak (cidV (x.ev t)) := by simp only [exec, cidV]; cases x.ev t <;> rfl
@[simp] theorem zn0 (x : A) : exec (.strOf x) t g n = zak (zd0 g (x.ev t)) := _root_.id rfl
@[simp] theorem zkk (o : Nat) (x : A) : exec (.fieldAddr o x) t g n = zak (zhC o (x.ev t)) := by simp only [exec, zhC]; cases x.ev t <;> rfl
@[simp] theorem zoc (a : Bool) (o m : Nat) (x : A) : exec (.field a o m x) t g n = zak (zjd a o m (x.ev t)) := by simp only [exec, zjd]; cases x.ev t <;> rfl
@[simp] theorem zkj (s : Nat) (x i : A) : exec (.indexAddr s x i) t g n = zak (zaA s (x.ev t) (i.ev t)) := _root_.id rfl
@[simp] theorem ziP (l s : Nat) (x i : A) : exec (.indexAddrArr l s x i) t g n = zak (za1 l s (x.ev t) (i.ev t)) := _root_.id rfl
@[simp] theorem zqw (e : StIn) (x y : A) : exec (.ext e x y) t g n = zak (extV e (x.ev t) (y.ev t)) := _root_.id rfl
@[simp] theorem zod (s : List UInt8) (c : Int) : extV .indexByte (.str s) (.int .u8 c) = some (.int .i64 (Go.Lib.indexByte s c.toNat.toUInt8)) := _root_.id rfl
@[simp] theorem znU (s : List UInt8) (c : Int) : extV .count (.str s) (.int .u8 c) = some (.int .i64 (Go.Lib.countByte s c.toNat.toUInt8 : Nat)) := _root_.id rfl
@[simp] theorem zlW (s u : List UInt8) : extV .compare (.str s) (.str u) = some (.int .i64 (Go.Lib.compareBytes s u)) := _root_.id rfl
@[simp] theorem znT (k : Nat) (fn : List V -> Option V) (args : List A) : exec (.pcall k fn args) t g n = zak (fn (args.map (·.ev t))) := _root_.id rfl
@[simp] theorem zkP (x i : A) : exec (.indexStr x i) t g n = zak (zbG (x.ev t) (i.ev t)) := _root_.id rfl
@[simp] theorem zkq (a : Bool) (l s : Nat) (x i : A) : exec (.indexArr a l s x i) t g n = zak (zcE a l s (x.ev t) (i.ev t)) := _root_.id rfl
@[simp] theorem zlC (x : A) (lo hi : Option A) : exec (.sliceStr x lo hi) t g n = zak (zbI (lo.map (·.ev t)) (hi.map (·.ev t)) (x.ev t)) := _root_.id rfl
@[simp] theorem zoR (s : Nat) (x hi : A) : exec (.resl s x hi) t g n = zak ((zay s none (some (hi.ev t)) none (x.ev t)).or (ziw g s (hi.ev t) (x.ev t))) := _root_.id rfl
@[simp] theorem zmh (s : Nat) (x : A) (lo hi mx : Option A) : exec (.sliceSl s x lo hi mx) t g n = zak (zay s (lo.map (·.ev t)) (hi.map (·.ev t)) (mx.map (·.ev t)) (x.ev t)) := _root_.id rfl
@[simp] theorem zlt (l s : Nat) (x : A) (lo hi mx : Option A) : exec (.sliceArr l s x lo hi mx) t g n = zak (zeF l s (lo.map (·.ev t)) (hi.map (·.ev t)) (mx.map (·.ev t)) (x.ev t)) := _root_.id rfl
@[simp] theorem zkh (s b : Nat) (z : List V) (l c : A) : exec (.makeSlice s b z l c) t g n = zbF n s b z (l.ev t) (c.ev t) := _root_.id rfl
@[simp] theorem zlb (f : Fn) (a c : List A) : exec (.makeFunc f a c) t g n = some (.func f (a.map (·.ev t)) (c.map (·.ev t)), .keep) := _root_.id rfl
@[simp] theorem zlH (x : A) (i : Nat) : exec (.extract x i) t g n = zak (zm7 i (x.ev t)) := by simp only [exec, zm7]; cases x.ev t <;> rfl
@[simp] theorem zp9 (k : Nat) (x : A) : exec (.len k x) t g n = zak (lenV k g (x.ev t)) := _root_.id rfl
@[simp] theorem zmJ (s b : Nat) (x y : A) : exec (.append s b x y) t g n = zaC g n s b (x.ev t) (y.ev t) := _root_.id rfl
@[simp] theorem zmW (m : Bool) (x : A) (r : List A) : exec (.minmax m x r) t g n = zak (minmaxV m (x.ev t) (r.map (·.ev t))) := _root_.id rfl
@[simp] theorem zl2 : exec .makeMap t g n = some (.map n, .push (.mapo [] [] 0)) := _root_.id rfl
@[simp] theorem zmE (kd : KD) (z : V) (ok : Bool) (x k : A) : exec (.lookup kd z ok x k) t g n = zak (zeM g kd z ok (x.ev t) (k.ev t)) := _root_.id rfl
@[simp] theorem zmD (kd : KD) (x k v : A) : exec (.mapSet kd x k v) t g n = mapD (zb4 g kd (x.ev t) (k.ev t) (v.ev t)) := _root_.id rfl
@[simp] theorem zmX (kd : KD) (x k : A) : exec (.mapDel kd x k) t g n = mapD (zdi g kd (x.ev t) (k.ev t)) := _root_.id rfl
@[simp] theorem zou (s : Nat) (d x : A) : exec (.copy s d x) t g n = ze9 g s (d.ev t) (x.ev t) := _root_.id rfl
@[simp] theorem zl0 (s : Nat) (z : List V) (x : A) : exec (.clearSl s z x) t g n = mapD (zco g z (x.ev t)) := _root_.id rfl
@[simp] theorem zkO (x : A) : exec (.clearMap x) t g n = mapD (zbw g (x.ev t)) := _root_.id rfl
end
@[simp] theorem zo9 (d : D) : mapD (some d) = some (.undef, d) := _root_.id rfl
@[simp] theorem zqG (h : H) : h.app .keep = h := _root_.id rfl
@[simp] theorem zeV (h : H) (i : Nat) (o : O) : h.app (.set i o) = h.set i o := _root_.id rfl
@[simp] theorem zdr (h : H) (o : O) : h.app (.push o) = h.push o := _root_.id rfl
@[simp] theorem zoT (off g o : Nat) : zhC off (.gp g o) = some (.gp g (o + off)) := _root_.id rfl
@[simp] theorem zn4 (off i n o : Nat) : zhC off (.ptr i n o) = some (.ptr i n (o + off)) := _root_.id rfl
@[simp] theorem zn9 (a : Bool) (o n : Nat) (cs : List V) : zjd a o n (.agg cs) = zbP a o n cs := _root_.id rfl
@[simp] theorem znY (o n : Nat) (cs : List V) : zbP true o n cs = some (.agg ((cs.drop o).take n)) := _root_.id rfl
@[simp] theorem zmZ (o n : Nat) (cs : List V) : zbP false o n cs = cs[o]? := _root_.id rfl
@[simp] theorem zpd (i : Nat) (vs : List V) : zm7 i (.tup vs) = vs[i]? := _root_.id rfl
@[simp] theorem zqi (s : List UInt8) : cidV (.str s) = some (.str s) := _root_.id rfl
@[simp] theorem zqo (n : Nat) (cs : List V) : boxV n (.agg cs) = if cs.all V.one then some (.ptr n cs.length 0, .push (.row cs)) else none := _root_.id rfl
@[simp] theorem zqh (n : Nat) (k : IntKind) (x : Int) : boxV n (.int k x) = some (.ptr n 1 0, .push (.row [.int k x])) := _root_.id rfl
@[simp] theorem zqq (n : Nat) (s : List UInt8) : boxV n (.str s) = some (.ptr n 1 0, .push (.row [.str s])) := _root_.id rfl
@[simp] theorem zoC (n : Nat) (b : Bool) : boxV n (.bool b) = some (.ptr n 1 0, .push (.row [.bool b])) := _root_.id rfl
@[simp] theorem znX (a b : V) : zf8 (.bool true) a b = some a := _root_.id rfl
@[simp] theorem zno (a b : V) : zf8 (.bool false) a b = some b := _root_.id rfl
@[simp] theorem zpo (c d : Bool) : zf8 (.bool c) (.bool d) (.bool false) = some (.bool (c && d)) := by cases c <;> rfl
@[simp] theorem zqC (c d : Bool) : zf8 (.bool c) (.bool true) (.bool d) = some (.bool (c || d)) := by cases c <;> rfl
@[simp] theorem zmS (i n o : Nat) : zcz (.ptr i n o) = some (.ptr i n o) := _root_.id rfl
@[simp] theorem zn6 (g o : Nat) : zcz (.gp g o) = some (.gp g o) := _root_.id rfl
@[simp] theorem zl1 (f : FuncId) (a b : List V) : zcz (.func (.func f) a b) = some (.func (.func f) a b) := _root_.id rfl
@[simp] theorem zoh (k : IntKind) (n : Int) : zgt (.int k n) = some n := _root_.id rfl
@[simp] theorem zqB (op : BinOp) (a b : List UInt8) : binV op (.str a) (.str b) = strV op a b := _root_.id rfl
@[simp] theorem zp1 (op : BinOp) (k k' : IntKind) (a b : Int) : binV op (.int k a) (.int k' b) = if zcv op then zc7 op k a b else if k = k' then intV op k a b else none := _root_.id rfl
attribute [simp] zcv
@[simp] theorem zqD (x y : List UInt8) : strV .add x y = if x.length + y.length ≤ 9223372036854775807 then some (.str (x ++ y)) else none := _root_.id rfl
@[simp] theorem zpQ (x y : List UInt8) : strV .eql x y = some (.bool (x == y)) := _root_.id rfl
@[simp] theorem zqH (x y : List UInt8) : strV .neq x y = some (.bool (!(x == y))) := _root_.id rfl
@[simp] theorem zqd (x y : List UInt8) : strV .lss x y = some (.bool (Op.bytesLess x y)) := _root_.id rfl
@[simp] theorem zqL (b : Bool) : unV .not (.bool b) = some (.bool (!b)) := _root_.id rfl
@[simp] theorem zq6 (k : IntKind) (n : Int) : unV .neg (.int k n) = some (.int k (k.wrap (0 - n))) := _root_.id rfl
@[simp] theorem zo7 (cs : List V) : zcs cs [] = some cs := _root_.id rfl
@[simp] theorem zn8 (cs : List V) (o n : Nat) (v : V) (r : List (Nat × Nat × V)) : zcs cs ((o, n, v) :: r) = if v.solid && v.cells.length == n && decide (o + n ≤ cs.length) then zcs (putCells cs o v.cells) r else none := _root_.id rfl
@[simp] theorem zpv (k : IntKind) (n : Int) : (V.int k n).solid = true := _root_.id rfl
@[simp] theorem znO (b : Bool) : (V.bool b).solid = true := _root_.id rfl
@[simp] theorem zoy (s : List UInt8) : (V.str s).solid = true := _root_.id rfl
@[simp] theorem zm8 : V.nilsl.solid = true := _root_.id rfl
@[simp] theorem zpJ (cs : List V) : (V.agg cs).solid = cs.all V.one := _root_.id rfl
@[simp] theorem zot (cs : List V) : (V.agg cs).cells = cs := _root_.id rfl
@[simp] theorem zpr (k : IntKind) (n : Int) : (V.int k n).cells = [.int k n] := _root_.id rfl
@[simp] theorem znP (b : Bool) : (V.bool b).cells = [.bool b] := _root_.id rfl
@[simp] theorem zpa (s : List UInt8) : (V.str s).cells = [.str s] := _root_.id rfl
@[simp] theorem zms : V.nilsl.cells = [.nilsl] := _root_.id rfl
@[simp] theorem zpV (i n o l : Nat) (c : Option Nat) : (V.sl i n o l c).cells = [.sl i n o l c] := _root_.id rfl
@[simp] theorem zrb (k : IntKind) (n : Int) : (V.int k n).one = true := _root_.id rfl
@[simp] theorem zpU (b : Bool) : (V.bool b).one = true := _root_.id rfl
@[simp] theorem zqJ (s : List UInt8) : (V.str s).one = true := _root_.id rfl
@[simp] theorem zoM : V.nilsl.one = true := _root_.id rfl
@[simp] theorem zq1 : V.slz.one = true := _root_.id rfl
@[simp] theorem zrj (i n o l : Nat) (c : Option Nat) : (V.sl i n o l c).one = true := _root_.id rfl
@[simp] theorem zqY (i n o : Nat) : (V.ptr i n o).one = true := _root_.id rfl
theorem zaL {v : V} (h : v.one = true) : v.cells = [v] := by cases v <;> first | rfl | cases h
theorem zaN {v : V} (h : v.one = true) : v.solid = true := by cases v <;> first | rfl | cases h
@[simp] theorem zpg (g : Nat -> Option O) (a : Bool) (n i m o : Nat) : zc0 g a n (.ptr i m o) = (zac g i m).bind fun cs => if a then (if o + n ≤ cs.length then some (.agg ((cs.drop o).take n)) else none) else cs[o]? := by
 simp only [zc0]; cases zac g i m <;> rfl
@[simp] theorem zqt (g : Nat -> Option O) (a : Bool) (n b o : Nat) : zc0 g a n (.gp b o) = (GT.lookup b).bind fun cs => if a then (if o + n ≤ cs.length then some (.agg ((cs.drop o).take n)) else none) else cs[o]? := by
 simp only [zc0]; cases GT.lookup b <;> rfl
@[simp] theorem zn3 (g : Nat -> Option O) (n i m o : Nat) (x : V) : zdz g n (.ptr i m o) x = if x.solid && x.cells.length == n then (g i).bind fun ob => if ob.len = m then (ob.put o x.cells).map (D.set i) else none else none := by
 simp only [zdz]; cases g i <;> rfl
@[simp] theorem zg3 (cs xs : List V) (o : Nat) : (O.row cs).put o xs = if o + xs.length ≤ cs.length then some (.row (putCells cs o xs)) else none := _root_.id rfl
@[simp] theorem zhJ (s : Nat) (cs xs : List V) (o : Nat) : (O.grow s cs).put o xs = if o + xs.length ≤ cs.length then some (.grow s (putCells cs o xs)) else none := _root_.id rfl
@[simp] theorem zj6 (cs : List V) : (O.row cs).len = cs.length := _root_.id rfl
@[simp] theorem zp7 (s : Nat) (cs : List V) : (O.grow s cs).len = cs.length := _root_.id rfl
@[simp] theorem zlQ (cs : List V) : (O.ro cs).len = cs.length := _root_.id rfl
@[simp] theorem zgd (cs : List V) : (O.row cs).cells = cs := _root_.id rfl
@[simp] theorem ziD (s : Nat) (cs : List V) : (O.grow s cs).cells = cs := _root_.id rfl
@[simp] theorem zkr (cs : List V) : (O.ro cs).cells = cs := _root_.id rfl
theorem zaf {g : Nat -> Option O} {i n : Nat} {o : O} (h : g i = some o) (hn : o.len = n) : zac g i n = some o.cells := by simp [zac, h, hn]
@[simp] theorem zlx (h : H) (o : O) : (h.push o).get h.next = some o := by simp [H.get_push]
@[simp] theorem zlX (h : H) (i : Nat) (o : O) : (h.set i o).get i = some o := by simp [H.get_set]
@[simp] theorem zbC (s i n o l : Nat) (c : Option Nat) (k : IntKind) (m : Int) : zaA s (.sl i n o l c) (.int k m) = if 0 ≤ m ∧ m < l then some (.ptr i n (o + m.toNat * s)) else none := _root_.id rfl
@[simp] theorem ziA (l s i n o : Nat) (k : IntKind) (m : Int) : za1 l s (.ptr i n o) (.int k m) = if 0 ≤ m ∧ m < l then some (.ptr i n (o + m.toNat * s)) else none := _root_.id rfl
@[simp] theorem ziX (l s g o : Nat) (k : IntKind) (m : Int) : za1 l s (.gp g o) (.int k m) = if 0 ≤ m ∧ m < l then some (.gp g (o + m.toNat * s)) else none := _root_.id rfl
@[simp] theorem zkW (s : List UInt8) (k : IntKind) (m : Int) : zbG (.str s) (.int k m) = if 0 ≤ m then (s[m.toNat]?).map fun b => .int .u8 b.toNat else none := _root_.id rfl
@[simp] theorem zk5 (a : Bool) (l s : Nat) (cs : List V) (k : IntKind) (m : Int) : zcE a l s (.agg cs) (.int k m) = if 0 ≤ m ∧ m < l then zbP a (m.toNat * s) s cs else none := _root_.id rfl
@[simp] theorem zqc (g : Nat -> Option O) (s : List UInt8) : lenV 0 g (.str s) = some (.int .i64 s.length) := _root_.id rfl
@[simp] theorem zq4 (g : Nat -> Option O) (i n o l : Nat) (c : Option Nat) : lenV 1 g (.sl i n o l c) = some (.int .i64 l) := _root_.id rfl
@[simp] theorem zn1 (g : Nat -> Option O) : lenV 1 g .nilsl = some (.int .i64 0) := _root_.id rfl
@[simp] theorem zqp (g : Nat -> Option O) : lenV 1 g .slz = some (.int .i64 0) := _root_.id rfl
@[simp] theorem zo0 (g : Nat -> Option O) (i n o l : Nat) (c : Option Nat) : zd0 g (.sl i n o l c) = (zaw g 1 (.sl i n o l c)).bind fun p => (p.2.mapM u8Of).map .str := by
 simp only [zd0]; cases zaw g 1 (.sl i n o l c) <;> rfl
@[simp] theorem zbo (d y : Nat) : zal d y none = some d := _root_.id rfl
@[simp] theorem znv (d y : Nat) (k : IntKind) (n : Int) : zal d y (some (.int k n)) = if 0 ≤ n ∧ n ≤ (y : Int) then some n.toNat else none := _root_.id rfl
@[simp] theorem zkv (lo hi : Option V) (s : List UInt8) : zbI lo hi (.str s) = (zal s.length s.length hi).bind fun h => (zal 0 h lo).bind fun l => some (.str ((s.take h).drop l)) := by
 simp only [zbI]; cases zal s.length s.length hi with
 | none => rfl
 | some h => simp only [Option.bind_some]; cases zal 0 h lo <;> rfl
@[simp] theorem zmq (k k' : IntKind) (x y : Int) : minmaxV false (.int k x) [.int k' y] = if k = k' then some (.int k (if y < x then y else x)) else none := by simp [minmaxV]
@[simp] theorem zmp (k k' : IntKind) (x y : Int) : minmaxV true (.int k x) [.int k' y] = if k = k' then some (.int k (if x < y then y else x)) else none := by simp [minmaxV]
@[simp] theorem zpR (k : IntKind) (x y : Int) : intV .add k x y = some (.int k (k.wrap (x + y))) := _root_.id rfl
@[simp] theorem zp2 (k : IntKind) (x y : Int) : intV .sub k x y = some (.int k (k.wrap (x - y))) := _root_.id rfl
@[simp] theorem zqk (k : IntKind) (x y : Int) : intV .mul k x y = some (.int k (k.wrap (x * y))) := _root_.id rfl
@[simp] theorem zpP (k : IntKind) (x y : Int) : intV .eql k x y = some (.bool (x == y)) := _root_.id rfl
@[simp] theorem zpY (k : IntKind) (x y : Int) : intV .neq k x y = some (.bool (x != y)) := _root_.id rfl
@[simp] theorem zqE (k : IntKind) (x y : Int) : intV .lss k x y = some (.bool (decide (x < y))) := _root_.id rfl
@[simp] theorem zpS (k : IntKind) (x y : Int) : intV .leq k x y = some (.bool (decide (x ≤ y))) := _root_.id rfl
@[simp] theorem zqm (k : IntKind) (x y : Int) : intV .gtr k x y = some (.bool (decide (y < x))) := _root_.id rfl
@[simp] theorem zqb (k : IntKind) (x y : Int) : intV .geq k x y = some (.bool (decide (y ≤ x))) := _root_.id rfl
@[simp] theorem znN (k : IntKind) (x y : Int) (hy : 0 ≤ y) : zc7 .shr k x y = some (.int k (x.fdiv (2 ^ min y.toNat k.bits))) := by
 unfold zc7; rw [if_neg (by omega)]
@[simp] theorem znS (k : IntKind) (x y : Int) (hy : 0 ≤ y) : zc7 .shl k x y = some (.int k (k.wrap (x * 2 ^ min y.toNat k.bits))) := by
 unfold zc7; rw [if_neg (by omega)]
theorem zaB {n : Int} (h1 : -9223372036854775808 ≤ n) (h2 : n ≤ 9223372036854775807) : IntKind.i64.wrap n = n := by
 rw [IntKind.wrap_i64]; omega
end Go.Am
