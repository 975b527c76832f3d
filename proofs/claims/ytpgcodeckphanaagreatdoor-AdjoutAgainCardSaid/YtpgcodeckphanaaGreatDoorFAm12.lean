/-
 AM, PART 12. The walk: rules for simp, and what simp must leave alone.
-/
import Derived.Test.YtpgcodeckphanaaGreatDoorFAm11
namespace Go.Am

@[simp] theorem Tm.put_some (t : Tm) (d k : Nat) (v : V) : (t.put (some d) v) k = if k = d then v else t k := _root_.id rfl
@[simp] theorem Tm.put_none (t : Tm) (v : V) : t.put none v = t := _root_.id rfl
@[simp] theorem zl0 (args : List V) (k : Nat) : zel args k = (args[k]?).getD .undef := _root_.id rfl
@[simp] theorem A.ev_t (t : Nat -> V) (i : Nat) : A.ev t (.t i) = t i := _root_.id rfl
@[simp] theorem A.ev_c (t : Nat -> V) (v : V) : A.ev t (.c v) = v := _root_.id rfl

variable {P : Program}
def opK (P : Program) (K : Tm -> H -> Prop) (d : Option Nat) (is : List SI) (t : Tm) (h : H) (r : Option (V × D)) : Prop :=
 match r with
 | some (v, dd) => Owp P K is (t.put d v) (h.app dd)
 | none => False
@[simp] theorem zqN (K : Tm -> H -> Prop) (d : Option Nat) (is : List SI) (t : Tm) (h : H) (v : V) (dd : D) : opK P K d is t h (some (v, dd)) = Owp P K is (t.put d v) (h.app dd) := _root_.id rfl
def zb0 (P : Program) (K : Tm -> H -> Prop) (w : Bool) (d : Option Nat) (x : X) (is : List SI) (t : Tm) (h : H) (g : V) : Prop :=
 match g with
 | .bool b => if (b == w) = true then Owp P K (⟨d, none, x⟩ :: is) t h else Owp P K is (t.put d .undef) h
 | .tup [] => Owp P K is (t.put d .undef) h
 | _ => False
section
variable (K : Tm -> H -> Prop) (d : Option Nat) (x : X) (is : List SI) (t : Tm) (h : H)
@[simp] theorem zpm : zb0 P K true d x is t h (.bool true) = Owp P K (⟨d, none, x⟩ :: is) t h := by simp [zb0]
@[simp] theorem zpY : zb0 P K false d x is t h (.bool false) = Owp P K (⟨d, none, x⟩ :: is) t h := by simp [zb0]
@[simp] theorem zo9 : zb0 P K false d x is t h (.bool true) = Owp P K is (t.put d .undef) h := by simp [zb0]
@[simp] theorem zoG : zb0 P K true d x is t h (.bool false) = Owp P K is (t.put d .undef) h := by simp [zb0]
@[simp] theorem zma (w : Bool) : zb0 P K w d x is t h .undef = Owp P K is (t.put d .undef) h := _root_.id rfl
@[simp] theorem zlk (w : Bool) : zb0 P K w d x is t h (.tup []) = Owp P K is (t.put d .undef) h := _root_.id rfl
end
def retK (P : Program) (K : Tm -> H -> Prop) (d : Option Nat) (is : List SI) (t : Tm) (v : V) (h : H) : Prop := Owp P K is (t.put d v) h
@[simp] theorem zrr (K : Tm -> H -> Prop) (d : Option Nat) (is : List SI) (t : Tm) (v : V) (h : H) : retK P K d is t v h = Owp P K is (t.put d v) h := _root_.id rfl
def ziT (P : Program) (f : V) (args : List V) (h : H) (Q : V -> H -> Prop) : Prop := zdr P f args h Q
@[simp] theorem zow (g : FuncId) (first cap args : List V) (h : H) (Q : V -> H -> Prop) : ziT P (.func (.func g) first cap) args h Q = Acalls P g (first ++ args ++ cap) h Q := _root_.id rfl
@[simp] theorem zqv (i : Nat) (args : List V) (h : H) (Q : V -> H -> Prop) : ziT P (.yl i) args h Q = Ayields P i args h Q := _root_.id rfl
@[simp] theorem znk (args : List V) (h : H) (Q : V -> H -> Prop) : ziT P (.sl 0 0 0 1 (some 0)) args h Q = zmu args h Q := _root_.id rfl
@[simp] theorem zos (args : List V) (h : H) (Q : V -> H -> Prop) : ziT P (.sl 0 0 0 2 (some 0)) args h Q = zoS args h Q := _root_.id rfl
@[simp] theorem zmP (args : List V) (h : H) (Q : V -> H -> Prop) : ziT P (.sl 0 0 0 3 (some 0)) args h Q = zl5 args h Q := _root_.id rfl

variable {K : Tm -> H -> Prop}
@[simp] theorem zrt (t : Tm) (h : H) : Owp P K [] t h = K t h := _root_.id rfl
@[simp] theorem zrC (d : Option Nat) (i : I) (is : List SI) (t : Tm) (h : H) : Owp P K (⟨d, none, .op i⟩ :: is) t h = opK P K d is t h (exec i t h.get h.next) := by
 simp only [Owp, zan, opK]
 split <;> rename_i e <;> simp only [e]
@[simp] theorem zoF (d : Option Nat) (g : Nat) (w : Bool) (x : X) (is : List SI) (t : Tm) (h : H) : Owp P K (⟨d, some (g, w), x⟩ :: is) t h = zb0 P K w d x is t h (t g) := by
 simp only [Owp, zan, zb0]
 split
 ·rename_i e
  split at e <;> first | (cases e; done) | skip
  rename_i _ h1 h2
  split
  ·rename_i e'; exact absurd e' (h1 _)
  ·rename_i e'; exact absurd e' h2
  ·rfl
 ·rename_i e
  split at e
  ·rename_i b hb
   simp only [Option.some.injEq] at e
   rw [hb]
   simp [e]
  ·rename_i hb; rw [hb]
  ·cases e
 ·rename_i e
  split at e
  ·rename_i b hb
   simp only [Option.some.injEq] at e
   rw [hb]
   simp [e]
  ·cases e
  ·cases e
@[simp] theorem zqa (d : Option Nat) (f : A) (args : List A) (is : List SI) (t : Tm) (h : H) : Owp P K (⟨d, none, .call f args⟩ :: is) t h = ziT P (f.ev t) (args.map (·.ev t)) h (retK P K d is t) := _root_.id rfl

variable {Q : Exit -> Tm -> H -> Prop}
def zky (P : Program) (Q : Exit -> Tm -> H -> Prop) (a b : C) (t : Tm) (h : H) (c : V) : Prop := zeo c (Cwp P a Q t h) (Cwp P b Q t h)
@[simp] theorem zp4 (t : Tm) (h : H) : Cwp P .skip Q t h = Q .normal t h := _root_.id rfl
@[simp] theorem zru (ops : List SI) (t : Tm) (h : H) : Cwp P (.reg ops) Q t h = Owp P (Q .normal) ops t h := _root_.id rfl
@[simp] theorem zrb (a b : C) (t : Tm) (h : H) : Cwp P (.seq a b) Q t h = Cwp P a (zfg (Cwp P b Q) Q) t h := _root_.id rfl
@[simp] theorem zqT (c : A) (a b : C) (t : Tm) (h : H) : Cwp P (.cond c a b) Q t h = zky P Q a b t h (c.ev t) := _root_.id rfl
@[simp] theorem zpX (id : Nat) (b : C) (t : Tm) (h : H) : Cwp P (.block id b) Q t h = Cwp P b (zcC id Q) t h := _root_.id rfl
@[simp] theorem zqA (b : C) (t : Tm) (h : H) : Cwp P (.loop b) Q t h = zf3 (Cwp P b) Q t h := _root_.id rfl
@[simp] theorem zqu (id : Nat) (t : Tm) (h : H) : Cwp P (.exit id) Q t h = Q (.exit id) t h := _root_.id rfl
@[simp] theorem zq5 (t : Tm) (h : H) : Cwp P .ret Q t h = Q .ret t h := _root_.id rfl
@[simp] theorem zoo (a b : C) (t : Tm) (h : H) : zky P Q a b t h (.bool true) = Cwp P a Q t h := by simp [zky, zeo]
@[simp] theorem znN (a b : C) (t : Tm) (h : H) : zky P Q a b t h (.bool false) = Cwp P b Q t h := by simp [zky, zeo]
@[simp] theorem zmA (next : Tm -> H -> Prop) (t : Tm) (h : H) : zfg next Q .normal t h = next t h := _root_.id rfl
@[simp] theorem zoP (next : Tm -> H -> Prop) (t : Tm) (h : H) : zfg next Q .ret t h = Q .ret t h := _root_.id rfl
@[simp] theorem zn5 (next : Tm -> H -> Prop) (i : Nat) (t : Tm) (h : H) : zfg next Q (.exit i) t h = Q (.exit i) t h := _root_.id rfl
@[simp] theorem zkJ (id : Nat) (t : Tm) (h : H) : zcC id Q .normal t h = Q .normal t h := _root_.id rfl
@[simp] theorem zn9 (id : Nat) (t : Tm) (h : H) : zcC id Q .ret t h = Q .ret t h := _root_.id rfl
@[simp] theorem zmN (id i : Nat) (t : Tm) (h : H) : zcC id Q (.exit i) t h = if i = id then Q .normal t h else Q (.exit i) t h := _root_.id rfl
theorem zcb {ops : List SI} {t : Tm} {h : H} (c : Swp P (Q .normal) ops t h) : Cwp P (.dreg [] ops) Q t h := .inl ⟨rfl, c⟩
def sopK (P : Program) (K : Tm -> H -> Prop) (d : Option Nat) (is : List SI) (t : Tm) (h : H) (r : Option (V × D)) : Prop :=
 match r with
 | some (v, dd) => Swp P K is (t.put d v) (h.app dd)
 | none => False
@[simp] theorem zpZ (K : Tm -> H -> Prop) (d : Option Nat) (is : List SI) (t : Tm) (h : H) (v : V) (dd : D) : sopK P K d is t h (some (v, dd)) = Swp P K is (t.put d v) (h.app dd) := _root_.id rfl
def zbI (P : Program) (K : Tm -> H -> Prop) (w : Bool) (d : Option Nat) (x : X) (is : List SI) (t : Tm) (h : H) (g : V) : Prop :=
 match g with
 | .bool b => if (b == w) = true then Swp P K (⟨d, none, x⟩ :: is) t h else Swp P K is (t.put d .undef) h
 | .tup [] => Swp P K is (t.put d .undef) h
 | _ => False
def zmz (P : Program) (K : Tm -> H -> Prop) (d : Option Nat) (is : List SI) (t : Tm) (h : H) (f : V) (args : List V) : Prop :=
 ∃ Q' : V -> H -> Prop, (∃ v h', Q' v h') ∧ zdr P f args h Q' ∧ ∀ v h', Q' v h' -> Swp P K is (t.put d v) h'
section
variable (K : Tm -> H -> Prop) (d : Option Nat) (x : X) (is : List SI) (t : Tm) (h : H)
@[simp] theorem zrz : Swp P K [] t h = K t h := _root_.id rfl
@[simp] theorem zop : zbI P K true d x is t h (.bool true) = Swp P K (⟨d, none, x⟩ :: is) t h := by simp [zbI]
@[simp] theorem zn4 : zbI P K false d x is t h (.bool false) = Swp P K (⟨d, none, x⟩ :: is) t h := by simp [zbI]
@[simp] theorem zoC : zbI P K false d x is t h (.bool true) = Swp P K is (t.put d .undef) h := by simp [zbI]
@[simp] theorem zol : zbI P K true d x is t h (.bool false) = Swp P K is (t.put d .undef) h := by simp [zbI]
@[simp] theorem zlA (w : Bool) : zbI P K w d x is t h .undef = Swp P K is (t.put d .undef) h := _root_.id rfl
@[simp] theorem zkB (w : Bool) : zbI P K w d x is t h (.tup []) = Swp P K is (t.put d .undef) h := _root_.id rfl
@[simp] theorem zrF (i : I) : Swp P K (⟨d, none, .op i⟩ :: is) t h = sopK P K d is t h (exec i t h.get h.next) := by
 simp only [Swp, Sstep, zan, sopK]
 split <;> rename_i e <;> simp only [e]
@[simp] theorem zo1 (g : Nat) (w : Bool) : Swp P K (⟨d, some (g, w), x⟩ :: is) t h = zbI P K w d x is t h (t g) := by
 simp only [Swp, Sstep, zan, zbI]
 split
 ·rename_i e
  split at e <;> first | (cases e; done) | skip
  rename_i _ h1 h2
  split
  ·rename_i e'; exact absurd e' (h1 _)
  ·rename_i e'; exact absurd e' h2
  ·rfl
 ·rename_i e
  split at e
  ·rename_i b hb
   simp only [Option.some.injEq] at e
   rw [hb]
   simp [e]
  ·rename_i hb; rw [hb]
  ·cases e
 ·rename_i e
  split at e
  ·rename_i b hb
   simp only [Option.some.injEq] at e
   rw [hb]
   simp [e]
  ·cases e
  ·cases e
@[simp] theorem zp7 (f : A) (args : List A) : Swp P K (⟨d, none, .call f args⟩ :: is) t h = zmz P K d is t h (f.ev t) (args.map (·.ev t)) := _root_.id rfl
end
theorem zdL {K : Tm -> H -> Prop} {d : Option Nat} {is : List SI} {t : Tm} {h : H} {g : FuncId} {first cap args : List V} {v : V} {h' : H} (c : ∀ Q : V -> H -> Prop, Q v h' -> Acalls P g (first ++ args ++ cap) h Q) (k : Swp P K is (t.put d v) h') : zmz P K d is t h (.func (.func g) first cap) args :=
 ⟨fun u h2 => u = v ∧ h2 = h', ⟨v, h', rfl, rfl⟩, c _ ⟨rfl, rfl⟩, by rintro u h2 ⟨rfl, rfl⟩; exact k⟩
def resK (r : Option (List V)) (h : H) (Q : V -> H -> Prop) : Prop :=
 match r with
 | some vs => Q (tupV vs) h
 | none => False
@[simp] theorem zpk (vs : List V) (h : H) (Q : V -> H -> Prop) : resK (some vs) h Q = Q (tupV vs) h := _root_.id rfl
@[simp] theorem znx (rs : List RV) (R : V -> H -> Prop) (t : Tm) (h : H) : zds rs R .ret t h = resK (zbL h.get t rs) h R := _root_.id rfl
@[simp] theorem zkE (rs : List RV) (R : V -> H -> Prop) (t : Tm) (h : H) : zds rs R .normal t h = resK (zbL h.get t rs) h R := _root_.id rfl
@[simp] theorem zpb (g : Nat -> Option O) (t : Tm) : zbL g t [] = some [] := _root_.id rfl
@[simp] theorem zpd (g : Nat -> Option O) (t : Tm) (k : Nat) (rs : List RV) : zbL g t (.tmp k :: rs) = (zbL g t rs).map (t k :: ·) := by
 simp only [zbL, resV]; cases zbL g t rs <;> rfl
@[simp] theorem zoy (g : Nat -> Option O) (t : Tm) (k n : Nat) (a : Bool) (rs : List RV) : zbL g t (.cell k a n :: rs) = (zdh g a n (t k)).bind fun v => (zbL g t rs).map (v :: ·) := by
 simp only [zbL, resV]; cases zdh g a n (t k) with
 | none => rfl
 | some v => simp only [Option.bind_some]; cases zbL g t rs <;> rfl
@[simp] theorem zqb : tupV [] = .tup [] := _root_.id rfl
@[simp] theorem zqE (v : V) : tupV [v] = v := _root_.id rfl
@[simp] theorem zqc (v u : V) (vs : List V) : tupV (v :: u :: vs) = .tup (v :: u :: vs) := _root_.id rfl

@[simp] theorem zni (v : V) : zal (some v) = some (v, .keep) := _root_.id rfl
def zif (off : Nat) : V -> Option V
 | .ptr i n o => some (.ptr i n (o + off))
 | .gp g o => some (.gp g (o + off))
 | _ => none
def zka (agg : Bool) (off n : Nat) : V -> Option V
 | .agg cs => zbX agg off n cs
 | _ => none
def znF (i : Nat) : V -> Option V
 | .tup vs => vs[i]?
 | _ => none
def cidV : V -> Option V
 | .str s => some (.str s)
 | _ => none
def boxV (next : Nat) (v : V) : Option (V × D) := if v.solid then some (.ptr next v.cells.length 0, .push (.row v.cells)) else none
def mapD (d : Option D) : Option (V × D) := d.map fun d => (.undef, d)
section
variable (t : Nat -> V) (g : Nat -> Option O) (n : Nat)
@[simp] theorem zqy (x : A) : exec (.mov x) t g n = some (x.ev t, .keep) := _root_.id rfl
@[simp] theorem zph (c a b : A) : exec (.pick c a b) t g n = zal (zgN (c.ev t) (a.ev t) (b.ev t)) := _root_.id rfl
@[simp] theorem znX (z : List V) : exec (.alloc z) t g n = some (.ptr n z.length 0, .push (.row z)) := _root_.id rfl
@[simp] theorem zqQ (x : A) : exec (.box x) t g n = boxV n (x.ev t) := _root_.id rfl
@[simp] theorem zmj (ty : TypeId) (x : A) : exec (.mkIface ty x) t g n = some (.iface ty (x.ev t), .keep) := _root_.id rfl
@[simp] theorem zof (z : List V) (ps : List (Nat × Nat × A)) : exec (.build z ps) t g n = zal ((zcE z (ps.map fun (o, n, x) => (o, n, x.ev t))).map .agg) := _root_.id rfl
@[simp] theorem zkz (sz len : Nat) (z : List V) (ps : List (Nat × A)) : exec (.buildSlice sz len z ps) t g n = (zcE (zap len z) (ps.map fun (k, x) => (k * sz, sz, x.ev t))).map fun cs => (.sl n (len * sz) 0 len (some len), .push (.row cs)) := _root_.id rfl
@[simp] theorem zpe (a : Bool) (m : Nat) (x : A) : exec (.load a m x) t g n = zal (zdh g a m (x.ev t)) := _root_.id rfl
@[simp] theorem zog (m : Nat) (a x : A) : exec (.store m a x) t g n = mapD (zdQ g m (a.ev t) (x.ev t)) := _root_.id rfl
@[simp] theorem zng (x : A) : exec (.nilchk x) t g n = zal (zcP (x.ev t)) := _root_.id rfl
@[simp] theorem zqK (op : BinOp) (x y : A) : exec (.bin op x y) t g n = zal (binV op (x.ev t) (y.ev t)) := _root_.id rfl
@[simp] theorem zq2 (b : Bool) (ts : TS) (x y : A) : exec (.eq b ts x y) t g n = zal ((eqV ts (x.ev t) (y.ev t)).map fun r => .bool (if b then !r else r)) := _root_.id rfl
@[simp] theorem zrw (op : UnOp) (x : A) : exec (.un op x) t g n = zal (unV op (x.ev t)) := _root_.id rfl
@[simp] theorem zmn (k : IntKind) (x : A) : exec (.convInt k x) t g n = zal ((zg4 (x.ev t)).map fun m => .int k (k.wrap m)) := _root_.id rfl
@[simp] theorem zna (x : A) : exec (.convId x) t g n = zal (cidV (x.ev t)) := by simp only [exec, cidV]; cases x.ev t <;> rfl
@[simp] theorem zor (x : A) : exec (.strOf x) t g n = zal (zeh g (x.ev t)) := _root_.id rfl
@[simp] theorem zkD (o : Nat) (x : A) : exec (.fieldAddr o x) t g n = zal (zif o (x.ev t)) := by simp only [exec, zif]; cases x.ev t <;> rfl
@[simp] theorem zn0 (a : Bool) (o m : Nat) (x : A) : exec (.field a o m x) t g n = zal (zka a o m (x.ev t)) := by simp only [exec, zka]; cases x.ev t <;> rfl
@[simp] theorem zkF (s : Nat) (x i : A) : exec (.indexAddr s x i) t g n = zal (zaF s (x.ev t) (i.ev t)) := _root_.id rfl
@[simp] theorem ziQ (l s : Nat) (x i : A) : exec (.indexAddrArr l s x i) t g n = zal (za1 l s (x.ev t) (i.ev t)) := _root_.id rfl
@[simp] theorem zqG (e : StIn) (x y : A) : exec (.ext e x y) t g n = zal (extV e (x.ev t) (y.ev t)) := _root_.id rfl
@[simp] theorem zoq (s : List UInt8) (c : Int) : extV .indexByte (.str s) (.int .u8 c) = some (.int .i64 (Go.Lib.indexByte s c.toNat.toUInt8)) := _root_.id rfl
@[simp] theorem zn1 (s : List UInt8) (c : Int) : extV .count (.str s) (.int .u8 c) = some (.int .i64 (Go.Lib.countByte s c.toNat.toUInt8 : Nat)) := _root_.id rfl
@[simp] theorem zl7 (s u : List UInt8) : extV .compare (.str s) (.str u) = some (.int .i64 (Go.Lib.compareBytes s u)) := _root_.id rfl
@[simp] theorem zox (k : Nat) (fn : List V -> Option V) (args : List A) : exec (.pcall k fn args) t g n = zal (fn (args.map (·.ev t))) := _root_.id rfl
@[simp] theorem zlh (x i : A) : exec (.indexStr x i) t g n = zal (zbV (x.ev t) (i.ev t)) := _root_.id rfl
@[simp] theorem zli (a : Bool) (l s : Nat) (x i : A) : exec (.indexArr a l s x i) t g n = zal (zcL a l s (x.ev t) (i.ev t)) := _root_.id rfl
@[simp] theorem zk1 (x : A) (lo hi : Option A) : exec (.sliceStr x lo hi) t g n = zal (zbS (lo.map (·.ev t)) (hi.map (·.ev t)) (x.ev t)) := _root_.id rfl
@[simp] theorem zpq (s : Nat) (x hi : A) : exec (.resl s x hi) t g n = zal ((zax s none (some (hi.ev t)) none (x.ev t)).or (zi1 g s (hi.ev t) (x.ev t))) := _root_.id rfl
@[simp] theorem zmc (s : Nat) (x : A) (lo hi mx : Option A) : exec (.sliceSl s x lo hi mx) t g n = zal (zax s (lo.map (·.ev t)) (hi.map (·.ev t)) (mx.map (·.ev t)) (x.ev t)) := _root_.id rfl
@[simp] theorem zlm (l s : Nat) (x : A) (lo hi mx : Option A) : exec (.sliceArr l s x lo hi mx) t g n = zal (zeO l s (lo.map (·.ev t)) (hi.map (·.ev t)) (mx.map (·.ev t)) (x.ev t)) := _root_.id rfl
@[simp] theorem zkA (s b : Nat) (z : List V) (l c : A) : exec (.makeSlice s b z l c) t g n = zbb n s b z (l.ev t) (c.ev t) := _root_.id rfl
@[simp] theorem zk8 (f : Fn) (a c : List A) : exec (.makeFunc f a c) t g n = some (.func f (a.map (·.ev t)) (c.map (·.ev t)), .keep) := _root_.id rfl
@[simp] theorem zmf (x : A) (i : Nat) : exec (.extract x i) t g n = zal (znF i (x.ev t)) := by simp only [exec, znF]; cases x.ev t <;> rfl
@[simp] theorem zqD (k : Nat) (x : A) : exec (.len k x) t g n = zal (lenV k g (x.ev t)) := _root_.id rfl
@[simp] theorem znE (s b : Nat) (x y : A) : exec (.append s b x y) t g n = zaE g n s b (x.ev t) (y.ev t) := _root_.id rfl
@[simp] theorem zm0 (m : Bool) (x : A) (r : List A) : exec (.minmax m x r) t g n = zal (minmaxV m (x.ev t) (r.map (·.ev t))) := _root_.id rfl
@[simp] theorem zlW : exec .makeMap t g n = some (.map n, .push (.mapo [] [] 0)) := _root_.id rfl
@[simp] theorem zmK (kd : KD) (z : V) (ok : Bool) (x k : A) : exec (.lookup kd z ok x k) t g n = zal (zcx g kd z ok (x.ev t) (k.ev t)) := _root_.id rfl
@[simp] theorem znI (kd : KD) (x k v : A) : exec (.mapSet kd x k v) t g n = mapD (zcc g kd (x.ev t) (k.ev t) (v.ev t)) := _root_.id rfl
@[simp] theorem znp (kd : KD) (x k : A) : exec (.mapDel kd x k) t g n = mapD (zca g kd (x.ev t) (k.ev t)) := _root_.id rfl
@[simp] theorem zpc (s : Nat) (d x : A) : exec (.copy s d x) t g n = zhe g s (d.ev t) (x.ev t) := _root_.id rfl
@[simp] theorem zms (s : Nat) (z : List V) (x : A) : exec (.clearSl s z x) t g n = mapD (zcs g z (x.ev t)) := _root_.id rfl
@[simp] theorem zlE (x : A) : exec (.clearMap x) t g n = mapD (zbA g (x.ev t)) := _root_.id rfl
end
@[simp] theorem zpL (d : D) : mapD (some d) = some (.undef, d) := _root_.id rfl
@[simp] theorem zqW (h : H) : h.app .keep = h := _root_.id rfl
@[simp] theorem zf2 (h : H) (i : Nat) (o : O) : h.app (.set i o) = h.set i o := _root_.id rfl
@[simp] theorem zeD (h : H) (o : O) : h.app (.push o) = h.push o := _root_.id rfl
@[simp] theorem zpa (off g o : Nat) : zif off (.gp g o) = some (.gp g (o + off)) := _root_.id rfl
@[simp] theorem zok (off i n o : Nat) : zif off (.ptr i n o) = some (.ptr i n (o + off)) := _root_.id rfl
@[simp] theorem zon (a : Bool) (o n : Nat) (cs : List V) : zka a o n (.agg cs) = zbX a o n cs := _root_.id rfl
@[simp] theorem zod (o n : Nat) (cs : List V) : zbX true o n cs = some (.agg ((cs.drop o).take n)) := _root_.id rfl
@[simp] theorem zm7 (o n : Nat) (cs : List V) : zbX false o n cs = cs[o]? := _root_.id rfl
@[simp] theorem zpw (i : Nat) (vs : List V) : znF i (.tup vs) = vs[i]? := _root_.id rfl
@[simp] theorem zp5 (s : List UInt8) : cidV (.str s) = some (.str s) := _root_.id rfl
@[simp] theorem zqm (n : Nat) (cs : List V) : boxV n (.agg cs) = if cs.all V.one then some (.ptr n cs.length 0, .push (.row cs)) else none := _root_.id rfl
@[simp] theorem zqw (n : Nat) (k : IntKind) (x : Int) : boxV n (.int k x) = some (.ptr n 1 0, .push (.row [.int k x])) := _root_.id rfl
@[simp] theorem zqF (n : Nat) (s : List UInt8) : boxV n (.str s) = some (.ptr n 1 0, .push (.row [.str s])) := _root_.id rfl
@[simp] theorem zpn (n : Nat) (b : Bool) : boxV n (.bool b) = some (.ptr n 1 0, .push (.row [.bool b])) := _root_.id rfl
@[simp] theorem zoc (a b : V) : zgN (.bool true) a b = some a := _root_.id rfl
@[simp] theorem znv (a b : V) : zgN (.bool false) a b = some b := _root_.id rfl
@[simp] theorem zo7 (c d : Bool) : zgN (.bool c) (.bool d) (.bool false) = some (.bool (c && d)) := by cases c <;> rfl
@[simp] theorem zqx (c d : Bool) : zgN (.bool c) (.bool true) (.bool d) = some (.bool (c || d)) := by cases c <;> rfl
@[simp] theorem zmE (i n o : Nat) : zcP (.ptr i n o) = some (.ptr i n o) := _root_.id rfl
@[simp] theorem zob (g o : Nat) : zcP (.gp g o) = some (.gp g o) := _root_.id rfl
@[simp] theorem zme (f : FuncId) (a b : List V) : zcP (.func (.func f) a b) = some (.func (.func f) a b) := _root_.id rfl
@[simp] theorem zov (k : IntKind) (n : Int) : zg4 (.int k n) = some n := _root_.id rfl
@[simp] theorem zqV (op : BinOp) (a b : List UInt8) : binV op (.str a) (.str b) = strV op a b := _root_.id rfl
@[simp] theorem zp9 (op : BinOp) (k k' : IntKind) (a b : Int) : binV op (.int k a) (.int k' b) = if zcS op then zcO op k a b else if k = k' then intV op k a b else none := _root_.id rfl
attribute [simp] zcS
@[simp] theorem zqH (x y : List UInt8) : strV .add x y = if x.length + y.length ≤ 9223372036854775807 then some (.str (x ++ y)) else none := _root_.id rfl
@[simp] theorem zqn (x y : List UInt8) : strV .eql x y = some (.bool (x == y)) := _root_.id rfl
@[simp] theorem zqO (x y : List UInt8) : strV .neq x y = some (.bool (!(x == y))) := _root_.id rfl
@[simp] theorem zqJ (x y : List UInt8) : strV .lss x y = some (.bool (Op.bytesLess x y)) := _root_.id rfl
@[simp] theorem zry (b : Bool) : unV .not (.bool b) = some (.bool (!b)) := _root_.id rfl
@[simp] theorem zqZ (k : IntKind) (n : Int) : unV .neg (.int k n) = some (.int k (k.wrap (0 - n))) := _root_.id rfl
@[simp] theorem zpH (cs : List V) : zcE cs [] = some cs := _root_.id rfl
@[simp] theorem zn6 (cs : List V) (o n : Nat) (v : V) (r : List (Nat × Nat × V)) : zcE cs ((o, n, v) :: r) = if v.solid && v.cells.length == n && decide (o + n ≤ cs.length) then zcE (putCells cs o v.cells) r else none := _root_.id rfl
@[simp] theorem zpP (k : IntKind) (n : Int) : (V.int k n).solid = true := _root_.id rfl
@[simp] theorem zn8 (b : Bool) : (V.bool b).solid = true := _root_.id rfl
@[simp] theorem zpT (s : List UInt8) : (V.str s).solid = true := _root_.id rfl
@[simp] theorem zmH : V.nilsl.solid = true := _root_.id rfl
@[simp] theorem zoN (cs : List V) : (V.agg cs).solid = cs.all V.one := _root_.id rfl
@[simp] theorem zpI (cs : List V) : (V.agg cs).cells = cs := _root_.id rfl
@[simp] theorem zo8 (k : IntKind) (n : Int) : (V.int k n).cells = [.int k n] := _root_.id rfl
@[simp] theorem zoA (b : Bool) : (V.bool b).cells = [.bool b] := _root_.id rfl
@[simp] theorem zpQ (s : List UInt8) : (V.str s).cells = [.str s] := _root_.id rfl
@[simp] theorem zmF : V.nilsl.cells = [.nilsl] := _root_.id rfl
@[simp] theorem zqz (i n o l : Nat) (c : Option Nat) : (V.sl i n o l c).cells = [.sl i n o l c] := _root_.id rfl
@[simp] theorem zrk (k : IntKind) (n : Int) : (V.int k n).one = true := _root_.id rfl
@[simp] theorem zqX (b : Bool) : (V.bool b).one = true := _root_.id rfl
@[simp] theorem zq8 (s : List UInt8) : (V.str s).one = true := _root_.id rfl
@[simp] theorem zpU : V.nilsl.one = true := _root_.id rfl
@[simp] theorem zrj : V.slz.one = true := _root_.id rfl
@[simp] theorem zrG (i n o l : Nat) (c : Option Nat) : (V.sl i n o l c).one = true := _root_.id rfl
@[simp] theorem zrp (i n o : Nat) : (V.ptr i n o).one = true := _root_.id rfl
theorem zba {v : V} (h : v.one = true) : v.cells = [v] := by cases v <;> first | rfl | cases h
theorem zbc {v : V} (h : v.one = true) : v.solid = true := by cases v <;> first | rfl | cases h
@[simp] theorem zpg (g : Nat -> Option O) (a : Bool) (n i m o : Nat) : zdh g a n (.ptr i m o) = (zab g i m).bind fun cs => if a then (if o + n ≤ cs.length then some (.agg ((cs.drop o).take n)) else none) else cs[o]? := by
 simp only [zdh]; cases zab g i m <;> rfl
@[simp] theorem zqU (g : Nat -> Option O) (a : Bool) (n b o : Nat) : zdh g a n (.gp b o) = (GT.lookup b).bind fun cs => if a then (if o + n ≤ cs.length then some (.agg ((cs.drop o).take n)) else none) else cs[o]? := by
 simp only [zdh]; cases GT.lookup b <;> rfl
@[simp] theorem zoD (g : Nat -> Option O) (n i m o : Nat) (x : V) : zdQ g n (.ptr i m o) x = if x.solid && x.cells.length == n then (g i).bind fun ob => if ob.len = m then (ob.put o x.cells).map (D.set i) else none else none := by
 simp only [zdQ]; cases g i <;> rfl
@[simp] theorem zkl (cs xs : List V) (o : Nat) : (O.row cs).put o xs = if o + xs.length ≤ cs.length then some (.row (putCells cs o xs)) else none := _root_.id rfl
@[simp] theorem zh2 (s : Nat) (cs xs : List V) (o : Nat) : (O.grow s cs).put o xs = if o + xs.length ≤ cs.length then some (.grow s (putCells cs o xs)) else none := _root_.id rfl
@[simp] theorem znK (cs : List V) : (O.row cs).len = cs.length := _root_.id rfl
@[simp] theorem zqL (s : Nat) (cs : List V) : (O.grow s cs).len = cs.length := _root_.id rfl
@[simp] theorem zl8 (cs : List V) : (O.ro cs).len = cs.length := _root_.id rfl
@[simp] theorem zjp (cs : List V) : (O.row cs).cells = cs := _root_.id rfl
@[simp] theorem ziW (s : Nat) (cs : List V) : (O.grow s cs).cells = cs := _root_.id rfl
@[simp] theorem zk3 (cs : List V) : (O.ro cs).cells = cs := _root_.id rfl
theorem zaj {g : Nat -> Option O} {i n : Nat} {o : O} (h : g i = some o) (hn : o.len = n) : zab g i n = some o.cells := by simp [zab, h, hn]
@[simp] theorem zlD (h : H) (o : O) : (h.push o).get h.next = some o := by simp [H.get_push]
@[simp] theorem zlZ (h : H) (i : Nat) (o : O) : (h.set i o).get i = some o := by simp [H.get_set]
@[simp] theorem zct (s i n o l : Nat) (c : Option Nat) (k : IntKind) (m : Int) : zaF s (.sl i n o l c) (.int k m) = if 0 ≤ m ∧ m < l then some (.ptr i n (o + m.toNat * s)) else none := _root_.id rfl
@[simp] theorem ziI (l s i n o : Nat) (k : IntKind) (m : Int) : za1 l s (.ptr i n o) (.int k m) = if 0 ≤ m ∧ m < l then some (.ptr i n (o + m.toNat * s)) else none := _root_.id rfl
@[simp] theorem zjb (l s g o : Nat) (k : IntKind) (m : Int) : za1 l s (.gp g o) (.int k m) = if 0 ≤ m ∧ m < l then some (.gp g (o + m.toNat * s)) else none := _root_.id rfl
@[simp] theorem zk5 (s : List UInt8) (k : IntKind) (m : Int) : zbV (.str s) (.int k m) = if 0 ≤ m then (s[m.toNat]?).map fun b => .int .u8 b.toNat else none := _root_.id rfl
@[simp] theorem zkL (a : Bool) (l s : Nat) (cs : List V) (k : IntKind) (m : Int) : zcL a l s (.agg cs) (.int k m) = if 0 ≤ m ∧ m < l then zbX a (m.toNat * s) s cs else none := _root_.id rfl
@[simp] theorem zqS (g : Nat -> Option O) (s : List UInt8) : lenV 0 g (.str s) = some (.int .i64 s.length) := _root_.id rfl
@[simp] theorem zq0 (g : Nat -> Option O) (i n o l : Nat) (c : Option Nat) : lenV 1 g (.sl i n o l c) = some (.int .i64 l) := _root_.id rfl
@[simp] theorem zn2 (g : Nat -> Option O) : lenV 1 g .nilsl = some (.int .i64 0) := _root_.id rfl
@[simp] theorem zqg (g : Nat -> Option O) : lenV 1 g .slz = some (.int .i64 0) := _root_.id rfl
@[simp] theorem zpW (g : Nat -> Option O) (i n o l : Nat) (c : Option Nat) : zeh g (.sl i n o l c) = (zay g 1 (.sl i n o l c)).bind fun p => (p.2.mapM u8Of).map .str := by
 simp only [zeh]; cases zay g 1 (.sl i n o l c) <;> rfl
@[simp] theorem zbs (d y : Nat) : zam d y none = some d := _root_.id rfl
@[simp] theorem znt (d y : Nat) (k : IntKind) (n : Int) : zam d y (some (.int k n)) = if 0 ≤ n ∧ n ≤ (y : Int) then some n.toNat else none := _root_.id rfl
@[simp] theorem zkR (lo hi : Option V) (s : List UInt8) : zbS lo hi (.str s) = (zam s.length s.length hi).bind fun h => (zam 0 h lo).bind fun l => some (.str ((s.take h).drop l)) := by
 simp only [zbS]; cases zam s.length s.length hi with
 | none => rfl
 | some h => simp only [Option.bind_some]; cases zam 0 h lo <;> rfl
@[simp] theorem zmV (k k' : IntKind) (x y : Int) : minmaxV false (.int k x) [.int k' y] = if k = k' then some (.int k (if y < x then y else x)) else none := by simp [minmaxV]
@[simp] theorem znc (k k' : IntKind) (x y : Int) : minmaxV true (.int k x) [.int k' y] = if k = k' then some (.int k (if x < y then y else x)) else none := by simp [minmaxV]
@[simp] theorem zqi (k : IntKind) (x y : Int) : intV .add k x y = some (.int k (k.wrap (x + y))) := _root_.id rfl
@[simp] theorem zqY (k : IntKind) (x y : Int) : intV .sub k x y = some (.int k (k.wrap (x - y))) := _root_.id rfl
@[simp] theorem zqs (k : IntKind) (x y : Int) : intV .mul k x y = some (.int k (k.wrap (x * y))) := _root_.id rfl
@[simp] theorem zqr (k : IntKind) (x y : Int) : intV .eql k x y = some (.bool (x == y)) := _root_.id rfl
@[simp] theorem zql (k : IntKind) (x y : Int) : intV .neq k x y = some (.bool (x != y)) := _root_.id rfl
@[simp] theorem zqP (k : IntKind) (x y : Int) : intV .lss k x y = some (.bool (decide (x < y))) := _root_.id rfl
@[simp] theorem zqj (k : IntKind) (x y : Int) : intV .leq k x y = some (.bool (decide (x ≤ y))) := _root_.id rfl
@[simp] theorem zqf (k : IntKind) (x y : Int) : intV .gtr k x y = some (.bool (decide (y < x))) := _root_.id rfl
@[simp] theorem zqo (k : IntKind) (x y : Int) : intV .geq k x y = some (.bool (decide (y ≤ x))) := _root_.id rfl
@[simp] theorem ziK (k : IntKind) (x y : Int) (hy : 0 ≤ y) : zcO .shr k x y = some (.int k (x.fdiv (2 ^ min y.toNat k.bits))) := by
 unfold zcO; rw [if_neg (by omega)]
@[simp] theorem zoz (k : IntKind) (x y : Int) (hy : 0 ≤ y) : zcO .shl k x y = some (.int k (k.wrap (x * 2 ^ min y.toNat k.bits))) := by
 unfold zcO; rw [if_neg (by omega)]
theorem zak {n : Int} (h1 : -9223372036854775808 ≤ n) (h2 : n ≤ 9223372036854775807) : IntKind.i64.wrap n = n := by
 rw [IntKind.wrap_i64]; omega
end Go.Am
