/-
 AM, PART 12. The walk: rules for simp, and what simp must leave alone.
-/
import Derived.Test.YtjahfjcfjnnnjaaGreatDoorMAm11
namespace Go.Am

@[simp] theorem Tm.put_some (t : Tm) (d k : Nat) (v : V) : (t.put (some d) v) k = if k = d then v else t k := _root_.id rfl
@[simp] theorem Tm.put_none (t : Tm) (v : V) : t.put none v = t := _root_.id rfl
@[simp] theorem zmY (args : List V) (k : Nat) : zeu args k = (args[k]?).getD .undef := _root_.id rfl
@[simp] theorem A.ev_t (t : Nat -> V) (i : Nat) : A.ev t (.t i) = t i := _root_.id rfl
@[simp] theorem A.ev_c (t : Nat -> V) (v : V) : A.ev t (.c v) = v := _root_.id rfl

variable {P : Program}
def opK (P : Program) (K : Tm -> H -> Prop) (d : Option Nat) (is : List SI) (t : Tm) (h : H) (r : Option (V × D)) : Prop :=
 match r with
 | some (v, dd) => Owp P K is (t.put d v) (h.app dd)
 | none => False
@[simp] theorem zre (K : Tm -> H -> Prop) (d : Option Nat) (is : List SI) (t : Tm) (h : H) (v : V) (dd : D) : opK P K d is t h (some (v, dd)) = Owp P K is (t.put d v) (h.app dd) := _root_.id rfl
def zcx (P : Program) (K : Tm -> H -> Prop) (w : Bool) (d : Option Nat) (x : X) (is : List SI) (t : Tm) (h : H) (g : V) : Prop :=
 match g with
 | .bool b => if (b == w) = true then Owp P K (⟨d, none, x⟩ :: is) t h else Owp P K is (t.put d .undef) h
 | .tup [] => Owp P K is (t.put d .undef) h
 | _ => False
section
variable (K : Tm -> H -> Prop) (d : Option Nat) (x : X) (is : List SI) (t : Tm) (h : H)
@[simp] theorem zpO : zcx P K true d x is t h (.bool true) = Owp P K (⟨d, none, x⟩ :: is) t h := by simp [zcx]
@[simp] theorem zpN : zcx P K false d x is t h (.bool false) = Owp P K (⟨d, none, x⟩ :: is) t h := by simp [zcx]
@[simp] theorem zpU : zcx P K false d x is t h (.bool true) = Owp P K is (t.put d .undef) h := by simp [zcx]
@[simp] theorem zpP : zcx P K true d x is t h (.bool false) = Owp P K is (t.put d .undef) h := by simp [zcx]
@[simp] theorem zmt (w : Bool) : zcx P K w d x is t h .undef = Owp P K is (t.put d .undef) h := _root_.id rfl
@[simp] theorem zl1 (w : Bool) : zcx P K w d x is t h (.tup []) = Owp P K is (t.put d .undef) h := _root_.id rfl
end
def retK (P : Program) (K : Tm -> H -> Prop) (d : Option Nat) (is : List SI) (t : Tm) (v : V) (h : H) : Prop := Owp P K is (t.put d v) h
@[simp] theorem zrG (K : Tm -> H -> Prop) (d : Option Nat) (is : List SI) (t : Tm) (v : V) (h : H) : retK P K d is t v h = Owp P K is (t.put d v) h := _root_.id rfl
def zja (P : Program) (f : V) (args : List V) (h : H) (Q : V -> H -> Prop) : Prop := zdF P f args h Q
@[simp] theorem zpf (g : FuncId) (first cap args : List V) (h : H) (Q : V -> H -> Prop) : zja P (.func (.func g) first cap) args h Q = Acalls P g (first ++ args ++ cap) h Q := _root_.id rfl
@[simp] theorem zrk (i : Nat) (args : List V) (h : H) (Q : V -> H -> Prop) : zja P (.yl i) args h Q = Ayields P i args h Q := _root_.id rfl
@[simp] theorem zoC (args : List V) (h : H) (Q : V -> H -> Prop) : zja P (.sl 0 0 0 1 (some 0)) args h Q = zmJ args h Q := _root_.id rfl
@[simp] theorem zoS (args : List V) (h : H) (Q : V -> H -> Prop) : zja P (.sl 0 0 0 2 (some 0)) args h Q = zpw args h Q := _root_.id rfl
@[simp] theorem znM (args : List V) (h : H) (Q : V -> H -> Prop) : zja P (.sl 0 0 0 3 (some 0)) args h Q = zmu args h Q := _root_.id rfl

variable {K : Tm -> H -> Prop}
@[simp] theorem zrv (t : Tm) (h : H) : Owp P K [] t h = K t h := _root_.id rfl
@[simp] theorem zrW (d : Option Nat) (i : I) (is : List SI) (t : Tm) (h : H) : Owp P K (⟨d, none, .op i⟩ :: is) t h = opK P K d is t h (exec i t h.get h.next) := by
 simp only [Owp, zau, opK]
 split <;> rename_i e <;> simp only [e]
@[simp] theorem zpL (d : Option Nat) (g : Nat) (w : Bool) (x : X) (is : List SI) (t : Tm) (h : H) : Owp P K (⟨d, some (g, w), x⟩ :: is) t h = zcx P K w d x is t h (t g) := by
 simp only [Owp, zau, zcx]
 split
 ·rename_i e
  split at e <;> first | (cases e; done) | skip
  rename_i _ h1 h2
  split
  ·rename_i e'; exact absurd e' (h1 _)
  ·rename_i e'; exact absurd e' h2
  ·rfl
 ·rename_i e
  split at e
  ·rename_i b hb
   simp only [Option.some.injEq] at e
   rw [hb]
   simp [e]
  ·rename_i hb; rw [hb]
  ·cases e
 ·rename_i e
  split at e
  ·rename_i b hb
   simp only [Option.some.injEq] at e
   rw [hb]
   simp [e]
  ·cases e
  ·cases e
@[simp] theorem zrp (d : Option Nat) (f : A) (args : List A) (is : List SI) (t : Tm) (h : H) : Owp P K (⟨d, none, .call f args⟩ :: is) t h = zja P (f.ev t) (args.map (·.ev t)) h (retK P K d is t) := _root_.id rfl

variable {Q : Exit -> Tm -> H -> Prop}
def zgT (P : Program) (Q : Exit -> Tm -> H -> Prop) (a b : C) (t : Tm) (h : H) (c : V) : Prop := zgO c (Cwp P a Q t h) (Cwp P b Q t h)
@[simp] theorem zrj (t : Tm) (h : H) : Cwp P .skip Q t h = Q .normal t h := _root_.id rfl
@[simp] theorem zou (ops : List SI) (t : Tm) (h : H) : Cwp P (.reg ops) Q t h = Owp P (Q .normal) ops t h := _root_.id rfl
@[simp] theorem znu (a b : C) (t : Tm) (h : H) : Cwp P (.seq a b) Q t h = Cwp P a (zfy (Cwp P b Q) Q) t h := _root_.id rfl
@[simp] theorem zrb (c : A) (a b : C) (t : Tm) (h : H) : Cwp P (.cond c a b) Q t h = zgT P Q a b t h (c.ev t) := _root_.id rfl
@[simp] theorem zqd (id : Nat) (b : C) (t : Tm) (h : H) : Cwp P (.block id b) Q t h = Cwp P b (zcs id Q) t h := _root_.id rfl
@[simp] theorem zqN (b : C) (t : Tm) (h : H) : Cwp P (.loop b) Q t h = zfb (Cwp P b) Q t h := _root_.id rfl
@[simp] theorem zq8 (id : Nat) (t : Tm) (h : H) : Cwp P (.exit id) Q t h = Q (.exit id) t h := _root_.id rfl
@[simp] theorem zrJ (t : Tm) (h : H) : Cwp P .ret Q t h = Q .ret t h := _root_.id rfl
@[simp] theorem zo2 (a b : C) (t : Tm) (h : H) : zgT P Q a b t h (.bool true) = Cwp P a Q t h := by simp [zgT, zgO]
@[simp] theorem zok (a b : C) (t : Tm) (h : H) : zgT P Q a b t h (.bool false) = Cwp P b Q t h := by simp [zgT, zgO]
theorem zfL {a b : C} {t : Tm} {h : H} {c : Bool} (h1 : c = true -> Cwp P a Q t h) (h2 : c = false -> Cwp P b Q t h) : zgT P Q a b t h (.bool c) := ⟨h1, h2⟩
@[simp] theorem zgB (next : Tm -> H -> Prop) (t : Tm) (h : H) : zfy next Q .normal t h = next t h := _root_.id rfl
@[simp] theorem zpv (next : Tm -> H -> Prop) (t : Tm) (h : H) : zfy next Q .ret t h = Q .ret t h := _root_.id rfl
@[simp] theorem zo3 (next : Tm -> H -> Prop) (i : Nat) (t : Tm) (h : H) : zfy next Q (.exit i) t h = Q (.exit i) t h := _root_.id rfl
@[simp] theorem zlg (id : Nat) (t : Tm) (h : H) : zcs id Q .normal t h = Q .normal t h := _root_.id rfl
@[simp] theorem zo7 (id : Nat) (t : Tm) (h : H) : zcs id Q .ret t h = Q .ret t h := _root_.id rfl
@[simp] theorem zoi (id i : Nat) (t : Tm) (h : H) : zcs id Q (.exit i) t h = if i = id then Q .normal t h else Q (.exit i) t h := _root_.id rfl
theorem zar {ops : List SI} {t : Tm} {h : H} (c : Swp P (Q .normal) ops t h) : Cwp P (.dreg [] ops) Q t h := .inl ⟨rfl, c⟩
def sopK (P : Program) (K : Tm -> H -> Prop) (d : Option Nat) (is : List SI) (t : Tm) (h : H) (r : Option (V × D)) : Prop :=
 match r with
 | some (v, dd) => Swp P K is (t.put d v) (h.app dd)
 | none => False
@[simp] theorem zpF (K : Tm -> H -> Prop) (d : Option Nat) (is : List SI) (t : Tm) (h : H) (v : V) (dd : D) : sopK P K d is t h (some (v, dd)) = Swp P K is (t.put d v) (h.app dd) := _root_.id rfl
def zbY (P : Program) (K : Tm -> H -> Prop) (w : Bool) (d : Option Nat) (x : X) (is : List SI) (t : Tm) (h : H) (g : V) : Prop :=
 match g with
 | .bool b => if (b == w) = true then Swp P K (⟨d, none, x⟩ :: is) t h else Swp P K is (t.put d .undef) h
 | .tup [] => Swp P K is (t.put d .undef) h
 | _ => False
def zmH (P : Program) (K : Tm -> H -> Prop) (d : Option Nat) (is : List SI) (t : Tm) (h : H) (f : V) (args : List V) : Prop :=
 ∃ Q' : V -> H -> Prop, (∃ v h', Q' v h') ∧ zdF P f args h Q' ∧ ∀ v h', Q' v h' -> Swp P K is (t.put d v) h'
section
variable (K : Tm -> H -> Prop) (d : Option Nat) (x : X) (is : List SI) (t : Tm) (h : H)
@[simp] theorem zry : Swp P K [] t h = K t h := _root_.id rfl
@[simp] theorem zoU : zbY P K true d x is t h (.bool true) = Swp P K (⟨d, none, x⟩ :: is) t h := by simp [zbY]
@[simp] theorem zpc : zbY P K false d x is t h (.bool false) = Swp P K (⟨d, none, x⟩ :: is) t h := by simp [zbY]
@[simp] theorem zpg : zbY P K false d x is t h (.bool true) = Swp P K is (t.put d .undef) h := by simp [zbY]
@[simp] theorem zpa : zbY P K true d x is t h (.bool false) = Swp P K is (t.put d .undef) h := by simp [zbY]
@[simp] theorem zk2 (w : Bool) : zbY P K w d x is t h .undef = Swp P K is (t.put d .undef) h := _root_.id rfl
@[simp] theorem zkP (w : Bool) : zbY P K w d x is t h (.tup []) = Swp P K is (t.put d .undef) h := _root_.id rfl
@[simp] theorem zrV (i : I) : Swp P K (⟨d, none, .op i⟩ :: is) t h = sopK P K d is t h (exec i t h.get h.next) := by
 simp only [Swp, Sstep, zau, sopK]
 split <;> rename_i e <;> simp only [e]
@[simp] theorem zqa (g : Nat) (w : Bool) : Swp P K (⟨d, some (g, w), x⟩ :: is) t h = zbY P K w d x is t h (t g) := by
 simp only [Swp, Sstep, zau, zbY]
 split
 ·rename_i e
  split at e <;> first | (cases e; done) | skip
  rename_i _ h1 h2
  split
  ·rename_i e'; exact absurd e' (h1 _)
  ·rename_i e'; exact absurd e' h2
  ·rfl
 ·rename_i e
  split at e
  ·rename_i b hb
   simp only [Option.some.injEq] at e
   rw [hb]
   simp [e]
  ·rename_i hb; rw [hb]
  ·cases e
 ·rename_i e
  split at e
  ·rename_i b hb
   simp only [Option.some.injEq] at e
   rw [hb]
   simp [e]
  ·cases e
  ·cases e
@[simp] theorem zq7 (f : A) (args : List A) : Swp P K (⟨d, none, .call f args⟩ :: is) t h = zmH P K d is t h (f.ev t) (args.map (·.ev t)) := _root_.id rfl
end
theorem za6 {K : Tm -> H -> Prop} {d : Option Nat} {is : List SI} {t : Tm} {h : H} {g : FuncId} {first cap args : List V} {v : V} {h' : H} (c : ∀ Q : V -> H -> Prop, Q v h' -> Acalls P g (first ++ args ++ cap) h Q) (k : Swp P K is (t.put d v) h') : zmH P K d is t h (.func (.func g) first cap) args :=
 ⟨fun u h2 => u = v ∧ h2 = h', ⟨v, h', rfl, rfl⟩, c _ ⟨rfl, rfl⟩, by rintro u h2 ⟨rfl, rfl⟩; exact k⟩
def resK (r : Option (List V)) (h : H) (Q : V -> H -> Prop) : Prop :=
 match r with
 | some vs => Q (tupV vs) h
 | none => False
@[simp] theorem zps (vs : List V) (h : H) (Q : V -> H -> Prop) : resK (some vs) h Q = Q (tupV vs) h := _root_.id rfl
@[simp] theorem zm9 (rs : List RV) (R : V -> H -> Prop) (t : Tm) (h : H) : zdD rs R .ret t h = resK (zcm h.get t rs) h R := _root_.id rfl
@[simp] theorem zkM (rs : List RV) (R : V -> H -> Prop) (t : Tm) (h : H) : zdD rs R .normal t h = resK (zcm h.get t rs) h R := _root_.id rfl
@[simp] theorem zp2 (g : Nat -> Option O) (t : Tm) : zcm g t [] = some [] := _root_.id rfl
@[simp] theorem zqe (g : Nat -> Option O) (t : Tm) (k : Nat) (rs : List RV) : zcm g t (.tmp k :: rs) = (zcm g t rs).map (t k :: ·) := by
 simp only [zcm, resV]; cases zcm g t rs <;> rfl
@[simp] theorem zo8 (g : Nat -> Option O) (t : Tm) (k n : Nat) (a : Bool) (rs : List RV) : zcm g t (.cell k a n :: rs) = (zdr g a n (t k)).bind fun v => (zcm g t rs).map (v :: ·) := by
 simp only [zcm, resV]; cases zdr g a n (t k) with
 | none => rfl
 | some v => simp only [Option.bind_some]; cases zcm g t rs <;> rfl
@[simp] theorem zrq : tupV [] = .tup [] := _root_.id rfl
@[simp] theorem zrd (v : V) : tupV [v] = v := _root_.id rfl
@[simp] theorem zq2 (v u : V) (vs : List V) : tupV (v :: u :: vs) = .tup (v :: u :: vs) := _root_.id rfl

@[simp] theorem zob (v : V) : zaE (some v) = some (v, .keep) := _root_.id rfl
def zh2 (off : Nat) : V -> Option V
 | .ptr i n o => some (.ptr i n (o + off))
 | .gp g o => some (.gp g (o + off))
 | _ => none
def zkB (agg : Bool) (off n : Nat) : V -> Option V
 | .agg cs => zcl agg off n cs
 | _ => none
def zna (i : Nat) : V -> Option V
 | .tup vs => vs[i]?
 | _ => none
def cidV : V -> Option V
 | .str s => some (.str s)
 | _ => none
def boxV (next : Nat) (v : V) : Option (V × D) := if v.solid then some (.ptr next v.cells.length 0, .push (.row v.cells)) else none
def mapD (d : Option D) : Option (V × D) := d.map fun d => (.undef, d)
section
variable (t : Nat -> V) (g : Nat -> Option O) (n : Nat)
@[simp] theorem zqU (x : A) : exec (.mov x) t g n = some (x.ev t, .keep) := _root_.id rfl
@[simp] theorem zql (c a b : A) : exec (.pick c a b) t g n = zaE (zgV (c.ev t) (a.ev t) (b.ev t)) := _root_.id rfl
@[simp] theorem zoJ (z : List V) : exec (.alloc z) t g n = some (.ptr n z.length 0, .push (.row z)) := _root_.id rfl
@[simp] theorem zqH (x : A) : exec (.box x) t g n = boxV n (x.ev t) := _root_.id rfl
@[simp] theorem zmx (ty : TypeId) (x : A) : exec (.mkIface ty x) t g n = some (.iface ty (x.ev t), .keep) := _root_.id rfl
@[simp] theorem zoQ (z : List V) (ps : List (Nat × Nat × A)) : exec (.build z ps) t g n = zaE ((zcU z (ps.map fun (o, n, x) => (o, n, x.ev t))).map .agg) := _root_.id rfl
@[simp] theorem zjH (sz len : Nat) (z : List V) (ps : List (Nat × A)) : exec (.buildSlice sz len z ps) t g n = (zcU (zaH len z) (ps.map fun (k, x) => (k * sz, sz, x.ev t))).map fun cs => (.sl n (len * sz) 0 len (some len), .push (.row cs)) := _root_.id rfl
@[simp] theorem zpx (a : Bool) (m : Nat) (x : A) : exec (.load a m x) t g n = zaE (zdr g a m (x.ev t)) := _root_.id rfl
@[simp] theorem zo9 (m : Nat) (a x : A) : exec (.store m a x) t g n = mapD (zch g m (a.ev t) (x.ev t)) := _root_.id rfl
@[simp] theorem zn8 (x : A) : exec (.nilchk x) t g n = zaE (zc6 (x.ev t)) := _root_.id rfl
@[simp] theorem zqM (op : BinOp) (x y : A) : exec (.bin op x y) t g n = zaE (binV op (x.ev t) (y.ev t)) := _root_.id rfl
@[simp] theorem zrC (b : Bool) (ts : TS) (x y : A) : exec (.eq b ts x y) t g n = zaE ((eqV ts (x.ev t) (y.ev t)).map fun r => .bool (if b then !r else r)) := _root_.id rfl
@[simp] theorem zrK (op : UnOp) (x : A) : exec (.un op x) t g n = zaE (unV op (x.ev t)) := _root_.id rfl
@[simp] theorem zmK (k : IntKind) (x : A) : exec (.convInt k x) t g n = zaE ((zg8 (x.ev t)).map fun m => .int k (k.wrap m)) := _root_.id rfl
@[simp] theorem zoy (x : A) : exec (.convId x) t g n = zaE (cidV (x.ev t)) := by simp only [exec, cidV]; cases x.ev t <;> rfl
@[simp] theorem zo5 (x : A) : exec (.strOf x) t g n = zaE (zeA g (x.ev t)) := _root_.id rfl
@[simp] theorem zkQ (o : Nat) (x : A) : exec (.fieldAddr o x) t g n = zaE (zh2 o (x.ev t)) := by simp only [exec, zh2]; cases x.ev t <;> rfl
@[simp] theorem zoI (a : Bool) (o m : Nat) (x : A) : exec (.field a o m x) t g n = zaE (zkB a o m (x.ev t)) := by simp only [exec, zkB]; cases x.ev t <;> rfl
@[simp] theorem zkR (s : Nat) (x i : A) : exec (.indexAddr s x i) t g n = zaE (zaM s (x.ev t) (i.ev t)) := _root_.id rfl
@[simp] theorem zjd (l s : Nat) (x i : A) : exec (.indexAddrArr l s x i) t g n = zaE (zbq l s (x.ev t) (i.ev t)) := _root_.id rfl
@[simp] theorem zqI (e : StIn) (x y : A) : exec (.ext e x y) t g n = zaE (extV e (x.ev t) (y.ev t)) := _root_.id rfl
@[simp] theorem zo1 (s : List UInt8) (c : Int) : extV .indexByte (.str s) (.int .u8 c) = some (.int .i64 (Go.Lib.indexByte s c.toNat.toUInt8)) := _root_.id rfl
@[simp] theorem zpd (s : List UInt8) (c : Int) : extV .count (.str s) (.int .u8 c) = some (.int .i64 (Go.Lib.countByte s c.toNat.toUInt8 : Nat)) := _root_.id rfl
@[simp] theorem zmE (s u : List UInt8) : extV .compare (.str s) (.str u) = some (.int .i64 (Go.Lib.compareBytes s u)) := _root_.id rfl
@[simp] theorem zoV (k : Nat) (fn : List V -> Option V) (args : List A) : exec (.pcall k fn args) t g n = zaE (fn (args.map (·.ev t))) := _root_.id rfl
@[simp] theorem zlM (x i : A) : exec (.indexStr x i) t g n = zaE (zcb (x.ev t) (i.ev t)) := _root_.id rfl
@[simp] theorem zl7 (a : Bool) (l s : Nat) (x i : A) : exec (.indexArr a l s x i) t g n = zaE (zda a l s (x.ev t) (i.ev t)) := _root_.id rfl
@[simp] theorem zkX (x : A) (lo hi : Option A) : exec (.sliceStr x lo hi) t g n = zaE (zcj (lo.map (·.ev t)) (hi.map (·.ev t)) (x.ev t)) := _root_.id rfl
@[simp] theorem zpq (s : Nat) (x hi : A) : exec (.resl s x hi) t g n = zaE ((zaB s none (some (hi.ev t)) none (x.ev t)).or (ziU g s (hi.ev t) (x.ev t))) := _root_.id rfl
@[simp] theorem zmV (s : Nat) (x : A) (lo hi mx : Option A) : exec (.sliceSl s x lo hi mx) t g n = zaE (zaB s (lo.map (·.ev t)) (hi.map (·.ev t)) (mx.map (·.ev t)) (x.ev t)) := _root_.id rfl
@[simp] theorem zma (l s : Nat) (x : A) (lo hi mx : Option A) : exec (.sliceArr l s x lo hi mx) t g n = zaE (ze2 l s (lo.map (·.ev t)) (hi.map (·.ev t)) (mx.map (·.ev t)) (x.ev t)) := _root_.id rfl
@[simp] theorem zkN (s b : Nat) (z : List V) (l c : A) : exec (.makeSlice s b z l c) t g n = zdk n s b z (l.ev t) (c.ev t) := _root_.id rfl
@[simp] theorem zk3 (f : Fn) (a c : List A) : exec (.makeFunc f a c) t g n = some (.func f (a.map (·.ev t)) (c.map (·.ev t)), .keep) := _root_.id rfl
@[simp] theorem zmv (x : A) (i : Nat) : exec (.extract x i) t g n = zaE (zna i (x.ev t)) := by simp only [exec, zna]; cases x.ev t <;> rfl
@[simp] theorem zq0 (k : Nat) (x : A) : exec (.len k x) t g n = zaE (lenV k g (x.ev t)) := _root_.id rfl
@[simp] theorem zng (s b : Nat) (x y : A) : exec (.append s b x y) t g n = zaK g n s b (x.ev t) (y.ev t) := _root_.id rfl
@[simp] theorem znp (m : Bool) (x : A) (r : List A) : exec (.minmax m x r) t g n = zaE (minmaxV m (x.ev t) (r.map (·.ev t))) := _root_.id rfl
@[simp] theorem zmA : exec .makeMap t g n = some (.map n, .push (.mapo [] [] 0)) := _root_.id rfl
@[simp] theorem znJ (kd : KD) (z : V) (ok : Bool) (x k : A) : exec (.lookup kd z ok x k) t g n = zaE (zeY g kd z ok (x.ev t) (k.ev t)) := _root_.id rfl
@[simp] theorem znj (kd : KD) (x k v : A) : exec (.mapSet kd x k v) t g n = mapD (zdJ g kd (x.ev t) (k.ev t) (v.ev t)) := _root_.id rfl
@[simp] theorem znP (kd : KD) (x k : A) : exec (.mapDel kd x k) t g n = mapD (zdB g kd (x.ev t) (k.ev t)) := _root_.id rfl
@[simp] theorem zpJ (s : Nat) (d x : A) : exec (.copy s d x) t g n = zgm g s (d.ev t) (x.ev t) := _root_.id rfl
@[simp] theorem zm0 (s : Nat) (z : List V) (x : A) : exec (.clearSl s z x) t g n = mapD (zb6 g z (x.ev t)) := _root_.id rfl
@[simp] theorem zlV (x : A) : exec (.clearMap x) t g n = mapD (zcf g (x.ev t)) := _root_.id rfl
end
@[simp] theorem zpQ (d : D) : mapD (some d) = some (.undef, d) := _root_.id rfl
@[simp] theorem zqC (h : H) : h.app .keep = h := _root_.id rfl
@[simp] theorem zeZ (h : H) (i : Nat) (o : O) : h.app (.set i o) = h.set i o := _root_.id rfl
@[simp] theorem zcQ (h : H) (o : O) : h.app (.push o) = h.push o := _root_.id rfl
@[simp] theorem zpi (off g o : Nat) : zh2 off (.gp g o) = some (.gp g (o + off)) := _root_.id rfl
@[simp] theorem zoN (off i n o : Nat) : zh2 off (.ptr i n o) = some (.ptr i n (o + off)) := _root_.id rfl
@[simp] theorem zoW (a : Bool) (o n : Nat) (cs : List V) : zkB a o n (.agg cs) = zcl a o n cs := _root_.id rfl
@[simp] theorem zoX (o n : Nat) (cs : List V) : zcl true o n cs = some (.agg ((cs.drop o).take n)) := _root_.id rfl
@[simp] theorem zni (o n : Nat) (cs : List V) : zcl false o n cs = cs[o]? := _root_.id rfl
@[simp] theorem zpj (i : Nat) (vs : List V) : zna i (.tup vs) = vs[i]? := _root_.id rfl
@[simp] theorem zqB (s : List UInt8) : cidV (.str s) = some (.str s) := _root_.id rfl
@[simp] theorem zq1 (n : Nat) (cs : List V) : boxV n (.agg cs) = if cs.all V.one then some (.ptr n cs.length 0, .push (.row cs)) else none := _root_.id rfl
theorem zl6 {n : Nat} {v : V} (h : v.one = true) : boxV n v = some (.ptr n 1 0, .push (.row [v])) := by cases v <;> first | rfl | cases h
@[simp] theorem zrc (n : Nat) (k : IntKind) (x : Int) : boxV n (.int k x) = some (.ptr n 1 0, .push (.row [.int k x])) := _root_.id rfl
@[simp] theorem zrf (n : Nat) (s : List UInt8) : boxV n (.str s) = some (.ptr n 1 0, .push (.row [.str s])) := _root_.id rfl
@[simp] theorem zp7 (n : Nat) (b : Bool) : boxV n (.bool b) = some (.ptr n 1 0, .push (.row [.bool b])) := _root_.id rfl
@[simp] theorem zoK (a b : V) : zgV (.bool true) a b = some a := _root_.id rfl
@[simp] theorem znL (a b : V) : zgV (.bool false) a b = some b := _root_.id rfl
@[simp] theorem zpu (c d : Bool) : zgV (.bool c) (.bool d) (.bool false) = some (.bool (c && d)) := by cases c <;> rfl
@[simp] theorem zqW (c d : Bool) : zgV (.bool c) (.bool true) (.bool d) = some (.bool (c || d)) := by cases c <;> rfl
@[simp] theorem znY (i n o : Nat) : zc6 (.ptr i n o) = some (.ptr i n o) := _root_.id rfl
@[simp] theorem zoZ (g o : Nat) : zc6 (.gp g o) = some (.gp g o) := _root_.id rfl
@[simp] theorem zmM (f : FuncId) (a b : List V) : zc6 (.func (.func f) a b) = some (.func (.func f) a b) := _root_.id rfl
@[simp] theorem zpe (k : IntKind) (n : Int) : zg8 (.int k n) = some n := _root_.id rfl
@[simp] theorem zqQ (op : BinOp) (a b : List UInt8) : binV op (.str a) (.str b) = strV op a b := _root_.id rfl
@[simp] theorem zqL (op : BinOp) (k k' : IntKind) (a b : Int) : binV op (.int k a) (.int k' b) = if zc2 op then zcT op k a b else if k = k' then intV op k a b else none := _root_.id rfl
attribute [simp] zc2
@[simp] theorem zqF (x y : List UInt8) : strV .add x y = if x.length + y.length ≤ 9223372036854775807 then some (.str (x ++ y)) else none := _root_.id rfl
@[simp] theorem zqX (x y : List UInt8) : strV .eql x y = some (.bool (x == y)) := _root_.id rfl
@[simp] theorem zqZ (x y : List UInt8) : strV .neq x y = some (.bool (!(x == y))) := _root_.id rfl
@[simp] theorem zrh (x y : List UInt8) : strV .lss x y = some (.bool (Op.bytesLess x y)) := _root_.id rfl
@[simp] theorem zrt (b : Bool) : unV .not (.bool b) = some (.bool (!b)) := _root_.id rfl
@[simp] theorem zrw (k : IntKind) (n : Int) : unV .neg (.int k n) = some (.int k (k.wrap (0 - n))) := _root_.id rfl
@[simp] theorem zp8 (cs : List V) : zcU cs [] = some cs := _root_.id rfl
@[simp] theorem zoY (cs : List V) (o n : Nat) (v : V) (r : List (Nat × Nat × V)) : zcU cs ((o, n, v) :: r) = if v.solid && v.cells.length == n && decide (o + n ≤ cs.length) then zcU (zaL cs o v.cells) r else none := _root_.id rfl
@[simp] theorem zqr (k : IntKind) (n : Int) : (V.int k n).solid = true := _root_.id rfl
@[simp] theorem zo6 (b : Bool) : (V.bool b).solid = true := _root_.id rfl
@[simp] theorem zqs (s : List UInt8) : (V.str s).solid = true := _root_.id rfl
@[simp] theorem znU : V.nilsl.solid = true := _root_.id rfl
@[simp] theorem zph (cs : List V) : (V.agg cs).solid = cs.all V.one := _root_.id rfl
@[simp] theorem zqm (cs : List V) : (V.agg cs).cells = cs := _root_.id rfl
@[simp] theorem zp3 (k : IntKind) (n : Int) : (V.int k n).cells = [.int k n] := _root_.id rfl
@[simp] theorem zoR (b : Bool) : (V.bool b).cells = [.bool b] := _root_.id rfl
@[simp] theorem zpt (s : List UInt8) : (V.str s).cells = [.str s] := _root_.id rfl
@[simp] theorem znH : V.nilsl.cells = [.nilsl] := _root_.id rfl
@[simp] theorem zqV (i n o l : Nat) (c : Option Nat) : (V.sl i n o l c).cells = [.sl i n o l c] := _root_.id rfl
@[simp] theorem zrx (k : IntKind) (n : Int) : (V.int k n).one = true := _root_.id rfl
@[simp] theorem zq5 (b : Bool) : (V.bool b).one = true := _root_.id rfl
@[simp] theorem zrI (s : List UInt8) : (V.str s).one = true := _root_.id rfl
@[simp] theorem zpl : V.nilsl.one = true := _root_.id rfl
@[simp] theorem zrT : V.slz.one = true := _root_.id rfl
@[simp] theorem zr0 (i n o l : Nat) (c : Option Nat) : (V.sl i n o l c).one = true := _root_.id rfl
@[simp] theorem zrN (i n o : Nat) : (V.ptr i n o).one = true := _root_.id rfl
theorem zaA {v : V} (h : v.one = true) : v.cells = [v] := by cases v <;> first | rfl | cases h
theorem zaz {v : V} (h : v.one = true) : v.solid = true := by cases v <;> first | rfl | cases h
@[simp] theorem zpY (g : Nat -> Option O) (a : Bool) (n i m o : Nat) : zdr g a n (.ptr i m o) = (zad g i m).bind fun cs => if a then (if o + n ≤ cs.length then some (.agg ((cs.drop o).take n)) else none) else cs[o]? := by
 simp only [zdr]; cases zad g i m <;> rfl
@[simp] theorem zq4 (g : Nat -> Option O) (a : Bool) (n b o : Nat) : zdr g a n (.gp b o) = (GT.lookup b).bind fun cs => if a then (if o + n ≤ cs.length then some (.agg ((cs.drop o).take n)) else none) else cs[o]? := by
 simp only [zdr]; cases GT.lookup b <;> rfl
@[simp] theorem zaI (g : Nat -> Option O) (n i m o : Nat) (x : V) : zch g n (.ptr i m o) x = if x.solid && x.cells.length == n then (g i).bind fun ob => if ob.len = m then (ob.put o x.cells).map (D.set i) else none else none := by
 simp only [zch]; cases g i <;> rfl
@[simp] theorem zrA (cs xs : List V) (o : Nat) : (O.row cs).put o xs = if o + xs.length ≤ cs.length then some (.row (zaL cs o xs)) else none := _root_.id rfl
@[simp] theorem ziq (s : Nat) (cs xs : List V) (o : Nat) : (O.grow s cs).put o xs = if o + xs.length ≤ cs.length then some (.grow s (zaL cs o xs)) else none := _root_.id rfl
@[simp] theorem znW (cs : List V) : (O.row cs).len = cs.length := _root_.id rfl
@[simp] theorem zib (s : Nat) (cs : List V) : (O.grow s cs).len = cs.length := _root_.id rfl
@[simp] theorem zms (cs : List V) : (O.ro cs).len = cs.length := _root_.id rfl
@[simp] theorem zjP (cs : List V) : (O.row cs).cells = cs := _root_.id rfl
@[simp] theorem zeh (s : Nat) (cs : List V) : (O.grow s cs).cells = cs := _root_.id rfl
@[simp] theorem zlL (cs : List V) : (O.ro cs).cells = cs := _root_.id rfl
theorem zae {g : Nat -> Option O} {i n : Nat} {o : O} (h : g i = some o) (hn : o.len = n) : zad g i n = some o.cells := by simp [zad, h, hn]
@[simp] theorem zk4 (h : H) (o : O) : (h.push o).get h.next = some o := by simp [H.get_push]
@[simp] theorem zmQ (h : H) (i : Nat) (o : O) : (h.set i o).get i = some o := by simp [H.get_set]
@[simp] theorem zb5 (s i n o l : Nat) (c : Option Nat) (k : IntKind) (m : Int) : zaM s (.sl i n o l c) (.int k m) = if 0 ≤ m ∧ m < l then some (.ptr i n (o + m.toNat * s)) else none := _root_.id rfl
@[simp] theorem zjc (l s i n o : Nat) (k : IntKind) (m : Int) : zbq l s (.ptr i n o) (.int k m) = if 0 ≤ m ∧ m < l then some (.ptr i n (o + m.toNat * s)) else none := _root_.id rfl
@[simp] theorem zjp (l s g o : Nat) (k : IntKind) (m : Int) : zbq l s (.gp g o) (.int k m) = if 0 ≤ m ∧ m < l then some (.gp g (o + m.toNat * s)) else none := _root_.id rfl
@[simp] theorem zln (s : List UInt8) (k : IntKind) (m : Int) : zcb (.str s) (.int k m) = if 0 ≤ m then (s[m.toNat]?).map fun b => .int .u8 b.toNat else none := _root_.id rfl
@[simp] theorem zlX (a : Bool) (l s : Nat) (cs : List V) (k : IntKind) (m : Int) : zda a l s (.agg cs) (.int k m) = if 0 ≤ m ∧ m < l then zcl a (m.toNat * s) s cs else none := _root_.id rfl
@[simp] theorem zqD (g : Nat -> Option O) (s : List UInt8) : lenV 0 g (.str s) = some (.int .i64 s.length) := _root_.id rfl
@[simp] theorem zrs (g : Nat -> Option O) (i n o l : Nat) (c : Option Nat) : lenV 1 g (.sl i n o l c) = some (.int .i64 l) := _root_.id rfl
@[simp] theorem zo4 (g : Nat -> Option O) : lenV 1 g .nilsl = some (.int .i64 0) := _root_.id rfl
@[simp] theorem zq6 (g : Nat -> Option O) : lenV 1 g .slz = some (.int .i64 0) := _root_.id rfl
@[simp] theorem zpk (g : Nat -> Option O) (i n o l : Nat) (c : Option Nat) : zeA g (.sl i n o l c) = (zaO g 1 (.sl i n o l c)).bind fun p => (p.2.mapM u8Of).map .str := by
 simp only [zeA]; cases zaO g 1 (.sl i n o l c) <;> rfl
@[simp] theorem zbe (d y : Nat) : zaF d y none = some d := _root_.id rfl
@[simp] theorem zny (d y : Nat) (k : IntKind) (n : Int) : zaF d y (some (.int k n)) = if 0 ≤ n ∧ n ≤ (y : Int) then some n.toNat else none := _root_.id rfl
@[simp] theorem zlP (lo hi : Option V) (s : List UInt8) : zcj lo hi (.str s) = (zaF s.length s.length hi).bind fun h => (zaF 0 h lo).bind fun l => some (.str ((s.take h).drop l)) := by
 simp only [zcj]; cases zaF s.length s.length hi with
 | none => rfl
 | some h => simp only [Option.bind_some]; cases zaF 0 h lo <;> rfl
@[simp] theorem znh (k k' : IntKind) (x y : Int) : minmaxV false (.int k x) [.int k' y] = if k = k' then some (.int k (if y < x then y else x)) else none := by simp [minmaxV]
@[simp] theorem zof (k k' : IntKind) (x y : Int) : minmaxV true (.int k x) [.int k' y] = if k = k' then some (.int k (if x < y then y else x)) else none := by simp [minmaxV]
@[simp] theorem zqT (k : IntKind) (x y : Int) : intV .add k x y = some (.int k (k.wrap (x + y))) := _root_.id rfl
@[simp] theorem zrn (k : IntKind) (x y : Int) : intV .sub k x y = some (.int k (k.wrap (x - y))) := _root_.id rfl
@[simp] theorem zqY (k : IntKind) (x y : Int) : intV .mul k x y = some (.int k (k.wrap (x * y))) := _root_.id rfl
@[simp] theorem zqR (k : IntKind) (x y : Int) : intV .eql k x y = some (.bool (x == y)) := _root_.id rfl
@[simp] theorem zra (k : IntKind) (x y : Int) : intV .neq k x y = some (.bool (x != y)) := _root_.id rfl
@[simp] theorem zqO (k : IntKind) (x y : Int) : intV .lss k x y = some (.bool (decide (x < y))) := _root_.id rfl
@[simp] theorem zqG (k : IntKind) (x y : Int) : intV .leq k x y = some (.bool (decide (x ≤ y))) := _root_.id rfl
@[simp] theorem zrl (k : IntKind) (x y : Int) : intV .gtr k x y = some (.bool (decide (y < x))) := _root_.id rfl
@[simp] theorem zrm (k : IntKind) (x y : Int) : intV .geq k x y = some (.bool (decide (y ≤ x))) := _root_.id rfl
@[simp] theorem zoT (k : IntKind) (x y : Int) (hy : 0 ≤ y) : zcT .shr k x y = some (.int k (x.fdiv (2 ^ min y.toNat k.bits))) := by
 unfold zcT; rw [if_neg (by omega)]
@[simp] theorem zoO (k : IntKind) (x y : Int) (hy : 0 ≤ y) : zcT .shl k x y = some (.int k (k.wrap (x * 2 ^ min y.toNat k.bits))) := by
 unfold zcT; rw [if_neg (by omega)]
theorem zai {n : Int} (h1 : -9223372036854775808 ≤ n) (h2 : n ≤ 9223372036854775807) : IntKind.i64.wrap n = n := by
 rw [IntKind.wrap_i64]; omega
end Go.Am
