/-
 AM, PART 12. The walk: rules for simp, and what simp must leave alone.
-/
import Derived.Test.YtpgcodeckphanaaGreatDoorKAm11
namespace Go.Am

@[simp] theorem Tm.put_some (t : Tm) (d k : Nat) (v : V) : (t.put (some d) v) k = if k = d then v else t k := _root_.id rfl
@[simp] theorem Tm.put_none (t : Tm) (v : V) : t.put none v = t := _root_.id rfl
@[simp] theorem zlH (args : List V) (k : Nat) : zbE args k = (args[k]?).getD .undef := _root_.id rfl
@[simp] theorem A.ev_t (t : Nat -> V) (i : Nat) : A.ev t (.t i) = t i := _root_.id rfl
@[simp] theorem A.ev_c (t : Nat -> V) (v : V) : A.ev t (.c v) = v := _root_.id rfl

variable {P : Program}
def opK (P : Program) (K : Tm -> H -> Prop) (d : Option Nat) (is : List SI) (t : Tm) (h : H) (r : Option (V × D)) : Prop :=
 match r with
 | some (v, dd) => Owp P K is (t.put d v) (h.app dd)
 | none => False
@[simp] theorem zpz (K : Tm -> H -> Prop) (d : Option Nat) (is : List SI) (t : Tm) (h : H) (v : V) (dd : D) : opK P K d is t h (some (v, dd)) = Owp P K is (t.put d v) (h.app dd) := _root_.id rfl
def zb0 (P : Program) (K : Tm -> H -> Prop) (w : Bool) (d : Option Nat) (x : X) (is : List SI) (t : Tm) (h : H) (g : V) : Prop :=
 match g with
 | .bool b => if (b == w) = true then Owp P K (⟨d, none, x⟩ :: is) t h else Owp P K is (t.put d .undef) h
 | .tup [] => Owp P K is (t.put d .undef) h
 | _ => False
section
variable (K : Tm -> H -> Prop) (d : Option Nat) (x : X) (is : List SI) (t : Tm) (h : H)
@[simp] theorem zog : zb0 P K true d x is t h (.bool true) = Owp P K (⟨d, none, x⟩ :: is) t h := by simp [zb0]
@[simp] theorem zpu : zb0 P K false d x is t h (.bool false) = Owp P K (⟨d, none, x⟩ :: is) t h := by simp [zb0]
@[simp] theorem zod : zb0 P K false d x is t h (.bool true) = Owp P K is (t.put d .undef) h := by simp [zb0]
@[simp] theorem zo3 : zb0 P K true d x is t h (.bool false) = Owp P K is (t.put d .undef) h := by simp [zb0]
@[simp] theorem zlu (w : Bool) : zb0 P K w d x is t h .undef = Owp P K is (t.put d .undef) h := _root_.id rfl
@[simp] theorem zlc (w : Bool) : zb0 P K w d x is t h (.tup []) = Owp P K is (t.put d .undef) h := _root_.id rfl
end
def retK (P : Program) (K : Tm -> H -> Prop) (d : Option Nat) (is : List SI) (t : Tm) (v : V) (h : H) : Prop := Owp P K is (t.put d v) h
@[simp] theorem zqS (K : Tm -> H -> Prop) (d : Option Nat) (is : List SI) (t : Tm) (v : V) (h : H) : retK P K d is t v h = Owp P K is (t.put d v) h := _root_.id rfl
def ziS (P : Program) (f : V) (args : List V) (h : H) (Q : V -> H -> Prop) : Prop := zdf P f args h Q
@[simp] theorem znM (g : FuncId) (first cap args : List V) (h : H) (Q : V -> H -> Prop) : ziS P (.func (.func g) first cap) args h Q = Acalls P g (first ++ args ++ cap) h Q := _root_.id rfl
@[simp] theorem zpK (i : Nat) (args : List V) (h : H) (Q : V -> H -> Prop) : ziS P (.yl i) args h Q = Ayields P i args h Q := _root_.id rfl
@[simp] theorem znp (args : List V) (h : H) (Q : V -> H -> Prop) : ziS P (.sl 0 0 0 1 (some 0)) args h Q = zlq args h Q := _root_.id rfl
@[simp] theorem znJ (args : List V) (h : H) (Q : V -> H -> Prop) : ziS P (.sl 0 0 0 2 (some 0)) args h Q = zo6 args h Q := _root_.id rfl
@[simp] theorem zma (args : List V) (h : H) (Q : V -> H -> Prop) : ziS P (.sl 0 0 0 3 (some 0)) args h Q = zlF args h Q := _root_.id rfl

variable {K : Tm -> H -> Prop}
@[simp] theorem zqG (t : Tm) (h : H) : Owp P K [] t h = K t h := _root_.id rfl
@[simp] theorem zqZ (d : Option Nat) (i : I) (is : List SI) (t : Tm) (h : H) : Owp P K (⟨d, none, .op i⟩ :: is) t h = opK P K d is t h (exec i t h.get h.next) := by
 simp only [Owp, zaq, opK]
 split <;> rename_i e <;> simp only [e]
@[simp] theorem zof (d : Option Nat) (g : Nat) (w : Bool) (x : X) (is : List SI) (t : Tm) (h : H) : Owp P K (⟨d, some (g, w), x⟩ :: is) t h = zb0 P K w d x is t h (t g) := by
 simp only [Owp, zaq, zb0]
 split
 ·rename_i e
  split at e <;> first | (cases e; done) | skip
  rename_i _ h1 h2
  split
  ·rename_i e'; exact absurd e' (h1 _)
  ·rename_i e'; exact absurd e' h2
  ·rfl
 ·rename_i e
  split at e
  ·rename_i b hb
   simp only [Option.some.injEq] at e
   rw [hb]
   simp [e]
  ·rename_i hb; rw [hb]
  ·cases e
 ·rename_i e
  split at e
  ·rename_i b hb
   simp only [Option.some.injEq] at e
   rw [hb]
   simp [e]
  ·cases e
  ·cases e
@[simp] theorem zpL (d : Option Nat) (f : A) (args : List A) (is : List SI) (t : Tm) (h : H) : Owp P K (⟨d, none, .call f args⟩ :: is) t h = ziS P (f.ev t) (args.map (·.ev t)) h (retK P K d is t) := _root_.id rfl

variable {Q : Exit -> Tm -> H -> Prop}
def zhh (P : Program) (Q : Exit -> Tm -> H -> Prop) (a b : C) (t : Tm) (h : H) (c : V) : Prop := zds c (Cwp P a Q t h) (Cwp P b Q t h)
@[simp] theorem zp0 (t : Tm) (h : H) : Cwp P .skip Q t h = Q .normal t h := _root_.id rfl
@[simp] theorem zqW (ops : List SI) (t : Tm) (h : H) : Cwp P (.reg ops) Q t h = Owp P (Q .normal) ops t h := _root_.id rfl
@[simp] theorem zqR (a b : C) (t : Tm) (h : H) : Cwp P (.seq a b) Q t h = Cwp P a (zd8 (Cwp P b Q) Q) t h := _root_.id rfl
@[simp] theorem zqa (c : A) (a b : C) (t : Tm) (h : H) : Cwp P (.cond c a b) Q t h = zhh P Q a b t h (c.ev t) := _root_.id rfl
@[simp] theorem zpb (id : Nat) (b : C) (t : Tm) (h : H) : Cwp P (.block id b) Q t h = Cwp P b (zd1 id Q) t h := _root_.id rfl
@[simp] theorem zp9 (b : C) (t : Tm) (h : H) : Cwp P (.loop b) Q t h = zjM (Cwp P b) Q t h := _root_.id rfl
@[simp] theorem zp2 (id : Nat) (t : Tm) (h : H) : Cwp P (.exit id) Q t h = Q (.exit id) t h := _root_.id rfl
@[simp] theorem zqD (t : Tm) (h : H) : Cwp P .ret Q t h = Q .ret t h := _root_.id rfl
@[simp] theorem zny (a b : C) (t : Tm) (h : H) : zhh P Q a b t h (.bool true) = Cwp P a Q t h := by simp [zhh, zds]
@[simp] theorem zmI (a b : C) (t : Tm) (h : H) : zhh P Q a b t h (.bool false) = Cwp P b Q t h := by simp [zhh, zds]
theorem ziF {a b : C} {t : Tm} {h : H} {c : Bool} (h1 : c = true -> Cwp P a Q t h) (h2 : c = false -> Cwp P b Q t h) : zhh P Q a b t h (.bool c) := ⟨h1, h2⟩
@[simp] theorem zlY (next : Tm -> H -> Prop) (t : Tm) (h : H) : zd8 next Q .normal t h = next t h := _root_.id rfl
@[simp] theorem zpl (next : Tm -> H -> Prop) (t : Tm) (h : H) : zd8 next Q .ret t h = Q .ret t h := _root_.id rfl
@[simp] theorem znK (next : Tm -> H -> Prop) (i : Nat) (t : Tm) (h : H) : zd8 next Q (.exit i) t h = Q (.exit i) t h := _root_.id rfl
@[simp] theorem zk5 (id : Nat) (t : Tm) (h : H) : zd1 id Q .normal t h = Q .normal t h := _root_.id rfl
@[simp] theorem znQ (id : Nat) (t : Tm) (h : H) : zd1 id Q .ret t h = Q .ret t h := _root_.id rfl
@[simp] theorem znm (id i : Nat) (t : Tm) (h : H) : zd1 id Q (.exit i) t h = if i = id then Q .normal t h else Q (.exit i) t h := _root_.id rfl
theorem zcl {ops : List SI} {t : Tm} {h : H} (c : Swp P (Q .normal) ops t h) : Cwp P (.dreg [] ops) Q t h := .inl ⟨rfl, c⟩
def sopK (P : Program) (K : Tm -> H -> Prop) (d : Option Nat) (is : List SI) (t : Tm) (h : H) (r : Option (V × D)) : Prop :=
 match r with
 | some (v, dd) => Swp P K is (t.put d v) (h.app dd)
 | none => False
@[simp] theorem zpa (K : Tm -> H -> Prop) (d : Option Nat) (is : List SI) (t : Tm) (h : H) (v : V) (dd : D) : sopK P K d is t h (some (v, dd)) = Swp P K is (t.put d v) (h.app dd) := _root_.id rfl
def zbA (P : Program) (K : Tm -> H -> Prop) (w : Bool) (d : Option Nat) (x : X) (is : List SI) (t : Tm) (h : H) (g : V) : Prop :=
 match g with
 | .bool b => if (b == w) = true then Swp P K (⟨d, none, x⟩ :: is) t h else Swp P K is (t.put d .undef) h
 | .tup [] => Swp P K is (t.put d .undef) h
 | _ => False
def zlG (P : Program) (K : Tm -> H -> Prop) (d : Option Nat) (is : List SI) (t : Tm) (h : H) (f : V) (args : List V) : Prop :=
 ∃ Q' : V -> H -> Prop, (∃ v h', Q' v h') ∧ zdf P f args h Q' ∧ ∀ v h', Q' v h' -> Swp P K is (t.put d v) h'
section
variable (K : Tm -> H -> Prop) (d : Option Nat) (x : X) (is : List SI) (t : Tm) (h : H)
@[simp] theorem zqN : Swp P K [] t h = K t h := _root_.id rfl
@[simp] theorem zn7 : zbA P K true d x is t h (.bool true) = Swp P K (⟨d, none, x⟩ :: is) t h := by simp [zbA]
@[simp] theorem znZ : zbA P K false d x is t h (.bool false) = Swp P K (⟨d, none, x⟩ :: is) t h := by simp [zbA]
@[simp] theorem znF : zbA P K false d x is t h (.bool true) = Swp P K is (t.put d .undef) h := by simp [zbA]
@[simp] theorem znR : zbA P K true d x is t h (.bool false) = Swp P K is (t.put d .undef) h := by simp [zbA]
@[simp] theorem zkw (w : Bool) : zbA P K w d x is t h .undef = Swp P K is (t.put d .undef) h := _root_.id rfl
@[simp] theorem zj7 (w : Bool) : zbA P K w d x is t h (.tup []) = Swp P K is (t.put d .undef) h := _root_.id rfl
@[simp] theorem zq0 (i : I) : Swp P K (⟨d, none, .op i⟩ :: is) t h = sopK P K d is t h (exec i t h.get h.next) := by
 simp only [Swp, Sstep, zaq, sopK]
 split <;> rename_i e <;> simp only [e]
@[simp] theorem zob (g : Nat) (w : Bool) : Swp P K (⟨d, some (g, w), x⟩ :: is) t h = zbA P K w d x is t h (t g) := by
 simp only [Swp, Sstep, zaq, zbA]
 split
 ·rename_i e
  split at e <;> first | (cases e; done) | skip
  rename_i _ h1 h2
  split
  ·rename_i e'; exact absurd e' (h1 _)
  ·rename_i e'; exact absurd e' h2
  ·rfl
 ·rename_i e
  split at e
  ·rename_i b hb
   simp only [Option.some.injEq] at e
   rw [hb]
   simp [e]
  ·rename_i hb; rw [hb]
  ·cases e
 ·rename_i e
  split at e
  ·rename_i b hb
   simp only [Option.some.injEq] at e
   rw [hb]
   simp [e]
  ·cases e
  ·cases e
@[simp] theorem zp8 (f : A) (args : List A) : Swp P K (⟨d, none, .call f args⟩ :: is) t h = zlG P K d is t h (f.ev t) (args.map (·.ev t)) := _root_.id rfl
end
theorem zhB {K : Tm -> H -> Prop} {d : Option Nat} {is : List SI} {t : Tm} {h : H} {g : FuncId} {first cap args : List V} {v : V} {h' : H} (c : ∀ Q : V -> H -> Prop, Q v h' -> Acalls P g (first ++ args ++ cap) h Q) (k : Swp P K is (t.put d v) h') : zlG P K d is t h (.func (.func g) first cap) args :=
 ⟨fun u h2 => u = v ∧ h2 = h', ⟨v, h', rfl, rfl⟩, c _ ⟨rfl, rfl⟩, by rintro u h2 ⟨rfl, rfl⟩; exact k⟩
def resK (r : Option (List V)) (h : H) (Q : V -> H -> Prop) : Prop :=
 match r with
 | some vs => Q (tupV vs) h
 | none => False
@[simp] theorem zpo (vs : List V) (h : H) (Q : V -> H -> Prop) : resK (some vs) h Q = Q (tupV vs) h := _root_.id rfl
@[simp] theorem znl (rs : List RV) (R : V -> H -> Prop) (t : Tm) (h : H) : zda rs R .ret t h = resK (zby h.get t rs) h R := _root_.id rfl
@[simp] theorem zj8 (rs : List RV) (R : V -> H -> Prop) (t : Tm) (h : H) : zda rs R .normal t h = resK (zby h.get t rs) h R := _root_.id rfl
@[simp] theorem zpi (g : Nat -> Option O) (t : Tm) : zby g t [] = some [] := _root_.id rfl
@[simp] theorem zoK (g : Nat -> Option O) (t : Tm) (k : Nat) (rs : List RV) : zby g t (.tmp k :: rs) = (zby g t rs).map (t k :: ·) := by
 simp only [zby, resV]; cases zby g t rs <;> rfl
@[simp] theorem zn3 (g : Nat -> Option O) (t : Tm) (k n : Nat) (a : Bool) (rs : List RV) : zby g t (.cell k a n :: rs) = (zc2 g a n (t k)).bind fun v => (zby g t rs).map (v :: ·) := by
 simp only [zby, resV]; cases zc2 g a n (t k) with
 | none => rfl
 | some v => simp only [Option.bind_some]; cases zby g t rs <;> rfl
@[simp] theorem zqj : tupV [] = .tup [] := _root_.id rfl
@[simp] theorem zpM (v : V) : tupV [v] = v := _root_.id rfl
@[simp] theorem zpT (v u : V) (vs : List V) : tupV (v :: u :: vs) = .tup (v :: u :: vs) := _root_.id rfl

@[simp] theorem zmj (v : V) : zal (some v) = some (v, .keep) := _root_.id rfl
def zh0 (off : Nat) : V -> Option V
 | .ptr i n o => some (.ptr i n (o + off))
 | .gp g o => some (.gp g (o + off))
 | _ => none
def zjz (agg : Bool) (off n : Nat) : V -> Option V
 | .agg cs => zbR agg off n cs
 | _ => none
def zmb (i : Nat) : V -> Option V
 | .tup vs => vs[i]?
 | _ => none
def cidV : V -> Option V
 | .str s => some (.str s)
 | _ => none
def boxV (next : Nat) (v : V) : Option (V × D) := if v.solid then some (.ptr next v.cells.length 0, .push (.row v.cells)) else none
def mapD (d : Option D) : Option (V × D) := d.map fun d => (.undef, d)
section
variable (t : Nat -> V) (g : Nat -> Option O) (n : Nat)
@[simp] theorem zql (x : A) : exec (.mov x) t g n = some (x.ev t, .keep) := _root_.id rfl
@[simp] theorem zpn (c a b : A) : exec (.pick c a b) t g n = zal (zgI (c.ev t) (a.ev t) (b.ev t)) := _root_.id rfl
@[simp] theorem zn2 (z : List V) : exec (.alloc z) t g n = some (.ptr n z.length 0, .push (.row z)) := _root_.id rfl
@[simp] theorem zqc (x : A) : exec (.box x) t g n = boxV n (x.ev t) := _root_.id rfl
@[simp] theorem zls (ty : TypeId) (x : A) : exec (.mkIface ty x) t g n = some (.iface ty (x.ev t), .keep) := _root_.id rfl
@[simp] theorem zn5 (z : List V) (ps : List (Nat × Nat × A)) : exec (.build z ps) t g n = zal ((zct z (ps.map fun (o, n, x) => (o, n, x.ev t))).map .agg) := _root_.id rfl
@[simp] theorem zi1 (sz len : Nat) (z : List V) (ps : List (Nat × A)) : exec (.buildSlice sz len z ps) t g n = (zct (zak len z) (ps.map fun (k, x) => (k * sz, sz, x.ev t))).map fun cs => (.sl n (len * sz) 0 len (some len), .push (.row cs)) := _root_.id rfl
@[simp] theorem zo8 (a : Bool) (m : Nat) (x : A) : exec (.load a m x) t g n = zal (zc2 g a m (x.ev t)) := _root_.id rfl
@[simp] theorem zn4 (m : Nat) (a x : A) : exec (.store m a x) t g n = mapD (zdt g m (a.ev t) (x.ev t)) := _root_.id rfl
@[simp] theorem zmh (x : A) : exec (.nilchk x) t g n = zal (zcx (x.ev t)) := _root_.id rfl
@[simp] theorem zpO (op : BinOp) (x y : A) : exec (.bin op x y) t g n = zal (binV op (x.ev t) (y.ev t)) := _root_.id rfl
@[simp] theorem zqE (b : Bool) (ts : TS) (x y : A) : exec (.eq b ts x y) t g n = zal ((eqV ts (x.ev t) (y.ev t)).map fun r => .bool (if b then !r else r)) := _root_.id rfl
@[simp] theorem zqu (op : UnOp) (x : A) : exec (.un op x) t g n = zal (unV op (x.ev t)) := _root_.id rfl
@[simp] theorem zlT (k : IntKind) (x : A) : exec (.convInt k x) t g n = zal ((zgj (x.ev t)).map fun m => .int k (k.wrap m)) := _root_.id rfl
@[simp] theorem zmn (x : A) : exec (.convId x) t g n = zal (cidV (x.ev t)) := by simp only [exec, cidV]; cases x.ev t <;> rfl
@[simp] theorem znA (x : A) : exec (.strOf x) t g n = zal (zd0 g (x.ev t)) := _root_.id rfl
@[simp] theorem zka (o : Nat) (x : A) : exec (.fieldAddr o x) t g n = zal (zh0 o (x.ev t)) := by simp only [exec, zh0]; cases x.ev t <;> rfl
@[simp] theorem znL (a : Bool) (o m : Nat) (x : A) : exec (.field a o m x) t g n = zal (zjz a o m (x.ev t)) := by simp only [exec, zjz]; cases x.ev t <;> rfl
@[simp] theorem zj9 (s : Nat) (x i : A) : exec (.indexAddr s x i) t g n = zal (zaw s (x.ev t) (i.ev t)) := _root_.id rfl
@[simp] theorem zit (l s : Nat) (x i : A) : exec (.indexAddrArr l s x i) t g n = zal (za0 l s (x.ev t) (i.ev t)) := _root_.id rfl
@[simp] theorem zpB (e : StIn) (x y : A) : exec (.ext e x y) t g n = zal (extV e (x.ev t) (y.ev t)) := _root_.id rfl
@[simp] theorem znw (s : List UInt8) (c : Int) : extV .indexByte (.str s) (.int .u8 c) = some (.int .i64 (Go.Lib.indexByte s c.toNat.toUInt8)) := _root_.id rfl
@[simp] theorem znX (s : List UInt8) (c : Int) : extV .count (.str s) (.int .u8 c) = some (.int .i64 (Go.Lib.countByte s c.toNat.toUInt8 : Nat)) := _root_.id rfl
@[simp] theorem zlI (s u : List UInt8) : extV .compare (.str s) (.str u) = some (.int .i64 (Go.Lib.compareBytes s u)) := _root_.id rfl
@[simp] theorem zn8 (k : Nat) (fn : List V -> Option V) (args : List A) : exec (.pcall k fn args) t g n = zal (fn (args.map (·.ev t))) := _root_.id rfl
@[simp] theorem zkI (x i : A) : exec (.indexStr x i) t g n = zal (zbQ (x.ev t) (i.ev t)) := _root_.id rfl
@[simp] theorem zk8 (a : Bool) (l s : Nat) (x i : A) : exec (.indexArr a l s x i) t g n = zal (zcF a l s (x.ev t) (i.ev t)) := _root_.id rfl
@[simp] theorem zkK (x : A) (lo hi : Option A) : exec (.sliceStr x lo hi) t g n = zal (zbL (lo.map (·.ev t)) (hi.map (·.ev t)) (x.ev t)) := _root_.id rfl
@[simp] theorem zoh (s : Nat) (x hi : A) : exec (.resl s x hi) t g n = zal ((zax s none (some (hi.ev t)) none (x.ev t)).or (ziQ g s (hi.ev t) (x.ev t))) := _root_.id rfl
@[simp] theorem zly (s : Nat) (x : A) (lo hi mx : Option A) : exec (.sliceSl s x lo hi mx) t g n = zal (zax s (lo.map (·.ev t)) (hi.map (·.ev t)) (mx.map (·.ev t)) (x.ev t)) := _root_.id rfl
@[simp] theorem zk9 (l s : Nat) (x : A) (lo hi mx : Option A) : exec (.sliceArr l s x lo hi mx) t g n = zal (zeR l s (lo.map (·.ev t)) (hi.map (·.ev t)) (mx.map (·.ev t)) (x.ev t)) := _root_.id rfl
@[simp] theorem zj6 (s b : Nat) (z : List V) (l c : A) : exec (.makeSlice s b z l c) t g n = za9 n s b z (l.ev t) (c.ev t) := _root_.id rfl
@[simp] theorem zky (f : Fn) (a c : List A) : exec (.makeFunc f a c) t g n = some (.func f (a.map (·.ev t)) (c.map (·.ev t)), .keep) := _root_.id rfl
@[simp] theorem zl1 (x : A) (i : Nat) : exec (.extract x i) t g n = zal (zmb i (x.ev t)) := by simp only [exec, zmb]; cases x.ev t <;> rfl
@[simp] theorem zpS (k : Nat) (x : A) : exec (.len k x) t g n = zal (lenV k g (x.ev t)) := _root_.id rfl
@[simp] theorem zmZ (s b : Nat) (x y : A) : exec (.append s b x y) t g n = zaG g n s b (x.ev t) (y.ev t) := _root_.id rfl
@[simp] theorem znt (m : Bool) (x : A) (r : List A) : exec (.minmax m x r) t g n = zal (minmaxV m (x.ev t) (r.map (·.ev t))) := _root_.id rfl
@[simp] theorem zlC : exec .makeMap t g n = some (.map n, .push (.mapo [] [] 0)) := _root_.id rfl
@[simp] theorem znk (kd : KD) (z : V) (ok : Bool) (x k : A) : exec (.lookup kd z ok x k) t g n = zal (zev g kd z ok (x.ev t) (k.ev t)) := _root_.id rfl
@[simp] theorem zng (kd : KD) (x k v : A) : exec (.mapSet kd x k v) t g n = mapD (zb5 g kd (x.ev t) (k.ev t) (v.ev t)) := _root_.id rfl
@[simp] theorem zmF (kd : KD) (x k : A) : exec (.mapDel kd x k) t g n = mapD (zdd g kd (x.ev t) (k.ev t)) := _root_.id rfl
@[simp] theorem zok (s : Nat) (d x : A) : exec (.copy s d x) t g n = ze2 g s (d.ev t) (x.ev t) := _root_.id rfl
@[simp] theorem zlK (s : Nat) (z : List V) (x : A) : exec (.clearSl s z x) t g n = mapD (zcp g z (x.ev t)) := _root_.id rfl
@[simp] theorem zks (x : A) : exec (.clearMap x) t g n = mapD (zbs g (x.ev t)) := _root_.id rfl
end
@[simp] theorem zow (d : D) : mapD (some d) = some (.undef, d) := _root_.id rfl
@[simp] theorem zpP (h : H) : h.app .keep = h := _root_.id rfl
@[simp] theorem zgN (h : H) (i : Nat) (o : O) : h.app (.set i o) = h.set i o := _root_.id rfl
@[simp] theorem zfX (h : H) (o : O) : h.app (.push o) = h.push o := _root_.id rfl
@[simp] theorem zoZ (off g o : Nat) : zh0 off (.gp g o) = some (.gp g (o + off)) := _root_.id rfl
@[simp] theorem znP (off i n o : Nat) : zh0 off (.ptr i n o) = some (.ptr i n (o + off)) := _root_.id rfl
@[simp] theorem znB (a : Bool) (o n : Nat) (cs : List V) : zjz a o n (.agg cs) = zbR a o n cs := _root_.id rfl
@[simp] theorem znD (o n : Nat) (cs : List V) : zbR true o n cs = some (.agg ((cs.drop o).take n)) := _root_.id rfl
@[simp] theorem znq (o n : Nat) (cs : List V) : zbR false o n cs = cs[o]? := _root_.id rfl
@[simp] theorem zoI (i : Nat) (vs : List V) : zmb i (.tup vs) = vs[i]? := _root_.id rfl
@[simp] theorem zpU (s : List UInt8) : cidV (.str s) = some (.str s) := _root_.id rfl
@[simp] theorem zqp (n : Nat) (cs : List V) : boxV n (.agg cs) = if cs.all V.one then some (.ptr n cs.length 0, .push (.row cs)) else none := _root_.id rfl
@[simp] theorem zqm (n : Nat) (k : IntKind) (x : Int) : boxV n (.int k x) = some (.ptr n 1 0, .push (.row [.int k x])) := _root_.id rfl
@[simp] theorem zpI (n : Nat) (s : List UInt8) : boxV n (.str s) = some (.ptr n 1 0, .push (.row [.str s])) := _root_.id rfl
@[simp] theorem zpd (n : Nat) (b : Bool) : boxV n (.bool b) = some (.ptr n 1 0, .push (.row [.bool b])) := _root_.id rfl
@[simp] theorem znO (a b : V) : zgI (.bool true) a b = some a := _root_.id rfl
@[simp] theorem zl5 (a b : V) : zgI (.bool false) a b = some b := _root_.id rfl
@[simp] theorem zpj (c d : Bool) : zgI (.bool c) (.bool d) (.bool false) = some (.bool (c && d)) := by cases c <;> rfl
@[simp] theorem zpJ (c d : Bool) : zgI (.bool c) (.bool true) (.bool d) = some (.bool (c || d)) := by cases c <;> rfl
@[simp] theorem zmX (i n o : Nat) : zcx (.ptr i n o) = some (.ptr i n o) := _root_.id rfl
@[simp] theorem zn9 (g o : Nat) : zcx (.gp g o) = some (.gp g o) := _root_.id rfl
@[simp] theorem zlv (f : FuncId) (a b : List V) : zcx (.func (.func f) a b) = some (.func (.func f) a b) := _root_.id rfl
@[simp] theorem znI (k : IntKind) (n : Int) : zgj (.int k n) = some n := _root_.id rfl
@[simp] theorem zpv (op : BinOp) (a b : List UInt8) : binV op (.str a) (.str b) = strV op a b := _root_.id rfl
@[simp] theorem zp7 (op : BinOp) (k k' : IntKind) (a b : Int) : binV op (.int k a) (.int k' b) = if zcB op then zc9 op k a b else if k = k' then intV op k a b else none := _root_.id rfl
attribute [simp] zcB
@[simp] theorem zp6 (x y : List UInt8) : strV .add x y = if x.length + y.length ≤ 9223372036854775807 then some (.str (x ++ y)) else none := _root_.id rfl
@[simp] theorem zqd (x y : List UInt8) : strV .eql x y = some (.bool (x == y)) := _root_.id rfl
@[simp] theorem zpw (x y : List UInt8) : strV .neq x y = some (.bool (!(x == y))) := _root_.id rfl
@[simp] theorem zqr (x y : List UInt8) : strV .lss x y = some (.bool (Op.bytesLess x y)) := _root_.id rfl
@[simp] theorem zqY (b : Bool) : unV .not (.bool b) = some (.bool (!b)) := _root_.id rfl
@[simp] theorem zqA (k : IntKind) (n : Int) : unV .neg (.int k n) = some (.int k (k.wrap (0 - n))) := _root_.id rfl
@[simp] theorem zoH (cs : List V) : zct cs [] = some cs := _root_.id rfl
@[simp] theorem znG (cs : List V) (o n : Nat) (v : V) (r : List (Nat × Nat × V)) : zct cs ((o, n, v) :: r) = if v.solid && v.cells.length == n && decide (o + n ≤ cs.length) then zct (putCells cs o v.cells) r else none := _root_.id rfl
@[simp] theorem zpf (k : IntKind) (n : Int) : (V.int k n).solid = true := _root_.id rfl
@[simp] theorem znE (b : Bool) : (V.bool b).solid = true := _root_.id rfl
@[simp] theorem zoY (s : List UInt8) : (V.str s).solid = true := _root_.id rfl
@[simp] theorem zl8 : V.nilsl.solid = true := _root_.id rfl
@[simp] theorem zoO (cs : List V) : (V.agg cs).solid = cs.all V.one := _root_.id rfl
@[simp] theorem zom (cs : List V) : (V.agg cs).cells = cs := _root_.id rfl
@[simp] theorem zo2 (k : IntKind) (n : Int) : (V.int k n).cells = [.int k n] := _root_.id rfl
@[simp] theorem znV (b : Bool) : (V.bool b).cells = [.bool b] := _root_.id rfl
@[simp] theorem zoJ (s : List UInt8) : (V.str s).cells = [.str s] := _root_.id rfl
@[simp] theorem zmC : V.nilsl.cells = [.nilsl] := _root_.id rfl
@[simp] theorem zpy (i n o l : Nat) (c : Option Nat) : (V.sl i n o l c).cells = [.sl i n o l c] := _root_.id rfl
@[simp] theorem zqC (k : IntKind) (n : Int) : (V.int k n).one = true := _root_.id rfl
@[simp] theorem zqq (b : Bool) : (V.bool b).one = true := _root_.id rfl
@[simp] theorem zqU (s : List UInt8) : (V.str s).one = true := _root_.id rfl
@[simp] theorem zoR : V.nilsl.one = true := _root_.id rfl
@[simp] theorem zqQ : V.slz.one = true := _root_.id rfl
@[simp] theorem zq4 (i n o l : Nat) (c : Option Nat) : (V.sl i n o l c).one = true := _root_.id rfl
@[simp] theorem zqz (i n o : Nat) : (V.ptr i n o).one = true := _root_.id rfl
theorem zaM {v : V} (h : v.one = true) : v.cells = [v] := by cases v <;> first | rfl | cases h
theorem zaK {v : V} (h : v.one = true) : v.solid = true := by cases v <;> first | rfl | cases h
@[simp] theorem zoe (g : Nat -> Option O) (a : Bool) (n i m o : Nat) : zc2 g a n (.ptr i m o) = (zac g i m).bind fun cs => if a then (if o + n ≤ cs.length then some (.agg ((cs.drop o).take n)) else none) else cs[o]? := by
 simp only [zc2]; cases zac g i m <;> rfl
@[simp] theorem zpG (g : Nat -> Option O) (a : Bool) (n b o : Nat) : zc2 g a n (.gp b o) = (GT.lookup b).bind fun cs => if a then (if o + n ≤ cs.length then some (.agg ((cs.drop o).take n)) else none) else cs[o]? := by
 simp only [zc2]; cases GT.lookup b <;> rfl
@[simp] theorem znY (g : Nat -> Option O) (n i m o : Nat) (x : V) : zdt g n (.ptr i m o) x = if x.solid && x.cells.length == n then (g i).bind fun ob => if ob.len = m then (ob.put o x.cells).map (D.set i) else none else none := by
 simp only [zdt]; cases g i <;> rfl
@[simp] theorem zgS (cs xs : List V) (o : Nat) : (O.row cs).put o xs = if o + xs.length ≤ cs.length then some (.row (putCells cs o xs)) else none := _root_.id rfl
@[simp] theorem zhN (s : Nat) (cs xs : List V) (o : Nat) : (O.grow s cs).put o xs = if o + xs.length ≤ cs.length then some (.grow s (putCells cs o xs)) else none := _root_.id rfl
@[simp] theorem zjB (cs : List V) : (O.row cs).len = cs.length := _root_.id rfl
@[simp] theorem zqh (s : Nat) (cs : List V) : (O.grow s cs).len = cs.length := _root_.id rfl
@[simp] theorem zlX (cs : List V) : (O.ro cs).len = cs.length := _root_.id rfl
@[simp] theorem zju (cs : List V) : (O.row cs).cells = cs := _root_.id rfl
@[simp] theorem zin (s : Nat) (cs : List V) : (O.grow s cs).cells = cs := _root_.id rfl
@[simp] theorem zkc (cs : List V) : (O.ro cs).cells = cs := _root_.id rfl
theorem zag {g : Nat -> Option O} {i n : Nat} {o : O} (h : g i = some o) (hn : o.len = n) : zac g i n = some o.cells := by simp [zac, h, hn]
@[simp] theorem zkg (h : H) (o : O) : (h.push o).get h.next = some o := by simp [H.get_push]
@[simp] theorem zlO (h : H) (i : Nat) (o : O) : (h.set i o).get i = some o := by simp [H.get_set]
@[simp] theorem zbF (s i n o l : Nat) (c : Option Nat) (k : IntKind) (m : Int) : zaw s (.sl i n o l c) (.int k m) = if 0 ≤ m ∧ m < l then some (.ptr i n (o + m.toNat * s)) else none := _root_.id rfl
@[simp] theorem zir (l s i n o : Nat) (k : IntKind) (m : Int) : za0 l s (.ptr i n o) (.int k m) = if 0 ≤ m ∧ m < l then some (.ptr i n (o + m.toNat * s)) else none := _root_.id rfl
@[simp] theorem ziT (l s g o : Nat) (k : IntKind) (m : Int) : za0 l s (.gp g o) (.int k m) = if 0 ≤ m ∧ m < l then some (.gp g (o + m.toNat * s)) else none := _root_.id rfl
@[simp] theorem zk4 (s : List UInt8) (k : IntKind) (m : Int) : zbQ (.str s) (.int k m) = if 0 ≤ m then (s[m.toNat]?).map fun b => .int .u8 b.toNat else none := _root_.id rfl
@[simp] theorem zku (a : Bool) (l s : Nat) (cs : List V) (k : IntKind) (m : Int) : zcF a l s (.agg cs) (.int k m) = if 0 ≤ m ∧ m < l then zbR a (m.toNat * s) s cs else none := _root_.id rfl
@[simp] theorem zpN (g : Nat -> Option O) (s : List UInt8) : lenV 0 g (.str s) = some (.int .i64 s.length) := _root_.id rfl
@[simp] theorem zqX (g : Nat -> Option O) (i n o l : Nat) (c : Option Nat) : lenV 1 g (.sl i n o l c) = some (.int .i64 l) := _root_.id rfl
@[simp] theorem znU (g : Nat -> Option O) : lenV 1 g .nilsl = some (.int .i64 0) := _root_.id rfl
@[simp] theorem zpH (g : Nat -> Option O) : lenV 1 g .slz = some (.int .i64 0) := _root_.id rfl
@[simp] theorem zph (g : Nat -> Option O) (i n o l : Nat) (c : Option Nat) : zd0 g (.sl i n o l c) = (zaC g 1 (.sl i n o l c)).bind fun p => (p.2.mapM u8Of).map .str := by
 simp only [zd0]; cases zaC g 1 (.sl i n o l c) <;> rfl
@[simp] theorem zbl (d y : Nat) : zam d y none = some d := _root_.id rfl
@[simp] theorem znu (d y : Nat) (k : IntKind) (n : Int) : zam d y (some (.int k n)) = if 0 ≤ n ∧ n ≤ (y : Int) then some n.toNat else none := _root_.id rfl
@[simp] theorem zll (lo hi : Option V) (s : List UInt8) : zbL lo hi (.str s) = (zam s.length s.length hi).bind fun h => (zam 0 h lo).bind fun l => some (.str ((s.take h).drop l)) := by
 simp only [zbL]; cases zam s.length s.length hi with
 | none => rfl
 | some h => simp only [Option.bind_some]; cases zam 0 h lo <;> rfl
@[simp] theorem zmv (k k' : IntKind) (x y : Int) : minmaxV false (.int k x) [.int k' y] = if k = k' then some (.int k (if y < x then y else x)) else none := by simp [minmaxV]
@[simp] theorem znc (k k' : IntKind) (x y : Int) : minmaxV true (.int k x) [.int k' y] = if k = k' then some (.int k (if x < y then y else x)) else none := by simp [minmaxV]
@[simp] theorem zqe (k : IntKind) (x y : Int) : intV .add k x y = some (.int k (k.wrap (x + y))) := _root_.id rfl
@[simp] theorem zpC (k : IntKind) (x y : Int) : intV .sub k x y = some (.int k (k.wrap (x - y))) := _root_.id rfl
@[simp] theorem zqb (k : IntKind) (x y : Int) : intV .mul k x y = some (.int k (k.wrap (x * y))) := _root_.id rfl
@[simp] theorem zqf (k : IntKind) (x y : Int) : intV .eql k x y = some (.bool (x == y)) := _root_.id rfl
@[simp] theorem zpD (k : IntKind) (x y : Int) : intV .neq k x y = some (.bool (x != y)) := _root_.id rfl
@[simp] theorem zp5 (k : IntKind) (x y : Int) : intV .lss k x y = some (.bool (decide (x < y))) := _root_.id rfl
@[simp] theorem zpA (k : IntKind) (x y : Int) : intV .leq k x y = some (.bool (decide (x ≤ y))) := _root_.id rfl
@[simp] theorem zpV (k : IntKind) (x y : Int) : intV .gtr k x y = some (.bool (decide (y < x))) := _root_.id rfl
@[simp] theorem zpY (k : IntKind) (x y : Int) : intV .geq k x y = some (.bool (decide (y ≤ x))) := _root_.id rfl
@[simp] theorem znx (k : IntKind) (x y : Int) (hy : 0 ≤ y) : zc9 .shr k x y = some (.int k (x.fdiv (2 ^ min y.toNat k.bits))) := by
 unfold zc9; rw [if_neg (by omega)]
@[simp] theorem znW (k : IntKind) (x y : Int) (hy : 0 ≤ y) : zc9 .shl k x y = some (.int k (k.wrap (x * 2 ^ min y.toNat k.bits))) := by
 unfold zc9; rw [if_neg (by omega)]
theorem zah {n : Int} (h1 : -9223372036854775808 ≤ n) (h2 : n ≤ 9223372036854775807) : IntKind.i64.wrap n = n := by
 rw [IntKind.wrap_i64]; omega
end Go.Am
