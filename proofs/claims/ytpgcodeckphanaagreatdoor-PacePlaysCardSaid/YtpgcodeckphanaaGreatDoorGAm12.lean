/-
 AM, PART 12. The walk: rules for simp, and what simp must leave alone.
-/
import Derived.Test.YtpgcodeckphanaaGreatDoorGAm11
namespace Go.Am

@[simp] theorem Tm.put_some (t : Tm) (d k : Nat) (v : V) : (t.put (some d) v) k = if k = d then v else t k := _root_.id rfl
@[simp] theorem Tm.put_none (t : Tm) (v : V) : t.put none v = t := _root_.id rfl
@[simp] theorem zmx (args : List V) (k : Nat) : zbO args k = (args[k]?).getD .undef := _root_.id rfl
@[simp] theorem A.ev_t (t : Nat -> V) (i : Nat) : A.ev t (.t i) = t i := _root_.id rfl
@[simp] theorem A.ev_c (t : Nat -> V) (v : V) : A.ev t (.c v) = v := _root_.id rfl

variable {P : Program}
def opK (P : Program) (K : Tm -> H -> Prop) (d : Option Nat) (is : List SI) (t : Tm) (h : H) (r : Option (V × D)) : Prop :=
 match r with
 | some (v, dd) => Owp P K is (t.put d v) (h.app dd)
 | none => False
@[simp] theorem zro (K : Tm -> H -> Prop) (d : Option Nat) (is : List SI) (t : Tm) (h : H) (v : V) (dd : D) : opK P K d is t h (some (v, dd)) = Owp P K is (t.put d v) (h.app dd) := _root_.id rfl
def zce (P : Program) (K : Tm -> H -> Prop) (w : Bool) (d : Option Nat) (x : X) (is : List SI) (t : Tm) (h : H) (g : V) : Prop :=
 match g with
 | .bool b => if (b == w) = true then Owp P K (⟨d, none, x⟩ :: is) t h else Owp P K is (t.put d .undef) h
 | .tup [] => Owp P K is (t.put d .undef) h
 | _ => False
section
variable (K : Tm -> H -> Prop) (d : Option Nat) (x : X) (is : List SI) (t : Tm) (h : H)
@[simp] theorem zqa : zce P K true d x is t h (.bool true) = Owp P K (⟨d, none, x⟩ :: is) t h := by simp [zce]
@[simp] theorem zqD : zce P K false d x is t h (.bool false) = Owp P K (⟨d, none, x⟩ :: is) t h := by simp [zce]
@[simp] theorem zpu : zce P K false d x is t h (.bool true) = Owp P K is (t.put d .undef) h := by simp [zce]
@[simp] theorem zpT : zce P K true d x is t h (.bool false) = Owp P K is (t.put d .undef) h := by simp [zce]
@[simp] theorem zna (w : Bool) : zce P K w d x is t h .undef = Owp P K is (t.put d .undef) h := _root_.id rfl
@[simp] theorem zld (w : Bool) : zce P K w d x is t h (.tup []) = Owp P K is (t.put d .undef) h := _root_.id rfl
end
def retK (P : Program) (K : Tm -> H -> Prop) (d : Option Nat) (is : List SI) (t : Tm) (v : V) (h : H) : Prop := Owp P K is (t.put d v) h
@[simp] theorem zrP (K : Tm -> H -> Prop) (d : Option Nat) (is : List SI) (t : Tm) (v : V) (h : H) : retK P K d is t v h = Owp P K is (t.put d v) h := _root_.id rfl
def zi4 (P : Program) (f : V) (args : List V) (h : H) (Q : V -> H -> Prop) : Prop := zdD P f args h Q
@[simp] theorem zoQ (g : FuncId) (first cap args : List V) (h : H) (Q : V -> H -> Prop) : zi4 P (.func (.func g) first cap) args h Q = Acalls P g (first ++ args ++ cap) h Q := _root_.id rfl
@[simp] theorem zrh (i : Nat) (args : List V) (h : H) (Q : V -> H -> Prop) : zi4 P (.yl i) args h Q = Ayields P i args h Q := _root_.id rfl
@[simp] theorem zof (args : List V) (h : H) (Q : V -> H -> Prop) : zi4 P (.sl 0 0 0 1 (some 0)) args h Q = zm1 args h Q := _root_.id rfl
@[simp] theorem zoO (args : List V) (h : H) (Q : V -> H -> Prop) : zi4 P (.sl 0 0 0 2 (some 0)) args h Q = zpk args h Q := _root_.id rfl
@[simp] theorem zn4 (args : List V) (h : H) (Q : V -> H -> Prop) : zi4 P (.sl 0 0 0 3 (some 0)) args h Q = zm9 args h Q := _root_.id rfl

variable {K : Tm -> H -> Prop}
@[simp] theorem zrO (t : Tm) (h : H) : Owp P K [] t h = K t h := _root_.id rfl
@[simp] theorem zsj (d : Option Nat) (i : I) (is : List SI) (t : Tm) (h : H) : Owp P K (⟨d, none, .op i⟩ :: is) t h = opK P K d is t h (exec i t h.get h.next) := by
 simp only [Owp, zat, opK]
 split <;> rename_i e <;> simp only [e]
@[simp] theorem zqd (d : Option Nat) (g : Nat) (w : Bool) (x : X) (is : List SI) (t : Tm) (h : H) : Owp P K (⟨d, some (g, w), x⟩ :: is) t h = zce P K w d x is t h (t g) := by
 simp only [Owp, zat, zce]
 split
 ·rename_i e
  split at e <;> first | (cases e; done) | skip
  rename_i _ h1 h2
  split
  ·rename_i e'; exact absurd e' (h1 _)
  ·rename_i e'; exact absurd e' h2
  ·rfl
 ·rename_i e
  split at e
  ·rename_i b hb
   simp only [Option.some.injEq] at e
   rw [hb]
   simp [e]
  ·rename_i hb; rw [hb]
  ·cases e
 ·rename_i e
  split at e
  ·rename_i b hb
   simp only [Option.some.injEq] at e
   rw [hb]
   simp [e]
  ·cases e
  ·cases e
@[simp] theorem zqK (d : Option Nat) (f : A) (args : List A) (is : List SI) (t : Tm) (h : H) : Owp P K (⟨d, none, .call f args⟩ :: is) t h = zi4 P (f.ev t) (args.map (·.ev t)) h (retK P K d is t) := _root_.id rfl

variable {Q : Exit -> Tm -> H -> Prop}
def zhR (P : Program) (Q : Exit -> Tm -> H -> Prop) (a b : C) (t : Tm) (h : H) (c : V) : Prop := zdZ c (Cwp P a Q t h) (Cwp P b Q t h)
@[simp] theorem zqP (t : Tm) (h : H) : Cwp P .skip Q t h = Q .normal t h := _root_.id rfl
@[simp] theorem zrL (ops : List SI) (t : Tm) (h : H) : Cwp P (.reg ops) Q t h = Owp P (Q .normal) ops t h := _root_.id rfl
@[simp] theorem zrM (a b : C) (t : Tm) (h : H) : Cwp P (.seq a b) Q t h = Cwp P a (zeq (Cwp P b Q) Q) t h := _root_.id rfl
@[simp] theorem zrn (c : A) (a b : C) (t : Tm) (h : H) : Cwp P (.cond c a b) Q t h = zhR P Q a b t h (c.ev t) := _root_.id rfl
@[simp] theorem zpV (id : Nat) (b : C) (t : Tm) (h : H) : Cwp P (.block id b) Q t h = Cwp P b (zds id Q) t h := _root_.id rfl
@[simp] theorem zqR (b : C) (t : Tm) (h : H) : Cwp P (.loop b) Q t h = zhw (Cwp P b) Q t h := _root_.id rfl
@[simp] theorem zrk (id : Nat) (t : Tm) (h : H) : Cwp P (.exit id) Q t h = Q (.exit id) t h := _root_.id rfl
@[simp] theorem zr6 (t : Tm) (h : H) : Cwp P .ret Q t h = Q .ret t h := _root_.id rfl
@[simp] theorem zoP (a b : C) (t : Tm) (h : H) : zhR P Q a b t h (.bool true) = Cwp P a Q t h := by simp [zhR, zdZ]
@[simp] theorem zn9 (a b : C) (t : Tm) (h : H) : zhR P Q a b t h (.bool false) = Cwp P b Q t h := by simp [zhR, zdZ]
theorem zjh {a b : C} {t : Tm} {h : H} {c : Bool} (h1 : c = true -> Cwp P a Q t h) (h2 : c = false -> Cwp P b Q t h) : zhR P Q a b t h (.bool c) := ⟨h1, h2⟩
@[simp] theorem zmT (next : Tm -> H -> Prop) (t : Tm) (h : H) : zeq next Q .normal t h = next t h := _root_.id rfl
@[simp] theorem zpx (next : Tm -> H -> Prop) (t : Tm) (h : H) : zeq next Q .ret t h = Q .ret t h := _root_.id rfl
@[simp] theorem zoS (next : Tm -> H -> Prop) (i : Nat) (t : Tm) (h : H) : zeq next Q (.exit i) t h = Q (.exit i) t h := _root_.id rfl
@[simp] theorem zmp (id : Nat) (t : Tm) (h : H) : zds id Q .normal t h = Q .normal t h := _root_.id rfl
@[simp] theorem zoH (id : Nat) (t : Tm) (h : H) : zds id Q .ret t h = Q .ret t h := _root_.id rfl
@[simp] theorem znz (id i : Nat) (t : Tm) (h : H) : zds id Q (.exit i) t h = if i = id then Q .normal t h else Q (.exit i) t h := _root_.id rfl
theorem zaU {ops : List SI} {t : Tm} {h : H} (c : Swp P (Q .normal) ops t h) : Cwp P (.dreg [] ops) Q t h := .inl ⟨rfl, c⟩
def sopK (P : Program) (K : Tm -> H -> Prop) (d : Option Nat) (is : List SI) (t : Tm) (h : H) (r : Option (V × D)) : Prop :=
 match r with
 | some (v, dd) => Swp P K is (t.put d v) (h.app dd)
 | none => False
@[simp] theorem zpt (K : Tm -> H -> Prop) (d : Option Nat) (is : List SI) (t : Tm) (h : H) (v : V) (dd : D) : sopK P K d is t h (some (v, dd)) = Swp P K is (t.put d v) (h.app dd) := _root_.id rfl
def zbM (P : Program) (K : Tm -> H -> Prop) (w : Bool) (d : Option Nat) (x : X) (is : List SI) (t : Tm) (h : H) (g : V) : Prop :=
 match g with
 | .bool b => if (b == w) = true then Swp P K (⟨d, none, x⟩ :: is) t h else Swp P K is (t.put d .undef) h
 | .tup [] => Swp P K is (t.put d .undef) h
 | _ => False
def zmQ (P : Program) (K : Tm -> H -> Prop) (d : Option Nat) (is : List SI) (t : Tm) (h : H) (f : V) (args : List V) : Prop :=
 ∃ Q' : V -> H -> Prop, (∃ v h', Q' v h') ∧ zdD P f args h Q' ∧ ∀ v h', Q' v h' -> Swp P K is (t.put d v) h'
section
variable (K : Tm -> H -> Prop) (d : Option Nat) (x : X) (is : List SI) (t : Tm) (h : H)
@[simp] theorem zrZ : Swp P K [] t h = K t h := _root_.id rfl
@[simp] theorem zoW : zbM P K true d x is t h (.bool true) = Swp P K (⟨d, none, x⟩ :: is) t h := by simp [zbM]
@[simp] theorem zo7 : zbM P K false d x is t h (.bool false) = Swp P K (⟨d, none, x⟩ :: is) t h := by simp [zbM]
@[simp] theorem zoK : zbM P K false d x is t h (.bool true) = Swp P K is (t.put d .undef) h := by simp [zbM]
@[simp] theorem zoE : zbM P K true d x is t h (.bool false) = Swp P K is (t.put d .undef) h := by simp [zbM]
@[simp] theorem zl7 (w : Bool) : zbM P K w d x is t h .undef = Swp P K is (t.put d .undef) h := _root_.id rfl
@[simp] theorem zk8 (w : Bool) : zbM P K w d x is t h (.tup []) = Swp P K is (t.put d .undef) h := _root_.id rfl
@[simp] theorem zsh (i : I) : Swp P K (⟨d, none, .op i⟩ :: is) t h = sopK P K d is t h (exec i t h.get h.next) := by
 simp only [Swp, Sstep, zat, sopK]
 split <;> rename_i e <;> simp only [e]
@[simp] theorem zqo (g : Nat) (w : Bool) : Swp P K (⟨d, some (g, w), x⟩ :: is) t h = zbM P K w d x is t h (t g) := by
 simp only [Swp, Sstep, zat, zbM]
 split
 ·rename_i e
  split at e <;> first | (cases e; done) | skip
  rename_i _ h1 h2
  split
  ·rename_i e'; exact absurd e' (h1 _)
  ·rename_i e'; exact absurd e' h2
  ·rfl
 ·rename_i e
  split at e
  ·rename_i b hb
   simp only [Option.some.injEq] at e
   rw [hb]
   simp [e]
  ·rename_i hb; rw [hb]
  ·cases e
 ·rename_i e
  split at e
  ·rename_i b hb
   simp only [Option.some.injEq] at e
   rw [hb]
   simp [e]
  ·cases e
  ·cases e
@[simp] theorem zqQ (f : A) (args : List A) : Swp P K (⟨d, none, .call f args⟩ :: is) t h = zmQ P K d is t h (f.ev t) (args.map (·.ev t)) := _root_.id rfl
end
theorem zdc {K : Tm -> H -> Prop} {d : Option Nat} {is : List SI} {t : Tm} {h : H} {g : FuncId} {first cap args : List V} {v : V} {h' : H} (c : ∀ Q : V -> H -> Prop, Q v h' -> Acalls P g (first ++ args ++ cap) h Q) (k : Swp P K is (t.put d v) h') : zmQ P K d is t h (.func (.func g) first cap) args :=
 ⟨fun u h2 => u = v ∧ h2 = h', ⟨v, h', rfl, rfl⟩, c _ ⟨rfl, rfl⟩, by rintro u h2 ⟨rfl, rfl⟩; exact k⟩
def resK (r : Option (List V)) (h : H) (Q : V -> H -> Prop) : Prop :=
 match r with
 | some vs => Q (tupV vs) h
 | none => False
@[simp] theorem zqg (vs : List V) (h : H) (Q : V -> H -> Prop) : resK (some vs) h Q = Q (tupV vs) h := _root_.id rfl
@[simp] theorem zns (rs : List RV) (R : V -> H -> Prop) (t : Tm) (h : H) : zdE rs R .ret t h = resK (zbK h.get t rs) h R := _root_.id rfl
@[simp] theorem zk7 (rs : List RV) (R : V -> H -> Prop) (t : Tm) (h : H) : zdE rs R .normal t h = resK (zbK h.get t rs) h R := _root_.id rfl
@[simp] theorem zpv (g : Nat -> Option O) (t : Tm) : zbK g t [] = some [] := _root_.id rfl
@[simp] theorem zqr (g : Nat -> Option O) (t : Tm) (k : Nat) (rs : List RV) : zbK g t (.tmp k :: rs) = (zbK g t rs).map (t k :: ·) := by
 simp only [zbK, resV]; cases zbK g t rs <;> rfl
@[simp] theorem zpg (g : Nat -> Option O) (t : Tm) (k n : Nat) (a : Bool) (rs : List RV) : zbK g t (.cell k a n :: rs) = (zdk g a n (t k)).bind fun v => (zbK g t rs).map (v :: ·) := by
 simp only [zbK, resV]; cases zdk g a n (t k) with
 | none => rfl
 | some v => simp only [Option.bind_some]; cases zbK g t rs <;> rfl
@[simp] theorem zqH : tupV [] = .tup [] := _root_.id rfl
@[simp] theorem zqU (v : V) : tupV [v] = v := _root_.id rfl
@[simp] theorem zrq (v u : V) (vs : List V) : tupV (v :: u :: vs) = .tup (v :: u :: vs) := _root_.id rfl

@[simp] theorem znw (v : V) : zan (some v) = some (v, .keep) := _root_.id rfl
def zij (off : Nat) : V -> Option V
 | .ptr i n o => some (.ptr i n (o + off))
 | .gp g o => some (.gp g (o + off))
 | _ => none
def zj5 (agg : Bool) (off n : Nat) : V -> Option V
 | .agg cs => zb7 agg off n cs
 | _ => none
def znn (i : Nat) : V -> Option V
 | .tup vs => vs[i]?
 | _ => none
def cidV : V -> Option V
 | .str s => some (.str s)
 | _ => none
def boxV (next : Nat) (v : V) : Option (V × D) := if v.solid then some (.ptr next v.cells.length 0, .push (.row v.cells)) else none
def mapD (d : Option D) : Option (V × D) := d.map fun d => (.undef, d)
section
variable (t : Nat -> V) (g : Nat -> Option O) (n : Nat)
@[simp] theorem zq9 (x : A) : exec (.mov x) t g n = some (x.ev t, .keep) := _root_.id rfl
@[simp] theorem zqF (c a b : A) : exec (.pick c a b) t g n = zan (zhf (c.ev t) (a.ev t) (b.ev t)) := _root_.id rfl
@[simp] theorem zo8 (z : List V) : exec (.alloc z) t g n = some (.ptr n z.length 0, .push (.row z)) := _root_.id rfl
@[simp] theorem zrg (x : A) : exec (.box x) t g n = boxV n (x.ev t) := _root_.id rfl
@[simp] theorem zmR (ty : TypeId) (x : A) : exec (.mkIface ty x) t g n = some (.iface ty (x.ev t), .keep) := _root_.id rfl
@[simp] theorem zoZ (z : List V) (ps : List (Nat × Nat × A)) : exec (.build z ps) t g n = zan ((zcP z (ps.map fun (o, n, x) => (o, n, x.ev t))).map .agg) := _root_.id rfl
@[simp] theorem zkS (sz len : Nat) (z : List V) (ps : List (Nat × A)) : exec (.buildSlice sz len z ps) t g n = (zcP (zao len z) (ps.map fun (k, x) => (k * sz, sz, x.ev t))).map fun cs => (.sl n (len * sz) 0 len (some len), .push (.row cs)) := _root_.id rfl
@[simp] theorem zqC (a : Bool) (m : Nat) (x : A) : exec (.load a m x) t g n = zan (zdk g a m (x.ev t)) := _root_.id rfl
@[simp] theorem zpe (m : Nat) (a x : A) : exec (.store m a x) t g n = mapD (zd0 g m (a.ev t) (x.ev t)) := _root_.id rfl
@[simp] theorem zoc (x : A) : exec (.nilchk x) t g n = zan (zcY (x.ev t)) := _root_.id rfl
@[simp] theorem zq5 (op : BinOp) (x y : A) : exec (.bin op x y) t g n = zan (binV op (x.ev t) (y.ev t)) := _root_.id rfl
@[simp] theorem zsg (b : Bool) (ts : TS) (x y : A) : exec (.eq b ts x y) t g n = zan ((eqV ts (x.ev t) (y.ev t)).map fun r => .bool (if b then !r else r)) := _root_.id rfl
@[simp] theorem zsa (op : UnOp) (x : A) : exec (.un op x) t g n = zan (unV op (x.ev t)) := _root_.id rfl
@[simp] theorem zmD (k : IntKind) (x : A) : exec (.convInt k x) t g n = zan ((zgK (x.ev t)).map fun m => .int k (k.wrap m)) := _root_.id rfl
@[simp] theorem znK (x : A) : exec (.convId x) t g n = zan (cidV (x.ev t)) := by simp only [exec, cidV]; cases x.ev t <;> rfl
@[simp] theorem zo6 (x : A) : exec (.strOf x) t g n = zan (zej g (x.ev t)) := _root_.id rfl
@[simp] theorem zla (o : Nat) (x : A) : exec (.fieldAddr o x) t g n = zan (zij o (x.ev t)) := by simp only [exec, zij]; cases x.ev t <;> rfl
@[simp] theorem zoT (a : Bool) (o m : Nat) (x : A) : exec (.field a o m x) t g n = zan (zj5 a o m (x.ev t)) := by simp only [exec, zj5]; cases x.ev t <;> rfl
@[simp] theorem zk9 (s : Nat) (x i : A) : exec (.indexAddr s x i) t g n = zan (zaC s (x.ev t) (i.ev t)) := _root_.id rfl
@[simp] theorem zjs (l s : Nat) (x i : A) : exec (.indexAddrArr l s x i) t g n = zan (zbc l s (x.ev t) (i.ev t)) := _root_.id rfl
@[simp] theorem zqZ (e : StIn) (x y : A) : exec (.ext e x y) t g n = zan (extV e (x.ev t) (y.ev t)) := _root_.id rfl
@[simp] theorem zoN (s : List UInt8) (c : Int) : extV .indexByte (.str s) (.int .u8 c) = some (.int .i64 (Go.Lib.indexByte s c.toNat.toUInt8)) := _root_.id rfl
@[simp] theorem zoX (s : List UInt8) (c : Int) : extV .count (.str s) (.int .u8 c) = some (.int .i64 (Go.Lib.countByte s c.toNat.toUInt8 : Nat)) := _root_.id rfl
@[simp] theorem zmS (s u : List UInt8) : extV .compare (.str s) (.str u) = some (.int .i64 (Go.Lib.compareBytes s u)) := _root_.id rfl
@[simp] theorem zoR (k : Nat) (fn : List V -> Option V) (args : List A) : exec (.pcall k fn args) t g n = zan (fn (args.map (·.ev t))) := _root_.id rfl
@[simp] theorem zms (x i : A) : exec (.indexStr x i) t g n = zan (zbZ (x.ev t) (i.ev t)) := _root_.id rfl
@[simp] theorem zmq (a : Bool) (l s : Nat) (x i : A) : exec (.indexArr a l s x i) t g n = zan (zcT a l s (x.ev t) (i.ev t)) := _root_.id rfl
@[simp] theorem zl2 (x : A) (lo hi : Option A) : exec (.sliceStr x lo hi) t g n = zan (zb0 (lo.map (·.ev t)) (hi.map (·.ev t)) (x.ev t)) := _root_.id rfl
@[simp] theorem zqw (s : Nat) (x hi : A) : exec (.resl s x hi) t g n = zan ((zaB s none (some (hi.ev t)) none (x.ev t)).or (zjr g s (hi.ev t) (x.ev t))) := _root_.id rfl
@[simp] theorem zmv (s : Nat) (x : A) (lo hi mx : Option A) : exec (.sliceSl s x lo hi mx) t g n = zan (zaB s (lo.map (·.ev t)) (hi.map (·.ev t)) (mx.map (·.ev t)) (x.ev t)) := _root_.id rfl
@[simp] theorem zmb (l s : Nat) (x : A) (lo hi mx : Option A) : exec (.sliceArr l s x lo hi mx) t g n = zan (ze0 l s (lo.map (·.ev t)) (hi.map (·.ev t)) (mx.map (·.ev t)) (x.ev t)) := _root_.id rfl
@[simp] theorem zlb (s b : Nat) (z : List V) (l c : A) : exec (.makeSlice s b z l c) t g n = zbT n s b z (l.ev t) (c.ev t) := _root_.id rfl
@[simp] theorem zlh (f : Fn) (a c : List A) : exec (.makeFunc f a c) t g n = some (.func f (a.map (·.ev t)) (c.map (·.ev t)), .keep) := _root_.id rfl
@[simp] theorem zmV (x : A) (i : Nat) : exec (.extract x i) t g n = zan (znn i (x.ev t)) := by simp only [exec, znn]; cases x.ev t <;> rfl
@[simp] theorem zq2 (k : Nat) (x : A) : exec (.len k x) t g n = zan (lenV k g (x.ev t)) := _root_.id rfl
@[simp] theorem znY (s b : Nat) (x y : A) : exec (.append s b x y) t g n = zaG g n s b (x.ev t) (y.ev t) := _root_.id rfl
@[simp] theorem znt (m : Bool) (x : A) (r : List A) : exec (.minmax m x r) t g n = zan (minmaxV m (x.ev t) (r.map (·.ev t))) := _root_.id rfl
@[simp] theorem zmW : exec .makeMap t g n = some (.map n, .push (.mapo [] [] 0)) := _root_.id rfl
@[simp] theorem znC (kd : KD) (z : V) (ok : Bool) (x k : A) : exec (.lookup kd z ok x k) t g n = zan (zfe g kd z ok (x.ev t) (k.ev t)) := _root_.id rfl
@[simp] theorem znp (kd : KD) (x k v : A) : exec (.mapSet kd x k v) t g n = mapD (zcn g kd (x.ev t) (k.ev t) (v.ev t)) := _root_.id rfl
@[simp] theorem znr (kd : KD) (x k : A) : exec (.mapDel kd x k) t g n = mapD (zdJ g kd (x.ev t) (k.ev t)) := _root_.id rfl
@[simp] theorem zqm (s : Nat) (d x : A) : exec (.copy s d x) t g n = zfo g s (d.ev t) (x.ev t) := _root_.id rfl
@[simp] theorem zm5 (s : Nat) (z : List V) (x : A) : exec (.clearSl s z x) t g n = mapD (zcF g z (x.ev t)) := _root_.id rfl
@[simp] theorem zlU (x : A) : exec (.clearMap x) t g n = mapD (zbE g (x.ev t)) := _root_.id rfl
end
@[simp] theorem zpz (d : D) : mapD (some d) = some (.undef, d) := _root_.id rfl
@[simp] theorem zqY (h : H) : h.app .keep = h := _root_.id rfl
@[simp] theorem zff (h : H) (i : Nat) (o : O) : h.app (.set i o) = h.set i o := _root_.id rfl
@[simp] theorem zd1 (h : H) (o : O) : h.app (.push o) = h.push o := _root_.id rfl
@[simp] theorem zpi (off g o : Nat) : zij off (.gp g o) = some (.gp g (o + off)) := _root_.id rfl
@[simp] theorem zo9 (off i n o : Nat) : zij off (.ptr i n o) = some (.ptr i n (o + off)) := _root_.id rfl
@[simp] theorem zoF (a : Bool) (o n : Nat) (cs : List V) : zj5 a o n (.agg cs) = zb7 a o n cs := _root_.id rfl
@[simp] theorem zoI (o n : Nat) (cs : List V) : zb7 true o n cs = some (.agg ((cs.drop o).take n)) := _root_.id rfl
@[simp] theorem zn1 (o n : Nat) (cs : List V) : zb7 false o n cs = cs[o]? := _root_.id rfl
@[simp] theorem zp8 (i : Nat) (vs : List V) : znn i (.tup vs) = vs[i]? := _root_.id rfl
@[simp] theorem zrA (s : List UInt8) : cidV (.str s) = some (.str s) := _root_.id rfl
@[simp] theorem zru (n : Nat) (cs : List V) : boxV n (.agg cs) = if cs.all V.one then some (.ptr n cs.length 0, .push (.row cs)) else none := _root_.id rfl
@[simp] theorem zrC (n : Nat) (k : IntKind) (x : Int) : boxV n (.int k x) = some (.ptr n 1 0, .push (.row [.int k x])) := _root_.id rfl
@[simp] theorem zqJ (n : Nat) (s : List UInt8) : boxV n (.str s) = some (.ptr n 1 0, .push (.row [.str s])) := _root_.id rfl
@[simp] theorem zpw (n : Nat) (b : Bool) : boxV n (.bool b) = some (.ptr n 1 0, .push (.row [.bool b])) := _root_.id rfl
@[simp] theorem zo0 (a b : V) : zhf (.bool true) a b = some a := _root_.id rfl
@[simp] theorem zom (a b : V) : zhf (.bool false) a b = some b := _root_.id rfl
@[simp] theorem zpO (c d : Bool) : zhf (.bool c) (.bool d) (.bool false) = some (.bool (c && d)) := by cases c <;> rfl
@[simp] theorem zrj (c d : Bool) : zhf (.bool c) (.bool true) (.bool d) = some (.bool (c || d)) := by cases c <;> rfl
@[simp] theorem zow (i n o : Nat) : zcY (.ptr i n o) = some (.ptr i n o) := _root_.id rfl
@[simp] theorem zo1 (g o : Nat) : zcY (.gp g o) = some (.gp g o) := _root_.id rfl
@[simp] theorem zmy (f : FuncId) (a b : List V) : zcY (.func (.func f) a b) = some (.func (.func f) a b) := _root_.id rfl
@[simp] theorem zo5 (k : IntKind) (n : Int) : zgK (.int k n) = some n := _root_.id rfl
@[simp] theorem zq1 (op : BinOp) (a b : List UInt8) : binV op (.str a) (.str b) = strV op a b := _root_.id rfl
@[simp] theorem zqT (op : BinOp) (k k' : IntKind) (a b : Int) : binV op (.int k a) (.int k' b) = if zcR op then zcO op k a b else if k = k' then intV op k a b else none := _root_.id rfl
attribute [simp] zcR
@[simp] theorem zra (x y : List UInt8) : strV .add x y = if x.length + y.length ≤ 9223372036854775807 then some (.str (x ++ y)) else none := _root_.id rfl
@[simp] theorem zqO (x y : List UInt8) : strV .eql x y = some (.bool (x == y)) := _root_.id rfl
@[simp] theorem zqN (x y : List UInt8) : strV .neq x y = some (.bool (!(x == y))) := _root_.id rfl
@[simp] theorem zrs (x y : List UInt8) : strV .lss x y = some (.bool (Op.bytesLess x y)) := _root_.id rfl
@[simp] theorem zr5 (b : Bool) : unV .not (.bool b) = some (.bool (!b)) := _root_.id rfl
@[simp] theorem zrN (k : IntKind) (n : Int) : unV .neg (.int k n) = some (.int k (k.wrap (0 - n))) := _root_.id rfl
@[simp] theorem zpm (cs : List V) : zcP cs [] = some cs := _root_.id rfl
@[simp] theorem zpa (cs : List V) (o n : Nat) (v : V) (r : List (Nat × Nat × V)) : zcP cs ((o, n, v) :: r) = if v.solid && v.cells.length == n && decide (o + n ≤ cs.length) then zcP (putCells cs o v.cells) r else none := _root_.id rfl
@[simp] theorem zqb (k : IntKind) (n : Int) : (V.int k n).solid = true := _root_.id rfl
@[simp] theorem zoG (b : Bool) : (V.bool b).solid = true := _root_.id rfl
@[simp] theorem zpR (s : List UInt8) : (V.str s).solid = true := _root_.id rfl
@[simp] theorem zob : V.nilsl.solid = true := _root_.id rfl
@[simp] theorem zqq (cs : List V) : (V.agg cs).solid = cs.all V.one := _root_.id rfl
@[simp] theorem zqG (cs : List V) : (V.agg cs).cells = cs := _root_.id rfl
@[simp] theorem zpY (k : IntKind) (n : Int) : (V.int k n).cells = [.int k n] := _root_.id rfl
@[simp] theorem zoV (b : Bool) : (V.bool b).cells = [.bool b] := _root_.id rfl
@[simp] theorem zps (s : List UInt8) : (V.str s).cells = [.str s] := _root_.id rfl
@[simp] theorem znG : V.nilsl.cells = [.nilsl] := _root_.id rfl
@[simp] theorem zrE (i n o l : Nat) (c : Option Nat) : (V.sl i n o l c).cells = [.sl i n o l c] := _root_.id rfl
@[simp] theorem zrT (k : IntKind) (n : Int) : (V.int k n).one = true := _root_.id rfl
@[simp] theorem zq3 (b : Bool) : (V.bool b).one = true := _root_.id rfl
@[simp] theorem zrR (s : List UInt8) : (V.str s).one = true := _root_.id rfl
@[simp] theorem zqk : V.nilsl.one = true := _root_.id rfl
@[simp] theorem zrW : V.slz.one = true := _root_.id rfl
@[simp] theorem zsk (i n o l : Nat) (c : Option Nat) : (V.sl i n o l c).one = true := _root_.id rfl
@[simp] theorem zrI (i n o : Nat) : (V.ptr i n o).one = true := _root_.id rfl
theorem zap {v : V} (h : v.one = true) : v.cells = [v] := by cases v <;> first | rfl | cases h
theorem zaq {v : V} (h : v.one = true) : v.solid = true := by cases v <;> first | rfl | cases h
@[simp] theorem zpM (g : Nat -> Option O) (a : Bool) (n i m o : Nat) : zdk g a n (.ptr i m o) = (zac g i m).bind fun cs => if a then (if o + n ≤ cs.length then some (.agg ((cs.drop o).take n)) else none) else cs[o]? := by
 simp only [zdk]; cases zac g i m <;> rfl
@[simp] theorem zrt (g : Nat -> Option O) (a : Bool) (n b o : Nat) : zdk g a n (.gp b o) = (GT.lookup b).bind fun cs => if a then (if o + n ≤ cs.length then some (.agg ((cs.drop o).take n)) else none) else cs[o]? := by
 simp only [zdk]; cases GT.lookup b <;> rfl
@[simp] theorem zoJ (g : Nat -> Option O) (n i m o : Nat) (x : V) : zd0 g n (.ptr i m o) x = if x.solid && x.cells.length == n then (g i).bind fun ob => if ob.len = m then (ob.put o x.cells).map (D.set i) else none else none := by
 simp only [zd0]; cases g i <;> rfl
@[simp] theorem zhQ (cs xs : List V) (o : Nat) : (O.row cs).put o xs = if o + xs.length ≤ cs.length then some (.row (putCells cs o xs)) else none := _root_.id rfl
@[simp] theorem zh1 (s : Nat) (cs xs : List V) (o : Nat) : (O.grow s cs).put o xs = if o + xs.length ≤ cs.length then some (.grow s (putCells cs o xs)) else none := _root_.id rfl
@[simp] theorem zkW (cs : List V) : (O.row cs).len = cs.length := _root_.id rfl
@[simp] theorem zrx (s : Nat) (cs : List V) : (O.grow s cs).len = cs.length := _root_.id rfl
@[simp] theorem zmF (cs : List V) : (O.ro cs).len = cs.length := _root_.id rfl
@[simp] theorem zkc (cs : List V) : (O.row cs).cells = cs := _root_.id rfl
@[simp] theorem zi2 (s : Nat) (cs : List V) : (O.grow s cs).cells = cs := _root_.id rfl
@[simp] theorem zlq (cs : List V) : (O.ro cs).cells = cs := _root_.id rfl
theorem zad {g : Nat -> Option O} {i n : Nat} {o : O} (h : g i = some o) (hn : o.len = n) : zac g i n = some o.cells := by simp [zac, h, hn]
@[simp] theorem zmd (h : H) (o : O) : (h.push o).get h.next = some o := by simp [H.get_push]
@[simp] theorem zmJ (h : H) (i : Nat) (o : O) : (h.set i o).get i = some o := by simp [H.get_set]
@[simp] theorem zbm (s i n o l : Nat) (c : Option Nat) (k : IntKind) (m : Int) : zaC s (.sl i n o l c) (.int k m) = if 0 ≤ m ∧ m < l then some (.ptr i n (o + m.toNat * s)) else none := _root_.id rfl
@[simp] theorem ziW (l s i n o : Nat) (k : IntKind) (m : Int) : zbc l s (.ptr i n o) (.int k m) = if 0 ≤ m ∧ m < l then some (.ptr i n (o + m.toNat * s)) else none := _root_.id rfl
@[simp] theorem zjy (l s g o : Nat) (k : IntKind) (m : Int) : zbc l s (.gp g o) (.int k m) = if 0 ≤ m ∧ m < l then some (.gp g (o + m.toNat * s)) else none := _root_.id rfl
@[simp] theorem zlS (s : List UInt8) (k : IntKind) (m : Int) : zbZ (.str s) (.int k m) = if 0 ≤ m then (s[m.toNat]?).map fun b => .int .u8 b.toNat else none := _root_.id rfl
@[simp] theorem zlw (a : Bool) (l s : Nat) (cs : List V) (k : IntKind) (m : Int) : zcT a l s (.agg cs) (.int k m) = if 0 ≤ m ∧ m < l then zb7 a (m.toNat * s) s cs else none := _root_.id rfl
@[simp] theorem zqW (g : Nat -> Option O) (s : List UInt8) : lenV 0 g (.str s) = some (.int .i64 s.length) := _root_.id rfl
@[simp] theorem zr7 (g : Nat -> Option O) (i n o l : Nat) (c : Option Nat) : lenV 1 g (.sl i n o l c) = some (.int .i64 l) := _root_.id rfl
@[simp] theorem zpd (g : Nat -> Option O) : lenV 1 g .nilsl = some (.int .i64 0) := _root_.id rfl
@[simp] theorem zrv (g : Nat -> Option O) : lenV 1 g .slz = some (.int .i64 0) := _root_.id rfl
@[simp] theorem zqc (g : Nat -> Option O) (i n o l : Nat) (c : Option Nat) : zej g (.sl i n o l c) = (zaD g 1 (.sl i n o l c)).bind fun p => (p.2.mapM u8Of).map .str := by
 simp only [zej]; cases zaD g 1 (.sl i n o l c) <;> rfl
@[simp] theorem zbw (d y : Nat) : zar d y none = some d := _root_.id rfl
@[simp] theorem zno (d y : Nat) (k : IntKind) (n : Int) : zar d y (some (.int k n)) = if 0 ≤ n ∧ n ≤ (y : Int) then some n.toNat else none := _root_.id rfl
@[simp] theorem zlP (lo hi : Option V) (s : List UInt8) : zb0 lo hi (.str s) = (zar s.length s.length hi).bind fun h => (zar 0 h lo).bind fun l => some (.str ((s.take h).drop l)) := by
 simp only [zb0]; cases zar s.length s.length hi with
 | none => rfl
 | some h => simp only [Option.bind_some]; cases zar 0 h lo <;> rfl
@[simp] theorem znh (k k' : IntKind) (x y : Int) : minmaxV false (.int k x) [.int k' y] = if k = k' then some (.int k (if y < x then y else x)) else none := by simp [minmaxV]
@[simp] theorem znm (k k' : IntKind) (x y : Int) : minmaxV true (.int k x) [.int k' y] = if k = k' then some (.int k (if x < y then y else x)) else none := by simp [minmaxV]
@[simp] theorem zqS (k : IntKind) (x y : Int) : intV .add k x y = some (.int k (k.wrap (x + y))) := _root_.id rfl
@[simp] theorem zrp (k : IntKind) (x y : Int) : intV .sub k x y = some (.int k (k.wrap (x - y))) := _root_.id rfl
@[simp] theorem zrB (k : IntKind) (x y : Int) : intV .mul k x y = some (.int k (k.wrap (x * y))) := _root_.id rfl
@[simp] theorem zrr (k : IntKind) (x y : Int) : intV .eql k x y = some (.bool (x == y)) := _root_.id rfl
@[simp] theorem zqX (k : IntKind) (x y : Int) : intV .neq k x y = some (.bool (x != y)) := _root_.id rfl
@[simp] theorem zrl (k : IntKind) (x y : Int) : intV .lss k x y = some (.bool (decide (x < y))) := _root_.id rfl
@[simp] theorem zqI (k : IntKind) (x y : Int) : intV .leq k x y = some (.bool (decide (x ≤ y))) := _root_.id rfl
@[simp] theorem zq0 (k : IntKind) (x y : Int) : intV .gtr k x y = some (.bool (decide (y < x))) := _root_.id rfl
@[simp] theorem zqL (k : IntKind) (x y : Int) : intV .geq k x y = some (.bool (decide (y ≤ x))) := _root_.id rfl
@[simp] theorem zph (k : IntKind) (x y : Int) (hy : 0 ≤ y) : zcO .shr k x y = some (.int k (x.fdiv (2 ^ min y.toNat k.bits))) := by
 unfold zcO; rw [if_neg (by omega)]
@[simp] theorem zoU (k : IntKind) (x y : Int) (hy : 0 ≤ y) : zcO .shl k x y = some (.int k (k.wrap (x * 2 ^ min y.toNat k.bits))) := by
 unfold zcO; rw [if_neg (by omega)]
theorem zag {n : Int} (h1 : -9223372036854775808 ≤ n) (h2 : n ≤ 9223372036854775807) : IntKind.i64.wrap n = n := by
 rw [IntKind.wrap_i64]; omega
end Go.Am
