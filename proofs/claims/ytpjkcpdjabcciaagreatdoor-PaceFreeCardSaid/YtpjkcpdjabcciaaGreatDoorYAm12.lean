/-
  AM, PART 12. The walk: rules for simp, and what simp must leave alone.
-/
import Derived.Test.YtpjkcpdjabcciaaGreatDoorYAm11
namespace Go.Am

@[simp] theorem Tm.put_some (t : Tm) (d k : Nat) (v : V) : (t.put (some d) v) k = if k = d then v else t k := _root_.id rfl
@[simp] theorem Tm.put_none (t : Tm) (v : V) : t.put none v = t := _root_.id rfl
@[simp] theorem enterT_apply (args : List V) (k : Nat) : enterT args k = (args[k]?).getD .undef := _root_.id rfl
@[simp] theorem A.ev_t (t : Nat → V) (i : Nat) : A.ev t (.t i) = t i := _root_.id rfl
@[simp] theorem A.ev_c (t : Nat → V) (v : V) : A.ev t (.c v) = v := _root_.id rfl

variable {P : Program}
def opK (P : Program) (K : Tm → H → Prop) (d : Option Nat) (is : List SI) (t : Tm) (h : H) (r : Option (V × D)) : Prop :=
  match r with
  | some (v, dd) => Owp P K is (t.put d v) (h.app dd)
  | none => False
@[simp] theorem opK_some (K : Tm → H → Prop) (d : Option Nat) (is : List SI) (t : Tm) (h : H) (v : V) (dd : D) : opK P K d is t h (some (v, dd)) = Owp P K is (t.put d v) (h.app dd) := _root_.id rfl
def guardK (P : Program) (K : Tm → H → Prop) (w : Bool) (d : Option Nat) (x : X) (is : List SI) (t : Tm) (h : H) (g : V) : Prop :=
  match g with
  | .bool b => if (b == w) = true then Owp P K (⟨d, none, x⟩ :: is) t h else Owp P K is (t.put d .undef) h
  | .tup [] => Owp P K is (t.put d .undef) h
  | _ => False
section
variable (K : Tm → H → Prop) (d : Option Nat) (x : X) (is : List SI) (t : Tm) (h : H)
@[simp] theorem guardK_tt : guardK P K true d x is t h (.bool true) = Owp P K (⟨d, none, x⟩ :: is) t h := by simp [guardK]
@[simp] theorem guardK_ff : guardK P K false d x is t h (.bool false) = Owp P K (⟨d, none, x⟩ :: is) t h := by simp [guardK]
@[simp] theorem guardK_tf : guardK P K false d x is t h (.bool true) = Owp P K is (t.put d .undef) h := by simp [guardK]
@[simp] theorem guardK_ft : guardK P K true d x is t h (.bool false) = Owp P K is (t.put d .undef) h := by simp [guardK]
@[simp] theorem guardK_undef (w : Bool) : guardK P K w d x is t h .undef = Owp P K is (t.put d .undef) h := _root_.id rfl
@[simp] theorem guardK_undef' (w : Bool) : guardK P K w d x is t h (.tup []) = Owp P K is (t.put d .undef) h := _root_.id rfl
end
def retK (P : Program) (K : Tm → H → Prop) (d : Option Nat) (is : List SI) (t : Tm) (v : V) (h : H) : Prop := Owp P K is (t.put d v) h
@[simp] theorem retK_eq (K : Tm → H → Prop) (d : Option Nat) (is : List SI) (t : Tm) (v : V) (h : H) : retK P K d is t v h = Owp P K is (t.put d v) h := _root_.id rfl
def callK (P : Program) (f : V) (args : List V) (h : H) (Q : V → H → Prop) : Prop := callV P f args h Q
@[simp] theorem callK_func (g : FuncId) (first cap args : List V) (h : H) (Q : V → H → Prop) : callK P (.func (.func g) first cap) args h Q = Acalls P g (first ++ args ++ cap) h Q := _root_.id rfl
@[simp] theorem callK_yl (i : Nat) (args : List V) (h : H) (Q : V → H → Prop) : callK P (.yl i) args h Q = Ayields P i args h Q := _root_.id rfl
@[simp] theorem callK_range (args : List V) (h : H) (Q : V → H → Prop) : callK P (.sl 0 0 0 1 (some 0)) args h Q = rangeV args h Q := _root_.id rfl
@[simp] theorem callK_next (args : List V) (h : H) (Q : V → H → Prop) : callK P (.sl 0 0 0 2 (some 0)) args h Q = nextV args h Q := _root_.id rfl
@[simp] theorem callK_entry (args : List V) (h : H) (Q : V → H → Prop) : callK P (.sl 0 0 0 3 (some 0)) args h Q = entryV args h Q := _root_.id rfl

variable {K : Tm → H → Prop}
@[simp] theorem Owp_nil (t : Tm) (h : H) : Owp P K [] t h = K t h := _root_.id rfl
@[simp] theorem Owp_op (d : Option Nat) (i : I) (is : List SI) (t : Tm) (h : H) : Owp P K (⟨d, none, .op i⟩ :: is) t h = opK P K d is t h (exec i t h.get h.next) := by
  simp only [Owp, guardV, opK]
  split <;> rename_i e <;> simp only [e]
@[simp] theorem Owp_guard (d : Option Nat) (g : Nat) (w : Bool) (x : X) (is : List SI) (t : Tm) (h : H) : Owp P K (⟨d, some (g, w), x⟩ :: is) t h = guardK P K w d x is t h (t g) := by
  simp only [Owp, guardV, guardK]
  split
  · rename_i e
    split at e <;> first | (cases e; done) | skip
    rename_i _ h1 h2
    split
    · rename_i e'; exact absurd e' (h1 _)
    · rename_i e'; exact absurd e' h2
    · rfl
  · rename_i e
    split at e
    · rename_i b hb
      simp only [Option.some.injEq] at e
      rw [hb]
      simp [e]
    · rename_i hb; rw [hb]
    · cases e
  · rename_i e
    split at e
    · rename_i b hb
      simp only [Option.some.injEq] at e
      rw [hb]
      simp [e]
    · cases e
    · cases e
@[simp] theorem Owp_call (d : Option Nat) (f : A) (args : List A) (is : List SI) (t : Tm) (h : H) : Owp P K (⟨d, none, .call f args⟩ :: is) t h = callK P (f.ev t) (args.map (·.ev t)) h (retK P K d is t) := _root_.id rfl

variable {Q : Exit → Tm → H → Prop}
def condK (P : Program) (Q : Exit → Tm → H → Prop) (a b : C) (t : Tm) (h : H) (c : V) : Prop := condA c (Cwp P a Q t h) (Cwp P b Q t h)
@[simp] theorem Cwp_skip (t : Tm) (h : H) : Cwp P .skip Q t h = Q .normal t h := _root_.id rfl
@[simp] theorem Cwp_reg (ops : List SI) (t : Tm) (h : H) : Cwp P (.reg ops) Q t h = Owp P (Q .normal) ops t h := _root_.id rfl
@[simp] theorem Cwp_seq (a b : C) (t : Tm) (h : H) : Cwp P (.seq a b) Q t h = Cwp P a (thenA (Cwp P b Q) Q) t h := _root_.id rfl
@[simp] theorem Cwp_cond (c : A) (a b : C) (t : Tm) (h : H) : Cwp P (.cond c a b) Q t h = condK P Q a b t h (c.ev t) := _root_.id rfl
@[simp] theorem Cwp_block (id : Nat) (b : C) (t : Tm) (h : H) : Cwp P (.block id b) Q t h = Cwp P b (blockA id Q) t h := _root_.id rfl
@[simp] theorem Cwp_loop (b : C) (t : Tm) (h : H) : Cwp P (.loop b) Q t h = loopA (Cwp P b) Q t h := _root_.id rfl
@[simp] theorem Cwp_exit (id : Nat) (t : Tm) (h : H) : Cwp P (.exit id) Q t h = Q (.exit id) t h := _root_.id rfl
@[simp] theorem Cwp_ret (t : Tm) (h : H) : Cwp P .ret Q t h = Q .ret t h := _root_.id rfl
@[simp] theorem condK_true (a b : C) (t : Tm) (h : H) : condK P Q a b t h (.bool true) = Cwp P a Q t h := by simp [condK, condA]
@[simp] theorem condK_false (a b : C) (t : Tm) (h : H) : condK P Q a b t h (.bool false) = Cwp P b Q t h := by simp [condK, condA]
theorem cond_split {a b : C} {t : Tm} {h : H} {c : Bool} (h1 : c = true → Cwp P a Q t h) (h2 : c = false → Cwp P b Q t h) : condK P Q a b t h (.bool c) := ⟨h1, h2⟩
@[simp] theorem thenA_normal (next : Tm → H → Prop) (t : Tm) (h : H) : thenA next Q .normal t h = next t h := _root_.id rfl
@[simp] theorem thenA_ret (next : Tm → H → Prop) (t : Tm) (h : H) : thenA next Q .ret t h = Q .ret t h := _root_.id rfl
@[simp] theorem thenA_exit (next : Tm → H → Prop) (i : Nat) (t : Tm) (h : H) : thenA next Q (.exit i) t h = Q (.exit i) t h := _root_.id rfl
@[simp] theorem blockA_normal (id : Nat) (t : Tm) (h : H) : blockA id Q .normal t h = Q .normal t h := _root_.id rfl
@[simp] theorem blockA_ret (id : Nat) (t : Tm) (h : H) : blockA id Q .ret t h = Q .ret t h := _root_.id rfl
@[simp] theorem blockA_exit (id i : Nat) (t : Tm) (h : H) : blockA id Q (.exit i) t h = if i = id then Q .normal t h else Q (.exit i) t h := _root_.id rfl
theorem dreg_of {ops : List SI} {t : Tm} {h : H} (c : Swp P (Q .normal) ops t h) : Cwp P (.dreg [] ops) Q t h := .inl ⟨rfl, c⟩
def sopK (P : Program) (K : Tm → H → Prop) (d : Option Nat) (is : List SI) (t : Tm) (h : H) (r : Option (V × D)) : Prop :=
  match r with
  | some (v, dd) => Swp P K is (t.put d v) (h.app dd)
  | none => False
@[simp] theorem sopK_some (K : Tm → H → Prop) (d : Option Nat) (is : List SI) (t : Tm) (h : H) (v : V) (dd : D) : sopK P K d is t h (some (v, dd)) = Swp P K is (t.put d v) (h.app dd) := _root_.id rfl
def sguardK (P : Program) (K : Tm → H → Prop) (w : Bool) (d : Option Nat) (x : X) (is : List SI) (t : Tm) (h : H) (g : V) : Prop :=
  match g with
  | .bool b => if (b == w) = true then Swp P K (⟨d, none, x⟩ :: is) t h else Swp P K is (t.put d .undef) h
  | .tup [] => Swp P K is (t.put d .undef) h
  | _ => False
def scallK (P : Program) (K : Tm → H → Prop) (d : Option Nat) (is : List SI) (t : Tm) (h : H) (f : V) (args : List V) : Prop :=
  ∃ Q' : V → H → Prop, (∃ v h', Q' v h') ∧ callV P f args h Q' ∧ ∀ v h', Q' v h' → Swp P K is (t.put d v) h'
section
variable (K : Tm → H → Prop) (d : Option Nat) (x : X) (is : List SI) (t : Tm) (h : H)
@[simp] theorem Swp_nil : Swp P K [] t h = K t h := _root_.id rfl
@[simp] theorem sguardK_tt : sguardK P K true d x is t h (.bool true) = Swp P K (⟨d, none, x⟩ :: is) t h := by simp [sguardK]
@[simp] theorem sguardK_ff : sguardK P K false d x is t h (.bool false) = Swp P K (⟨d, none, x⟩ :: is) t h := by simp [sguardK]
@[simp] theorem sguardK_tf : sguardK P K false d x is t h (.bool true) = Swp P K is (t.put d .undef) h := by simp [sguardK]
@[simp] theorem sguardK_ft : sguardK P K true d x is t h (.bool false) = Swp P K is (t.put d .undef) h := by simp [sguardK]
@[simp] theorem sguardK_undef (w : Bool) : sguardK P K w d x is t h .undef = Swp P K is (t.put d .undef) h := _root_.id rfl
@[simp] theorem sguardK_undef' (w : Bool) : sguardK P K w d x is t h (.tup []) = Swp P K is (t.put d .undef) h := _root_.id rfl
@[simp] theorem Swp_op (i : I) : Swp P K (⟨d, none, .op i⟩ :: is) t h = sopK P K d is t h (exec i t h.get h.next) := by
  simp only [Swp, Sstep, guardV, sopK]
  split <;> rename_i e <;> simp only [e]
@[simp] theorem Swp_guard (g : Nat) (w : Bool) : Swp P K (⟨d, some (g, w), x⟩ :: is) t h = sguardK P K w d x is t h (t g) := by
  simp only [Swp, Sstep, guardV, sguardK]
  split
  · rename_i e
    split at e <;> first | (cases e; done) | skip
    rename_i _ h1 h2
    split
    · rename_i e'; exact absurd e' (h1 _)
    · rename_i e'; exact absurd e' h2
    · rfl
  · rename_i e
    split at e
    · rename_i b hb
      simp only [Option.some.injEq] at e
      rw [hb]
      simp [e]
    · rename_i hb; rw [hb]
    · cases e
  · rename_i e
    split at e
    · rename_i b hb
      simp only [Option.some.injEq] at e
      rw [hb]
      simp [e]
    · cases e
    · cases e
@[simp] theorem Swp_call (f : A) (args : List A) : Swp P K (⟨d, none, .call f args⟩ :: is) t h = scallK P K d is t h (f.ev t) (args.map (·.ev t)) := _root_.id rfl
end
theorem scall_of {K : Tm → H → Prop} {d : Option Nat} {is : List SI} {t : Tm} {h : H} {g : FuncId} {first cap args : List V} {v : V} {h' : H} (c : ∀ Q : V → H → Prop, Q v h' → Acalls P g (first ++ args ++ cap) h Q) (k : Swp P K is (t.put d v) h') : scallK P K d is t h (.func (.func g) first cap) args :=
  ⟨fun u h2 => u = v ∧ h2 = h', ⟨v, h', rfl, rfl⟩, c _ ⟨rfl, rfl⟩, by rintro u h2 ⟨rfl, rfl⟩; exact k⟩
def resK (r : Option (List V)) (h : H) (Q : V → H → Prop) : Prop :=
  match r with
  | some vs => Q (tupV vs) h
  | none => False
@[simp] theorem resK_some (vs : List V) (h : H) (Q : V → H → Prop) : resK (some vs) h Q = Q (tupV vs) h := _root_.id rfl
@[simp] theorem retPost_ret (rs : List RV) (R : V → H → Prop) (t : Tm) (h : H) : retPost rs R .ret t h = resK (resVs h.get t rs) h R := _root_.id rfl
@[simp] theorem retPost_normal (rs : List RV) (R : V → H → Prop) (t : Tm) (h : H) : retPost rs R .normal t h = resK (resVs h.get t rs) h R := _root_.id rfl
@[simp] theorem resVs_nil (g : Nat → Option O) (t : Tm) : resVs g t [] = some [] := _root_.id rfl
@[simp] theorem resVs_tmp (g : Nat → Option O) (t : Tm) (k : Nat) (rs : List RV) : resVs g t (.tmp k :: rs) = (resVs g t rs).map (t k :: ·) := by
  simp only [resVs, resV]; cases resVs g t rs <;> rfl
@[simp] theorem resVs_cell (g : Nat → Option O) (t : Tm) (k n : Nat) (a : Bool) (rs : List RV) : resVs g t (.cell k a n :: rs) = (loadV g a n (t k)).bind fun v => (resVs g t rs).map (v :: ·) := by
  simp only [resVs, resV]; cases loadV g a n (t k) with
  | none => rfl
  | some v => simp only [Option.bind_some]; cases resVs g t rs <;> rfl
@[simp] theorem tupV_nil : tupV [] = .tup [] := _root_.id rfl
@[simp] theorem tupV_one (v : V) : tupV [v] = v := _root_.id rfl
@[simp] theorem tupV_two (v u : V) (vs : List V) : tupV (v :: u :: vs) = .tup (v :: u :: vs) := _root_.id rfl

@[simp] theorem keepV_some' (v : V) : keepV (some v) = some (v, .keep) := _root_.id rfl
def faddrV (off : Nat) : V → Option V
  | .ptr i n o => some (.ptr i n (o + off))
  | .gp g o => some (.gp g (o + off))
  | _ => none
def fieldV (agg : Bool) (off n : Nat) : V → Option V
  | .agg cs => partV agg off n cs
  | _ => none
def extrV (i : Nat) : V → Option V
  | .tup vs => vs[i]?
  | _ => none
def cidV : V → Option V
  | .str s => some (.str s)
  | _ => none
def boxV (next : Nat) (v : V) : Option (V × D) := if v.solid then some (.ptr next v.cells.length 0, .push (.row v.cells)) else none
def mapD (d : Option D) : Option (V × D) := d.map fun d => (.undef, d)
section
variable (t : Nat → V) (g : Nat → Option O) (n : Nat)
@[simp] theorem exec_mov (x : A) : exec (.mov x) t g n = some (x.ev t, .keep) := _root_.id rfl
@[simp] theorem exec_pick (c a b : A) : exec (.pick c a b) t g n = keepV (pickV (c.ev t) (a.ev t) (b.ev t)) := _root_.id rfl
@[simp] theorem exec_alloc (z : List V) : exec (.alloc z) t g n = some (.ptr n z.length 0, .push (.row z)) := _root_.id rfl
@[simp] theorem exec_box (x : A) : exec (.box x) t g n = boxV n (x.ev t) := _root_.id rfl
@[simp] theorem exec_mkIface (ty : TypeId) (x : A) : exec (.mkIface ty x) t g n = some (.iface ty (x.ev t), .keep) := _root_.id rfl
@[simp] theorem exec_build (z : List V) (ps : List (Nat × Nat × A)) : exec (.build z ps) t g n = keepV ((fillV z (ps.map fun (o, n, x) => (o, n, x.ev t))).map .agg) := _root_.id rfl
@[simp] theorem exec_buildSlice (sz len : Nat) (z : List V) (ps : List (Nat × A)) : exec (.buildSlice sz len z ps) t g n = (fillV (repCells len z) (ps.map fun (k, x) => (k * sz, sz, x.ev t))).map fun cs => (.sl n (len * sz) 0 len (some len), .push (.row cs)) := _root_.id rfl
@[simp] theorem exec_load (a : Bool) (m : Nat) (x : A) : exec (.load a m x) t g n = keepV (loadV g a m (x.ev t)) := _root_.id rfl
@[simp] theorem exec_store (m : Nat) (a x : A) : exec (.store m a x) t g n = mapD (storeV g m (a.ev t) (x.ev t)) := _root_.id rfl
@[simp] theorem exec_nilchk (x : A) : exec (.nilchk x) t g n = keepV (nilchkV (x.ev t)) := _root_.id rfl
@[simp] theorem exec_bin (op : BinOp) (x y : A) : exec (.bin op x y) t g n = keepV (binV op (x.ev t) (y.ev t)) := _root_.id rfl
@[simp] theorem exec_eq (b : Bool) (ts : TS) (x y : A) : exec (.eq b ts x y) t g n = keepV ((eqV ts (x.ev t) (y.ev t)).map fun r => .bool (if b then !r else r)) := _root_.id rfl
@[simp] theorem exec_un (op : UnOp) (x : A) : exec (.un op x) t g n = keepV (unV op (x.ev t)) := _root_.id rfl
@[simp] theorem exec_convInt (k : IntKind) (x : A) : exec (.convInt k x) t g n = keepV ((intOfV (x.ev t)).map fun m => .int k (k.wrap m)) := _root_.id rfl
@[simp] theorem exec_convId (x : A) : exec (.convId x) t g n = keepV (cidV (x.ev t)) := by simp only [exec, cidV]; cases x.ev t <;> rfl
@[simp] theorem exec_strOf (x : A) : exec (.strOf x) t g n = keepV (strOfV g (x.ev t)) := _root_.id rfl
@[simp] theorem exec_fieldAddr (o : Nat) (x : A) : exec (.fieldAddr o x) t g n = keepV (faddrV o (x.ev t)) := by simp only [exec, faddrV]; cases x.ev t <;> rfl
@[simp] theorem exec_field (a : Bool) (o m : Nat) (x : A) : exec (.field a o m x) t g n = keepV (fieldV a o m (x.ev t)) := by simp only [exec, fieldV]; cases x.ev t <;> rfl
@[simp] theorem exec_indexAddr (s : Nat) (x i : A) : exec (.indexAddr s x i) t g n = keepV (indexAddrV s (x.ev t) (i.ev t)) := _root_.id rfl
@[simp] theorem exec_indexAddrArr (l s : Nat) (x i : A) : exec (.indexAddrArr l s x i) t g n = keepV (indexAddrArrV l s (x.ev t) (i.ev t)) := _root_.id rfl
@[simp] theorem exec_ext (e : StIn) (x y : A) : exec (.ext e x y) t g n = keepV (extV e (x.ev t) (y.ev t)) := _root_.id rfl
@[simp] theorem extV_index (s : List UInt8) (c : Int) : extV .indexByte (.str s) (.int .u8 c) = some (.int .i64 (Go.Lib.indexByte s c.toNat.toUInt8)) := _root_.id rfl
@[simp] theorem extV_count (s : List UInt8) (c : Int) : extV .count (.str s) (.int .u8 c) = some (.int .i64 (Go.Lib.countByte s c.toNat.toUInt8 : Nat)) := _root_.id rfl
@[simp] theorem extV_compare (s u : List UInt8) : extV .compare (.str s) (.str u) = some (.int .i64 (Go.Lib.compareBytes s u)) := _root_.id rfl
@[simp] theorem exec_pcall (k : Nat) (fn : List V → Option V) (args : List A) : exec (.pcall k fn args) t g n = keepV (fn (args.map (·.ev t))) := _root_.id rfl
@[simp] theorem exec_indexStr (x i : A) : exec (.indexStr x i) t g n = keepV (indexStrV (x.ev t) (i.ev t)) := _root_.id rfl
@[simp] theorem exec_indexArr (a : Bool) (l s : Nat) (x i : A) : exec (.indexArr a l s x i) t g n = keepV (indexArrV a l s (x.ev t) (i.ev t)) := _root_.id rfl
@[simp] theorem exec_sliceStr (x : A) (lo hi : Option A) : exec (.sliceStr x lo hi) t g n = keepV (sliceStrV (lo.map (·.ev t)) (hi.map (·.ev t)) (x.ev t)) := _root_.id rfl
@[simp] theorem exec_resl (s : Nat) (x hi : A) : exec (.resl s x hi) t g n = keepV ((sliceSlV s none (some (hi.ev t)) none (x.ev t)).or (roomV g s (hi.ev t) (x.ev t))) := _root_.id rfl
@[simp] theorem exec_sliceSl (s : Nat) (x : A) (lo hi mx : Option A) : exec (.sliceSl s x lo hi mx) t g n = keepV (sliceSlV s (lo.map (·.ev t)) (hi.map (·.ev t)) (mx.map (·.ev t)) (x.ev t)) := _root_.id rfl
@[simp] theorem exec_sliceArr (l s : Nat) (x : A) (lo hi mx : Option A) : exec (.sliceArr l s x lo hi mx) t g n = keepV (sliceArrV l s (lo.map (·.ev t)) (hi.map (·.ev t)) (mx.map (·.ev t)) (x.ev t)) := _root_.id rfl
@[simp] theorem exec_makeSlice (s b : Nat) (z : List V) (l c : A) : exec (.makeSlice s b z l c) t g n = makeSliceV n s b z (l.ev t) (c.ev t) := _root_.id rfl
@[simp] theorem exec_makeFunc (f : Fn) (a c : List A) : exec (.makeFunc f a c) t g n = some (.func f (a.map (·.ev t)) (c.map (·.ev t)), .keep) := _root_.id rfl
@[simp] theorem exec_extract (x : A) (i : Nat) : exec (.extract x i) t g n = keepV (extrV i (x.ev t)) := by simp only [exec, extrV]; cases x.ev t <;> rfl
@[simp] theorem exec_len (k : Nat) (x : A) : exec (.len k x) t g n = keepV (lenV k g (x.ev t)) := _root_.id rfl
@[simp] theorem exec_append (s b : Nat) (x y : A) : exec (.append s b x y) t g n = appendV g n s b (x.ev t) (y.ev t) := _root_.id rfl
@[simp] theorem exec_minmax (m : Bool) (x : A) (r : List A) : exec (.minmax m x r) t g n = keepV (minmaxV m (x.ev t) (r.map (·.ev t))) := _root_.id rfl
@[simp] theorem exec_makeMap : exec .makeMap t g n = some (.map n, .push (.mapo [] [] 0)) := _root_.id rfl
@[simp] theorem exec_lookup (kd : KD) (z : V) (ok : Bool) (x k : A) : exec (.lookup kd z ok x k) t g n = keepV (lookupV g kd z ok (x.ev t) (k.ev t)) := _root_.id rfl
@[simp] theorem exec_mapSet (kd : KD) (x k v : A) : exec (.mapSet kd x k v) t g n = mapD (mapSetV g kd (x.ev t) (k.ev t) (v.ev t)) := _root_.id rfl
@[simp] theorem exec_mapDel (kd : KD) (x k : A) : exec (.mapDel kd x k) t g n = mapD (mapDelV g kd (x.ev t) (k.ev t)) := _root_.id rfl
@[simp] theorem exec_copy (s : Nat) (d x : A) : exec (.copy s d x) t g n = copyV g s (d.ev t) (x.ev t) := _root_.id rfl
@[simp] theorem exec_clearSl (s : Nat) (z : List V) (x : A) : exec (.clearSl s z x) t g n = mapD (clearSlV g z (x.ev t)) := _root_.id rfl
@[simp] theorem exec_clearMap (x : A) : exec (.clearMap x) t g n = mapD (clearMapV g (x.ev t)) := _root_.id rfl
end
@[simp] theorem mapD_some (d : D) : mapD (some d) = some (.undef, d) := _root_.id rfl
@[simp] theorem app_keep (h : H) : h.app .keep = h := _root_.id rfl
@[simp] theorem app_set (h : H) (i : Nat) (o : O) : h.app (.set i o) = h.set i o := _root_.id rfl
@[simp] theorem app_push (h : H) (o : O) : h.app (.push o) = h.push o := _root_.id rfl
@[simp] theorem faddrV_gp (off g o : Nat) : faddrV off (.gp g o) = some (.gp g (o + off)) := _root_.id rfl
@[simp] theorem faddrV_ptr (off i n o : Nat) : faddrV off (.ptr i n o) = some (.ptr i n (o + off)) := _root_.id rfl
@[simp] theorem fieldV_agg (a : Bool) (o n : Nat) (cs : List V) : fieldV a o n (.agg cs) = partV a o n cs := _root_.id rfl
@[simp] theorem partV_true (o n : Nat) (cs : List V) : partV true o n cs = some (.agg ((cs.drop o).take n)) := _root_.id rfl
@[simp] theorem partV_false (o n : Nat) (cs : List V) : partV false o n cs = cs[o]? := _root_.id rfl
@[simp] theorem extrV_tup (i : Nat) (vs : List V) : extrV i (.tup vs) = vs[i]? := _root_.id rfl
@[simp] theorem cidV_str (s : List UInt8) : cidV (.str s) = some (.str s) := _root_.id rfl
@[simp] theorem boxV_agg (n : Nat) (cs : List V) : boxV n (.agg cs) = if cs.all V.one then some (.ptr n cs.length 0, .push (.row cs)) else none := _root_.id rfl
@[simp] theorem boxV_int (n : Nat) (k : IntKind) (x : Int) : boxV n (.int k x) = some (.ptr n 1 0, .push (.row [.int k x])) := _root_.id rfl
@[simp] theorem boxV_str (n : Nat) (s : List UInt8) : boxV n (.str s) = some (.ptr n 1 0, .push (.row [.str s])) := _root_.id rfl
@[simp] theorem boxV_bool (n : Nat) (b : Bool) : boxV n (.bool b) = some (.ptr n 1 0, .push (.row [.bool b])) := _root_.id rfl
@[simp] theorem pickV_true (a b : V) : pickV (.bool true) a b = some a := _root_.id rfl
@[simp] theorem pickV_false (a b : V) : pickV (.bool false) a b = some b := _root_.id rfl
@[simp] theorem pickV_and (c d : Bool) : pickV (.bool c) (.bool d) (.bool false) = some (.bool (c && d)) := by cases c <;> rfl
@[simp] theorem pickV_or (c d : Bool) : pickV (.bool c) (.bool true) (.bool d) = some (.bool (c || d)) := by cases c <;> rfl
@[simp] theorem nilchkV_ptr (i n o : Nat) : nilchkV (.ptr i n o) = some (.ptr i n o) := _root_.id rfl
@[simp] theorem nilchkV_gp (g o : Nat) : nilchkV (.gp g o) = some (.gp g o) := _root_.id rfl
@[simp] theorem nilchkV_func (f : FuncId) (a b : List V) : nilchkV (.func (.func f) a b) = some (.func (.func f) a b) := _root_.id rfl
@[simp] theorem intOfV_int (k : IntKind) (n : Int) : intOfV (.int k n) = some n := _root_.id rfl
@[simp] theorem binV_str (op : BinOp) (a b : List UInt8) : binV op (.str a) (.str b) = strV op a b := _root_.id rfl
@[simp] theorem binV_int (op : BinOp) (k k' : IntKind) (a b : Int) : binV op (.int k a) (.int k' b) = if isShift op then shiftV op k a b else if k = k' then intV op k a b else none := _root_.id rfl
attribute [simp] isShift
@[simp] theorem strV_add (x y : List UInt8) : strV .add x y = if x.length + y.length ≤ 9223372036854775807 then some (.str (x ++ y)) else none := _root_.id rfl
@[simp] theorem strV_eql (x y : List UInt8) : strV .eql x y = some (.bool (x == y)) := _root_.id rfl
@[simp] theorem strV_neq (x y : List UInt8) : strV .neq x y = some (.bool (!(x == y))) := _root_.id rfl
@[simp] theorem strV_lss (x y : List UInt8) : strV .lss x y = some (.bool (Op.bytesLess x y)) := _root_.id rfl
@[simp] theorem unV_not (b : Bool) : unV .not (.bool b) = some (.bool (!b)) := _root_.id rfl
@[simp] theorem unV_neg (k : IntKind) (n : Int) : unV .neg (.int k n) = some (.int k (k.wrap (0 - n))) := _root_.id rfl
@[simp] theorem fillV_nil (cs : List V) : fillV cs [] = some cs := _root_.id rfl
@[simp] theorem fillV_cons (cs : List V) (o n : Nat) (v : V) (r : List (Nat × Nat × V)) : fillV cs ((o, n, v) :: r) = if v.solid && v.cells.length == n && decide (o + n ≤ cs.length) then fillV (putCells cs o v.cells) r else none := _root_.id rfl
@[simp] theorem solid_one (k : IntKind) (n : Int) : (V.int k n).solid = true := _root_.id rfl
@[simp] theorem solid_bool (b : Bool) : (V.bool b).solid = true := _root_.id rfl
@[simp] theorem solid_str (s : List UInt8) : (V.str s).solid = true := _root_.id rfl
@[simp] theorem solid_nilsl : V.nilsl.solid = true := _root_.id rfl
@[simp] theorem solid_agg (cs : List V) : (V.agg cs).solid = cs.all V.one := _root_.id rfl
@[simp] theorem cells_agg (cs : List V) : (V.agg cs).cells = cs := _root_.id rfl
@[simp] theorem cells_int (k : IntKind) (n : Int) : (V.int k n).cells = [.int k n] := _root_.id rfl
@[simp] theorem cells_bool (b : Bool) : (V.bool b).cells = [.bool b] := _root_.id rfl
@[simp] theorem cells_str (s : List UInt8) : (V.str s).cells = [.str s] := _root_.id rfl
@[simp] theorem cells_nilsl : V.nilsl.cells = [.nilsl] := _root_.id rfl
@[simp] theorem cells_sl (i n o l : Nat) (c : Option Nat) : (V.sl i n o l c).cells = [.sl i n o l c] := _root_.id rfl
@[simp] theorem one_int (k : IntKind) (n : Int) : (V.int k n).one = true := _root_.id rfl
@[simp] theorem one_bool (b : Bool) : (V.bool b).one = true := _root_.id rfl
@[simp] theorem one_str (s : List UInt8) : (V.str s).one = true := _root_.id rfl
@[simp] theorem one_nilsl : V.nilsl.one = true := _root_.id rfl
@[simp] theorem one_slz : V.slz.one = true := _root_.id rfl
@[simp] theorem one_sl (i n o l : Nat) (c : Option Nat) : (V.sl i n o l c).one = true := _root_.id rfl
@[simp] theorem one_ptr (i n o : Nat) : (V.ptr i n o).one = true := _root_.id rfl
theorem cells_of_one {v : V} (h : v.one = true) : v.cells = [v] := by cases v <;> first | rfl | cases h
theorem solid_of_one {v : V} (h : v.one = true) : v.solid = true := by cases v <;> first | rfl | cases h
@[simp] theorem loadV_ptr (g : Nat → Option O) (a : Bool) (n i m o : Nat) : loadV g a n (.ptr i m o) = (cellsAt g i m).bind fun cs => if a then (if o + n ≤ cs.length then some (.agg ((cs.drop o).take n)) else none) else cs[o]? := by
  simp only [loadV]; cases cellsAt g i m <;> rfl
@[simp] theorem loadV_gp (g : Nat → Option O) (a : Bool) (n b o : Nat) : loadV g a n (.gp b o) = (GT.lookup b).bind fun cs => if a then (if o + n ≤ cs.length then some (.agg ((cs.drop o).take n)) else none) else cs[o]? := by
  simp only [loadV]; cases GT.lookup b <;> rfl
@[simp] theorem storeV_ptr (g : Nat → Option O) (n i m o : Nat) (x : V) : storeV g n (.ptr i m o) x = if x.solid && x.cells.length == n then (g i).bind fun ob => if ob.len = m then (ob.put o x.cells).map (D.set i) else none else none := by
  simp only [storeV]; cases g i <;> rfl
@[simp] theorem put_row (cs xs : List V) (o : Nat) : (O.row cs).put o xs = if o + xs.length ≤ cs.length then some (.row (putCells cs o xs)) else none := _root_.id rfl
@[simp] theorem put_grow (s : Nat) (cs xs : List V) (o : Nat) : (O.grow s cs).put o xs = if o + xs.length ≤ cs.length then some (.grow s (putCells cs o xs)) else none := _root_.id rfl
@[simp] theorem len_row (cs : List V) : (O.row cs).len = cs.length := _root_.id rfl
@[simp] theorem len_grow (s : Nat) (cs : List V) : (O.grow s cs).len = cs.length := _root_.id rfl
@[simp] theorem len_ro (cs : List V) : (O.ro cs).len = cs.length := _root_.id rfl
@[simp] theorem cells_row (cs : List V) : (O.row cs).cells = cs := _root_.id rfl
@[simp] theorem cells_grow (s : Nat) (cs : List V) : (O.grow s cs).cells = cs := _root_.id rfl
@[simp] theorem cells_ro (cs : List V) : (O.ro cs).cells = cs := _root_.id rfl
theorem cellsAt_of {g : Nat → Option O} {i n : Nat} {o : O} (h : g i = some o) (hn : o.len = n) : cellsAt g i n = some o.cells := by simp [cellsAt, h, hn]
@[simp] theorem get_push_same (h : H) (o : O) : (h.push o).get h.next = some o := by simp [H.get_push]
@[simp] theorem get_set_same (h : H) (i : Nat) (o : O) : (h.set i o).get i = some o := by simp [H.get_set]
@[simp] theorem indexAddrV_sl (s i n o l : Nat) (c : Option Nat) (k : IntKind) (m : Int) : indexAddrV s (.sl i n o l c) (.int k m) = if 0 ≤ m ∧ m < l then some (.ptr i n (o + m.toNat * s)) else none := _root_.id rfl
@[simp] theorem indexAddrArrV_ptr (l s i n o : Nat) (k : IntKind) (m : Int) : indexAddrArrV l s (.ptr i n o) (.int k m) = if 0 ≤ m ∧ m < l then some (.ptr i n (o + m.toNat * s)) else none := _root_.id rfl
@[simp] theorem indexAddrArrV_gp (l s g o : Nat) (k : IntKind) (m : Int) : indexAddrArrV l s (.gp g o) (.int k m) = if 0 ≤ m ∧ m < l then some (.gp g (o + m.toNat * s)) else none := _root_.id rfl
@[simp] theorem indexStrV_str (s : List UInt8) (k : IntKind) (m : Int) : indexStrV (.str s) (.int k m) = if 0 ≤ m then (s[m.toNat]?).map fun b => .int .u8 b.toNat else none := _root_.id rfl
@[simp] theorem indexArrV_agg (a : Bool) (l s : Nat) (cs : List V) (k : IntKind) (m : Int) : indexArrV a l s (.agg cs) (.int k m) = if 0 ≤ m ∧ m < l then partV a (m.toNat * s) s cs else none := _root_.id rfl
@[simp] theorem lenV_str (g : Nat → Option O) (s : List UInt8) : lenV 0 g (.str s) = some (.int .i64 s.length) := _root_.id rfl
@[simp] theorem lenV_sl (g : Nat → Option O) (i n o l : Nat) (c : Option Nat) : lenV 1 g (.sl i n o l c) = some (.int .i64 l) := _root_.id rfl
@[simp] theorem lenV_nilsl (g : Nat → Option O) : lenV 1 g .nilsl = some (.int .i64 0) := _root_.id rfl
@[simp] theorem lenV_slz (g : Nat → Option O) : lenV 1 g .slz = some (.int .i64 0) := _root_.id rfl
@[simp] theorem strOfV_sl (g : Nat → Option O) (i n o l : Nat) (c : Option Nat) : strOfV g (.sl i n o l c) = (elemsV g 1 (.sl i n o l c)).bind fun p => (p.2.mapM u8Of).map .str := by
  simp only [strOfV]; cases elemsV g 1 (.sl i n o l c) <;> rfl
@[simp] theorem boundV_none (d y : Nat) : boundV d y none = some d := _root_.id rfl
@[simp] theorem boundV_some (d y : Nat) (k : IntKind) (n : Int) : boundV d y (some (.int k n)) = if 0 ≤ n ∧ n ≤ (y : Int) then some n.toNat else none := _root_.id rfl
@[simp] theorem sliceStrV_str (lo hi : Option V) (s : List UInt8) : sliceStrV lo hi (.str s) = (boundV s.length s.length hi).bind fun h => (boundV 0 h lo).bind fun l => some (.str ((s.take h).drop l)) := by
  simp only [sliceStrV]; cases boundV s.length s.length hi with
  | none => rfl
  | some h => simp only [Option.bind_some]; cases boundV 0 h lo <;> rfl
@[simp] theorem minmaxV_min (k k' : IntKind) (x y : Int) : minmaxV false (.int k x) [.int k' y] = if k = k' then some (.int k (if y < x then y else x)) else none := by simp [minmaxV]
@[simp] theorem minmaxV_max (k k' : IntKind) (x y : Int) : minmaxV true (.int k x) [.int k' y] = if k = k' then some (.int k (if x < y then y else x)) else none := by simp [minmaxV]
@[simp] theorem intV_add (k : IntKind) (x y : Int) : intV .add k x y = some (.int k (k.wrap (x + y))) := _root_.id rfl
@[simp] theorem intV_sub (k : IntKind) (x y : Int) : intV .sub k x y = some (.int k (k.wrap (x - y))) := _root_.id rfl
@[simp] theorem intV_mul (k : IntKind) (x y : Int) : intV .mul k x y = some (.int k (k.wrap (x * y))) := _root_.id rfl
@[simp] theorem intV_eql (k : IntKind) (x y : Int) : intV .eql k x y = some (.bool (x == y)) := _root_.id rfl
@[simp] theorem intV_neq (k : IntKind) (x y : Int) : intV .neq k x y = some (.bool (x != y)) := _root_.id rfl
@[simp] theorem intV_lss (k : IntKind) (x y : Int) : intV .lss k x y = some (.bool (decide (x < y))) := _root_.id rfl
@[simp] theorem intV_leq (k : IntKind) (x y : Int) : intV .leq k x y = some (.bool (decide (x ≤ y))) := _root_.id rfl
@[simp] theorem intV_gtr (k : IntKind) (x y : Int) : intV .gtr k x y = some (.bool (decide (y < x))) := _root_.id rfl
@[simp] theorem intV_geq (k : IntKind) (x y : Int) : intV .geq k x y = some (.bool (decide (y ≤ x))) := _root_.id rfl
@[simp] theorem shiftV_shr (k : IntKind) (x y : Int) (hy : 0 ≤ y) : shiftV .shr k x y = some (.int k (x.fdiv (2 ^ min y.toNat k.bits))) := by
  unfold shiftV; rw [if_neg (by omega)]
@[simp] theorem shiftV_shl (k : IntKind) (x y : Int) (hy : 0 ≤ y) : shiftV .shl k x y = some (.int k (k.wrap (x * 2 ^ min y.toNat k.bits))) := by
  unfold shiftV; rw [if_neg (by omega)]
theorem wrap_i64_id {n : Int} (h1 : -9223372036854775808 ≤ n) (h2 : n ≤ 9223372036854775807) : IntKind.i64.wrap n = n := by
  rw [IntKind.wrap_i64]; omega
end Go.Am
