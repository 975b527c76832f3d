/-
  AM, PART 12. The walk: rules for simp, and what simp must leave alone.
-/
import Derived.Test.YtapokdcbhpdceaaAm11
namespace Go.Am

/-! ### Slots -/
@[simp] theorem Tm.put_some (t : Tm) (d k : Nat) (v : V) : (t.put (some d) v) k = if k = d then v else t k := rfl
@[simp] theorem Tm.put_none (t : Tm) (v : V) : t.put none v = t := rfl
@[simp] theorem enterT_apply (args : List V) (k : Nat) : enterT args k = (args[k]?).getD .undef := rfl
@[simp] theorem A.ev_t (t : Nat → V) (i : Nat) : A.ev t (.t i) = t i := rfl
@[simp] theorem A.ev_c (t : Nat → V) (v : V) : A.ev t (.c v) = v := rfl

/-! ### One operation -/
/-- What follows an operation, or a test: simp looks at its first argument alone. -/
def execK (r : Option (V × D)) (f : V → D → Prop) : Prop :=
  match r with
  | some (v, d) => f v d
  | none => False
@[congr] theorem execK_congr {r r' : Option (V × D)} {f : V → D → Prop} (e : r = r') : execK r f = execK r' f := by rw [e]
@[simp] theorem execK_some (v : V) (d : D) (f : V → D → Prop) : execK (some (v, d)) f = f v d := rfl
def guardK (g : V) (w : Bool) (a b : Prop) : Prop :=
  match g with
  | .bool x => if (x == w) = true then a else b
  | .tup [] => b
  | _ => False
@[congr] theorem guardK_congr {g g' : V} {w : Bool} {a b : Prop} (e : g = g') : guardK g w a b = guardK g' w a b := by rw [e]
@[simp] theorem guardK_tt (a b : Prop) : guardK (.bool true) true a b = a := by simp [guardK]
@[simp] theorem guardK_ff (a b : Prop) : guardK (.bool false) false a b = a := by simp [guardK]
@[simp] theorem guardK_tf (a b : Prop) : guardK (.bool true) false a b = b := by simp [guardK]
@[simp] theorem guardK_ft (a b : Prop) : guardK (.bool false) true a b = b := by simp [guardK]
@[simp] theorem guardK_undef (w : Bool) (a b : Prop) : guardK .undef w a b = b := rfl
@[simp] theorem guardK_undef' (w : Bool) (a b : Prop) : guardK (.tup []) w a b = b := rfl

variable {P : Program} {K : Tm → H → Prop}

@[congr] theorem Owp_congr {l : List SI} {t t' : Tm} {h h' : H} (et : t = t') (eh : h = h') : Owp P K l t h = Owp P K l t' h' := by rw [et, eh]
@[simp] theorem Owp_nil (t : Tm) (h : H) : Owp P K [] t h = K t h := rfl
@[simp] theorem Owp_op (d : Option Nat) (i : I) (is : List SI) (t : Tm) (h : H) : Owp P K (⟨d, none, .op i⟩ :: is) t h = execK (exec i t h.get h.next) fun v dd => Owp P K is (t.put d v) (h.app dd) := by
  simp only [Owp, guardV, execK]
  split <;> rename_i e <;> simp only [e]
@[simp] theorem Owp_guard (d : Option Nat) (g : Nat) (w : Bool) (x : X) (is : List SI) (t : Tm) (h : H) : Owp P K (⟨d, some (g, w), x⟩ :: is) t h = guardK (t g) w (Owp P K (⟨d, none, x⟩ :: is) t h) (Owp P K is (t.put d .undef) h) := by
  simp only [Owp, guardV, guardK]
  split
  · rename_i e
    split at e <;> first | (cases e; done) | skip
    rename_i _ h1 h2
    split
    · rename_i e'; exact absurd e' (h1 _)
    · rename_i e'; exact absurd e' h2
    · rfl
  · rename_i e
    split at e
    · rename_i b hb
      simp only [Option.some.injEq] at e
      rw [hb]
      simp [e]
    · rename_i hb; rw [hb]
    · cases e
  · rename_i e
    split at e
    · rename_i b hb
      simp only [Option.some.injEq] at e
      rw [hb]
      simp [e]
    · cases e
    · cases e
/-- A call: simp looks at the function, the arguments, the heap; not at what follows. -/
def callK (P : Program) (f : V) (args : List V) (h : H) (Q : V → H → Prop) : Prop := callV P f args h Q
@[congr] theorem callK_congr {f f' : V} {args args' : List V} {h h' : H} {Q : V → H → Prop} (e1 : f = f') (e2 : args = args') (e3 : h = h') : callK P f args h Q = callK P f' args' h' Q := by rw [e1, e2, e3]
@[congr] theorem Acalls_congr {f : FuncId} {args args' : List V} {h h' : H} {Q : V → H → Prop} (e2 : args = args') (e3 : h = h') : Acalls P f args h Q = Acalls P f args' h' Q := by rw [e2, e3]
@[simp] theorem callK_func (g : FuncId) (first cap args : List V) (h : H) (Q : V → H → Prop) : callK P (.func (.func g) first cap) args h Q = Acalls P g (first ++ args ++ cap) h Q := rfl
@[simp] theorem Owp_call (d : Option Nat) (f : A) (args : List A) (is : List SI) (t : Tm) (h : H) : Owp P K (⟨d, none, .call f args⟩ :: is) t h = callK P (f.ev t) (args.map (·.ev t)) h fun v h' => Owp P K is (t.put d v) h' := rfl

/-! ### Code -/
variable {Q : Exit → Tm → H → Prop}
@[congr] theorem Cwp_congr {c : C} {t t' : Tm} {h h' : H} (et : t = t') (eh : h = h') : Cwp P c Q t h = Cwp P c Q t' h' := by rw [et, eh]
@[congr] theorem thenA_congr {next : Tm → H → Prop} {e : Exit} {t t' : Tm} {h h' : H} (et : t = t') (eh : h = h') : thenA next Q e t h = thenA next Q e t' h' := by rw [et, eh]
@[congr] theorem blockA_congr {id : Nat} {e : Exit} {t t' : Tm} {h h' : H} (et : t = t') (eh : h = h') : blockA id Q e t h = blockA id Q e t' h' := by rw [et, eh]
@[congr] theorem condA_congr {c c' : V} {a b : Prop} (e : c = c') : condA c a b = condA c' a b := by rw [e]
@[congr] theorem loopA_congr {body : (Exit → Tm → H → Prop) → Tm → H → Prop} {t t' : Tm} {h h' : H} (et : t = t') (eh : h = h') : loopA body Q t h = loopA body Q t' h' := by rw [et, eh]
@[simp] theorem Cwp_skip (t : Tm) (h : H) : Cwp P .skip Q t h = Q .normal t h := rfl
@[simp] theorem Cwp_reg (ops : List SI) (t : Tm) (h : H) : Cwp P (.reg ops) Q t h = Owp P (Q .normal) ops t h := rfl
@[simp] theorem Cwp_seq (a b : C) (t : Tm) (h : H) : Cwp P (.seq a b) Q t h = Cwp P a (thenA (Cwp P b Q) Q) t h := rfl
@[simp] theorem Cwp_cond (c : A) (a b : C) (t : Tm) (h : H) : Cwp P (.cond c a b) Q t h = condA (c.ev t) (Cwp P a Q t h) (Cwp P b Q t h) := rfl
@[simp] theorem Cwp_block (id : Nat) (b : C) (t : Tm) (h : H) : Cwp P (.block id b) Q t h = Cwp P b (blockA id Q) t h := rfl
@[simp] theorem Cwp_loop (b : C) (t : Tm) (h : H) : Cwp P (.loop b) Q t h = loopA (Cwp P b) Q t h := rfl
@[simp] theorem Cwp_exit (id : Nat) (t : Tm) (h : H) : Cwp P (.exit id) Q t h = Q (.exit id) t h := rfl
@[simp] theorem Cwp_ret (t : Tm) (h : H) : Cwp P .ret Q t h = Q .ret t h := rfl
@[simp] theorem condA_true (a b : Prop) : condA (.bool true) a b = a := by simp [condA]
@[simp] theorem condA_false (a b : Prop) : condA (.bool false) a b = b := by simp [condA]
@[simp] theorem thenA_normal (next : Tm → H → Prop) (t : Tm) (h : H) : thenA next Q .normal t h = next t h := rfl
@[simp] theorem thenA_ret (next : Tm → H → Prop) (t : Tm) (h : H) : thenA next Q .ret t h = Q .ret t h := rfl
@[simp] theorem thenA_exit (next : Tm → H → Prop) (i : Nat) (t : Tm) (h : H) : thenA next Q (.exit i) t h = Q (.exit i) t h := rfl
@[simp] theorem blockA_normal (id : Nat) (t : Tm) (h : H) : blockA id Q .normal t h = Q .normal t h := rfl
@[simp] theorem blockA_ret (id : Nat) (t : Tm) (h : H) : blockA id Q .ret t h = Q .ret t h := rfl
@[simp] theorem blockA_exit (id i : Nat) (t : Tm) (h : H) : blockA id Q (.exit i) t h = if i = id then Q .normal t h else Q (.exit i) t h := rfl
/-- The end of a function. -/
def resK (r : Option (List V)) (h : H) (Q : V → H → Prop) : Prop :=
  match r with
  | some vs => Q (tupV vs) h
  | none => False
@[congr] theorem resK_congr {r r' : Option (List V)} {h h' : H} {Q : V → H → Prop} (e : r = r') (eh : h = h') : resK r h Q = resK r' h' Q := by rw [e, eh]
@[simp] theorem resK_some (vs : List V) (h : H) (Q : V → H → Prop) : resK (some vs) h Q = Q (tupV vs) h := rfl
@[congr] theorem retPost_congr {rs : List RV} {R : V → H → Prop} {e : Exit} {t t' : Tm} {h h' : H} (et : t = t') (eh : h = h') : retPost rs R e t h = retPost rs R e t' h' := by rw [et, eh]
@[simp] theorem retPost_ret (rs : List RV) (R : V → H → Prop) (t : Tm) (h : H) : retPost rs R .ret t h = resK (resVs h.get t rs) h R := rfl
@[simp] theorem retPost_normal (rs : List RV) (R : V → H → Prop) (t : Tm) (h : H) : retPost rs R .normal t h = resK (resVs h.get t rs) h R := rfl
attribute [simp] resVs resV tupV

/-! ### What operations do -/
@[simp] theorem keepV_some' (v : V) : keepV (some v) = some (v, .keep) := rfl
attribute [simp] exec H.app binV isShift strV unV nilchkV intOfV pickV fillV loadV storeV indexAddrV indexAddrArrV indexStrV indexArrV lenV partV
@[simp] theorem intV_add (k : IntKind) (x y : Int) : intV .add k x y = some (.int k (k.wrap (x + y))) := rfl
@[simp] theorem intV_sub (k : IntKind) (x y : Int) : intV .sub k x y = some (.int k (k.wrap (x - y))) := rfl
@[simp] theorem intV_mul (k : IntKind) (x y : Int) : intV .mul k x y = some (.int k (k.wrap (x * y))) := rfl
@[simp] theorem intV_eql (k : IntKind) (x y : Int) : intV .eql k x y = some (.bool (x == y)) := rfl
@[simp] theorem intV_neq (k : IntKind) (x y : Int) : intV .neq k x y = some (.bool (x != y)) := rfl
@[simp] theorem intV_lss (k : IntKind) (x y : Int) : intV .lss k x y = some (.bool (decide (x < y))) := rfl
@[simp] theorem intV_leq (k : IntKind) (x y : Int) : intV .leq k x y = some (.bool (decide (x ≤ y))) := rfl
@[simp] theorem intV_gtr (k : IntKind) (x y : Int) : intV .gtr k x y = some (.bool (decide (y < x))) := rfl
@[simp] theorem intV_geq (k : IntKind) (x y : Int) : intV .geq k x y = some (.bool (decide (y ≤ x))) := rfl
@[simp] theorem shiftV_shr (k : IntKind) (x y : Int) (hy : 0 ≤ y) : shiftV .shr k x y = some (.int k (x.fdiv (2 ^ min y.toNat k.bits))) := by
  unfold shiftV; rw [if_neg (by omega)]
@[simp] theorem shiftV_shl (k : IntKind) (x y : Int) (hy : 0 ≤ y) : shiftV .shl k x y = some (.int k (k.wrap (x * 2 ^ min y.toNat k.bits))) := by
  unfold shiftV; rw [if_neg (by omega)]
theorem wrap_i64_id {n : Int} (h1 : -9223372036854775808 ≤ n) (h2 : n ≤ 9223372036854775807) : IntKind.i64.wrap n = n := by
  rw [IntKind.wrap_i64]; omega
end Go.Am
