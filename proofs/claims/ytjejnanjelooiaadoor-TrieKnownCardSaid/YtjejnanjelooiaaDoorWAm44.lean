/-
  AM, PART 44. The walk of a function with ranges by simp; its pieces, to be printed.
-/
import Derived.Test.YtjejnanjelooiaaDoorWAm43
import Derived.Test.YtjejnanjelooiaaDoorWAm19
namespace Go.Am

/-- The first range over a function in a code: its rounds' assignment and body. -/
def firstRange : Code → Option (Array Tmp × Code × Code)
  | .seq a b => (firstRange a).or (firstRange b)
  | .cond _ a b => (firstRange a).or (firstRange b)
  | .block _ b => firstRange b
  | .loop b => firstRange b
  | .scope b => firstRange b
  | .rangeFunc _ ps a b => some (ps, a, b)
  | _ => none
def rangeAs (fn : Func) : Code := match fn.body with
  | some b => match firstRange b with
    | some x => x.2.1
    | none => .skip
  | none => .skip
def rangeBd (fn : Func) : Code := match fn.body with
  | some b => match firstRange b with
    | some x => x.2.2
    | none => .skip
  | none => .skip
variable {P : Program} {N : Nat} (Q : Exit → List Nat → Tm → H → Prop)
@[simp] theorem Rwp_c (c : C) (ms : List Nat) (t : Tm) (h : H) : Rwp P N (.c c) Q ms t h = Cwp P c (fun e t h => (∀ m ∈ ms, h.get m = some (.defo true)) ∧ Q e ms t h) t h := _root_.id rfl
@[simp] theorem Rwp_seq (a b : R) (ms : List Nat) (t : Tm) (h : H) : Rwp P N (.seq a b) Q ms t h = Rwp P N a (thenR (Rwp P N b Q) Q) ms t h := _root_.id rfl
@[simp] theorem Rwp_block (id : Nat) (b : R) (ms : List Nat) (t : Tm) (h : H) : Rwp P N (.block id b) Q ms t h = Rwp P N b (blockR id Q) ms t h := _root_.id rfl
/-- What a truth value decides. -/
def condRK (P : Program) (N : Nat) (Q : Exit → List Nat → Tm → H → Prop) (a b : R) (ms : List Nat) (t : Tm) (h : H) (c : V) : Prop := condA c (Rwp P N a Q ms t h) (Rwp P N b Q ms t h)
@[simp] theorem Rwp_cond (c : A) (a b : R) (ms : List Nat) (t : Tm) (h : H) : Rwp P N (.cond c a b) Q ms t h = condRK P N Q a b ms t h (c.ev t) := _root_.id rfl
@[simp] theorem condRK_true (a b : R) (ms : List Nat) (t : Tm) (h : H) : condRK P N Q a b ms t h (.bool true) = Rwp P N a Q ms t h := by simp [condRK, condA]
@[simp] theorem condRK_false (a b : R) (ms : List Nat) (t : Tm) (h : H) : condRK P N Q a b ms t h (.bool false) = Rwp P N b Q ms t h := by simp [condRK, condA]
/-- A range, its iterator known. -/
def rforK (P : Program) (N : Nat) (Q : Exit → List Nat → Tm → H → Prop) (ps : Array Tmp) (a b : Code) (ms : List Nat) (t : Tm) (h : H) (g : V) : Prop :=
  ∃ f first cap, g = .func (.func f) first cap ∧
      Acalls P f (first ++ [.yl (h.next + 1)] ++ cap) (loopH N t ps a b h) fun _ h2 => (∀ m ∈ h.next :: ms, h2.get m = some (.defo true)) ∧
        ∃ r, h2.get (h.next + 1) = some (.loopo r) ∧ r.st ≠ .busy ∧ jumpA Q (h.next :: ms) t (h2.set (h.next + 1) (.loopo { r with st := .exhausted, pending := r.pending })) r.pending
@[simp] theorem Rwp_rfor (g : A) (ps : Array Tmp) (a b : Code) (ms : List Nat) (t : Tm) (h : H) : Rwp P N (.rfor g ps a b) Q ms t h = rforK P N Q ps a b ms t h (g.ev t) := _root_.id rfl
theorem rfor_of {ps : Array Tmp} {a b : Code} {ms : List Nat} {t : Tm} {h : H} {f : FuncId} {first cap : List V}
    (c : Acalls P f (first ++ [.yl (h.next + 1)] ++ cap) (loopH N t ps a b h) fun _ h2 => (∀ m ∈ h.next :: ms, h2.get m = some (.defo true)) ∧
        ∃ r, h2.get (h.next + 1) = some (.loopo r) ∧ r.st ≠ .busy ∧ jumpA Q (h.next :: ms) t (h2.set (h.next + 1) (.loopo { r with st := .exhausted, pending := r.pending })) r.pending) :
    rforK P N Q ps a b ms t h (.func (.func f) first cap) := ⟨f, first, cap, rfl, c⟩
variable (next : List Nat → Tm → H → Prop)
@[simp] theorem thenR_normal (ms : List Nat) (t : Tm) (h : H) : thenR next Q .normal ms t h = next ms t h := _root_.id rfl
@[simp] theorem thenR_ret (ms : List Nat) (t : Tm) (h : H) : thenR next Q .ret ms t h = Q .ret ms t h := _root_.id rfl
@[simp] theorem thenR_exit (i : Nat) (ms : List Nat) (t : Tm) (h : H) : thenR next Q (.exit i) ms t h = Q (.exit i) ms t h := _root_.id rfl
@[simp] theorem blockR_normal (id : Nat) (ms : List Nat) (t : Tm) (h : H) : blockR id Q .normal ms t h = Q .normal ms t h := _root_.id rfl
@[simp] theorem blockR_ret (id : Nat) (ms : List Nat) (t : Tm) (h : H) : blockR id Q .ret ms t h = Q .ret ms t h := _root_.id rfl
@[simp] theorem blockR_exit (id i : Nat) (ms : List Nat) (t : Tm) (h : H) : blockR id Q (.exit i) ms t h = if i = id then Q .normal ms t h else Q (.exit i) ms t h := _root_.id rfl
@[simp] theorem retPostR_ret (rs : List RV) (R : V → H → Prop) (ms : List Nat) (t : Tm) (h : H) : retPostR rs R .ret ms t h = resK (resVs (shut ms h).get t rs) (shut ms h) R := _root_.id rfl
@[simp] theorem retPostR_normal (rs : List RV) (R : V → H → Prop) (ms : List Nat) (t : Tm) (h : H) : retPostR rs R .normal ms t h = resK (resVs (shut ms h).get t rs) (shut ms h) R := _root_.id rfl
@[simp] theorem jumpA_none (ms : List Nat) (t : Tm) (h : H) : jumpA Q ms t h none = Q .normal ms t h := _root_.id rfl
@[simp] theorem shut_nil (h : H) : shut [] h = h := _root_.id rfl
@[simp] theorem shut_cons (m : Nat) (ms : List Nat) (h : H) : shut (m :: ms) h = shut ms (h.set m (.defo false)) := _root_.id rfl

theorem acalls_range_to {f : FuncId} {fn : Func} {sf : SFR} (hf : P.funcs[f]? = some fn) (hc : compileFR P fn = some sf) (hen : enterable P f = true) {args : List V} {h : H} {R : V → H → Prop} (hn : args.length ≤ sf.N)
    (hb : h.WF → Rwp P sf.N sf.body (retPostR sf.results R) [] (enterT args) h) : Acalls P f args h R :=
  Acalls.wf hen fun w => acalls_range_of hf hc hen hn (hb w)

/-! ### A round -/
@[simp] theorem roundA_normal (i : Nat) (R : V → H → Prop) (t : Tm) (h : H) : roundA i R .normal t h = ∃ r, h.get i = some (.loopo r) ∧ R (.bool true) (h.set i (.loopo { r with st := .ready, pending := none })) := _root_.id rfl
@[simp] theorem roundA_ret (i : Nat) (R : V → H → Prop) (t : Tm) (h : H) : roundA i R .ret t h = ∃ r, h.get i = some (.loopo r) ∧ R (.bool false) (h.set i (.loopo { r with st := .done, pending := some .ret })) := _root_.id rfl
@[simp] theorem putPs_nil (t : Tm) : putPs [] t = t := _root_.id rfl
@[simp] theorem putPs_cons (p : Tmp) (v : V) (ps : List (Tmp × V)) (t : Tm) : putPs ((p, v) :: ps) t = putPs ps (t.put (some p) v) := _root_.id rfl

/-! ### Loops, cut from what follows -/
end Go.Am
