/-
 Am41, Am42, Am43, Am44, in one text.
-/
import Derived.Test.YtpgcodeckphanaaGreatDoorEAm40
import Derived.RangeFuncIn
import Derived.RangeFuncRecord
import Derived.RangeFuncLeaves
import Derived.Test.YtpgcodeckphanaaGreatDoorEAm19
namespace Go.Am
section
variable {P : Program} {W0 : World} {μ : Nat -> Pl} {h : H} {w : World}

def zkD : List (Tmp × V) -> Tm -> Tm
 | [], t => t
 | (p, v) :: ps, t => zkD ps (t.put (some p) v)

def zlT (i : Nat) (Q : V -> H -> Prop) (e : Exit) (_ : Tm) (h : H) : Prop :=
 match e with
 | .normal => ∃ r, h.get i = some (.loopo r) ∧ Q (.bool true) (h.set i (.loopo { r with st := .ready, pending := none }))
 | .ret => ∃ r, h.get i = some (.loopo r) ∧ Q (.bool false) (h.set i (.loopo { r with st := .done, pending := some .ret }))
 | .exit id => ∃ r, h.get i = some (.loopo r) ∧ Q (.bool false) (h.set i (.loopo { r with st := .done, pending := some (.exit id) }))
 | _ => False

end
end Go.Am

namespace Go.Am

inductive R where
 | c (c : C)
 | seq (a b : R)
 | cond (c : A) (a b : R)
 | block (id : Nat) (b : R)
 | rfor (g : A) (ps : Array Tmp) (assign body : Code)

def zi8 (next : List Nat -> Tm -> H -> Prop) (Q : Exit -> List Nat -> Tm -> H -> Prop) (e : Exit) (ms : List Nat) (t : Tm) (h : H) : Prop :=
 match e with
 | .normal => next ms t h
 | e => Q e ms t h
def zgO (id : Nat) (Q : Exit -> List Nat -> Tm -> H -> Prop) (e : Exit) (ms : List Nat) (t : Tm) (h : H) : Prop :=
 match e with
 | .exit id' => if id' = id then Q .normal ms t h else Q (.exit id') ms t h
 | e => Q e ms t h

def zo7 (N : Nat) (t : Tm) (ps : Array Tmp) (a b : Code) (h : H) : H :=
 (h.push (.defo true)).push (.loopo ⟨.ready, none, (List.range N).map t, ps, a, b, h.next⟩)
def zmm (Q : Exit -> List Nat -> Tm -> H -> Prop) (ms : List Nat) (t : Tm) (h : H) : Option Code -> Prop
 | none => Q .normal ms t h
 | some .ret => Q .ret ms t h
 | some (.exit id) => Q (.exit id) ms t h
 | _ => False

def Rwp (P : Program) (N : Nat) : R -> (Exit -> List Nat -> Tm -> H -> Prop) -> List Nat -> Tm -> H -> Prop
 | .c c, Q, ms, t, h => Cwp P c (fun e t h => (∀ m ∈ ms, h.get m = some (.defo true)) ∧ Q e ms t h) t h
 | .seq a b, Q, ms, t, h => Rwp P N a (zi8 (Rwp P N b Q) Q) ms t h
 | .cond c a b, Q, ms, t, h => zem (c.ev t) (Rwp P N a Q ms t h) (Rwp P N b Q ms t h)
 | .block id b, Q, ms, t, h => Rwp P N b (zgO id Q) ms t h
 | .rfor g ps a b, Q, ms, t, h => ∃ f first cap, g.ev t = .func (.func f) first cap ∧
   Acalls P f (first ++ [.yl (h.next + 1)] ++ cap) (zo7 N t ps a b h) fun _ h2 => (∀ m ∈ h.next :: ms, h2.get m = some (.defo true)) ∧
    ∃ r, h2.get (h.next + 1) = some (.loopo r) ∧ r.st ≠ .busy ∧ zmm Q (h.next :: ms) t (h2.set (h.next + 1) (.loopo { r with st := .exhausted, pending := r.pending })) r.pending

section
variable {P : Program} {N : Nat} {W0 : World} {μ0 : Nat -> Pl} {h0 : H}

end
end Go.Am

namespace Go.Am

structure SFR where
 N : Nat
 results : List RV
 body : R
def shut : List Nat -> H -> H
 | [], h => h
 | m :: ms, h => shut ms (h.set m (.defo false))

def zhN (rs : List RV) (Q : V -> H -> Prop) (e : Exit) (ms : List Nat) (t : Tm) (h : H) : Prop :=
 match e with
 | .normal | .ret => match zbH (shut ms h).get t rs with
  | some vs => Q (tupV vs) (shut ms h)
  | none => False
 | _ => False

section
variable {P : Program} {W0 : World} {μ0 : Nat -> Pl} {h0 : H}

end
end Go.Am

namespace Go.Am

variable {P : Program} {N : Nat} (Q : Exit -> List Nat -> Tm -> H -> Prop)
@[simp] theorem zrp (c : C) (ms : List Nat) (t : Tm) (h : H) : Rwp P N (.c c) Q ms t h = Cwp P c (fun e t h => (∀ m ∈ ms, h.get m = some (.defo true)) ∧ Q e ms t h) t h := _root_.id rfl
@[simp] theorem zq6 (a b : R) (ms : List Nat) (t : Tm) (h : H) : Rwp P N (.seq a b) Q ms t h = Rwp P N a (zi8 (Rwp P N b Q) Q) ms t h := _root_.id rfl
@[simp] theorem zpm (id : Nat) (b : R) (ms : List Nat) (t : Tm) (h : H) : Rwp P N (.block id b) Q ms t h = Rwp P N b (zgO id Q) ms t h := _root_.id rfl
def zgj (P : Program) (N : Nat) (Q : Exit -> List Nat -> Tm -> H -> Prop) (a b : R) (ms : List Nat) (t : Tm) (h : H) (c : V) : Prop := zem c (Rwp P N a Q ms t h) (Rwp P N b Q ms t h)
@[simp] theorem zpP (c : A) (a b : R) (ms : List Nat) (t : Tm) (h : H) : Rwp P N (.cond c a b) Q ms t h = zgj P N Q a b ms t h (c.ev t) := _root_.id rfl
@[simp] theorem zmk (a b : R) (ms : List Nat) (t : Tm) (h : H) : zgj P N Q a b ms t h (.bool true) = Rwp P N a Q ms t h := by simp [zgj, zem]
@[simp] theorem zlX (a b : R) (ms : List Nat) (t : Tm) (h : H) : zgj P N Q a b ms t h (.bool false) = Rwp P N b Q ms t h := by simp [zgj, zem]
def zqV (P : Program) (N : Nat) (Q : Exit -> List Nat -> Tm -> H -> Prop) (ps : Array Tmp) (a b : Code) (ms : List Nat) (t : Tm) (h : H) (g : V) : Prop :=
 ∃ f first cap, g = .func (.func f) first cap ∧
   Acalls P f (first ++ [.yl (h.next + 1)] ++ cap) (zo7 N t ps a b h) fun _ h2 => (∀ m ∈ h.next :: ms, h2.get m = some (.defo true)) ∧
    ∃ r, h2.get (h.next + 1) = some (.loopo r) ∧ r.st ≠ .busy ∧ zmm Q (h.next :: ms) t (h2.set (h.next + 1) (.loopo { r with st := .exhausted, pending := r.pending })) r.pending
@[simp] theorem zp1 (g : A) (ps : Array Tmp) (a b : Code) (ms : List Nat) (t : Tm) (h : H) : Rwp P N (.rfor g ps a b) Q ms t h = zqV P N Q ps a b ms t h (g.ev t) := _root_.id rfl
variable (next : List Nat -> Tm -> H -> Prop)
@[simp] theorem zmg (ms : List Nat) (t : Tm) (h : H) : zi8 next Q .normal ms t h = next ms t h := _root_.id rfl
@[simp] theorem zo6 (ms : List Nat) (t : Tm) (h : H) : zi8 next Q .ret ms t h = Q .ret ms t h := _root_.id rfl
@[simp] theorem znM (i : Nat) (ms : List Nat) (t : Tm) (h : H) : zi8 next Q (.exit i) ms t h = Q (.exit i) ms t h := _root_.id rfl
@[simp] theorem zla (id : Nat) (ms : List Nat) (t : Tm) (h : H) : zgO id Q .normal ms t h = Q .normal ms t h := _root_.id rfl
@[simp] theorem znG (id : Nat) (ms : List Nat) (t : Tm) (h : H) : zgO id Q .ret ms t h = Q .ret ms t h := _root_.id rfl
@[simp] theorem zmT (id i : Nat) (ms : List Nat) (t : Tm) (h : H) : zgO id Q (.exit i) ms t h = if i = id then Q .normal ms t h else Q (.exit i) ms t h := _root_.id rfl
@[simp] theorem zlS (rs : List RV) (R : V -> H -> Prop) (ms : List Nat) (t : Tm) (h : H) : zhN rs R .ret ms t h = resK (zbH (shut ms h).get t rs) (shut ms h) R := _root_.id rfl
@[simp] theorem zjK (rs : List RV) (R : V -> H -> Prop) (ms : List Nat) (t : Tm) (h : H) : zhN rs R .normal ms t h = resK (zbH (shut ms h).get t rs) (shut ms h) R := _root_.id rfl
@[simp] theorem znI (ms : List Nat) (t : Tm) (h : H) : zmm Q ms t h none = Q .normal ms t h := _root_.id rfl
@[simp] theorem zqn (h : H) : shut [] h = h := _root_.id rfl
@[simp] theorem zpJ (m : Nat) (ms : List Nat) (h : H) : shut (m :: ms) h = shut ms (h.set m (.defo false)) := _root_.id rfl

@[simp] theorem zlv (i : Nat) (R : V -> H -> Prop) (t : Tm) (h : H) : zlT i R .normal t h = ∃ r, h.get i = some (.loopo r) ∧ R (.bool true) (h.set i (.loopo { r with st := .ready, pending := none })) := _root_.id rfl
@[simp] theorem znB (i : Nat) (R : V -> H -> Prop) (t : Tm) (h : H) : zlT i R .ret t h = ∃ r, h.get i = some (.loopo r) ∧ R (.bool false) (h.set i (.loopo { r with st := .done, pending := some .ret })) := _root_.id rfl
@[simp] theorem zpj (t : Tm) : zkD [] t = t := _root_.id rfl
@[simp] theorem znE (p : Tmp) (v : V) (ps : List (Tmp × V)) (t : Tm) : zkD ((p, v) :: ps) t = zkD ps (t.put (some p) v) := _root_.id rfl

end Go.Am
