/-
 Am41, Am42, Am43, Am44, in one text.
-/
import Derived.Test.YtpgcodeckphanaaGreatDoorIAm40
import Derived.RangeFuncIn
import Derived.RangeFuncRecord
import Derived.RangeFuncLeaves
import Derived.Test.YtpgcodeckphanaaGreatDoorIAm19
namespace Go.Am
section
variable {P : Program} {W0 : World} {μ : Nat -> Pl} {h : H} {w : World}

def zlL : List (Tmp × V) -> Tm -> Tm
 | [], t => t
 | (p, v) :: ps, t => zlL ps (t.put (some p) v)

def zmY (i : Nat) (Q : V -> H -> Prop) (e : Exit) (_ : Tm) (h : H) : Prop :=
 match e with
 | .normal => ∃ r, h.get i = some (.loopo r) ∧ Q (.bool true) (h.set i (.loopo { r with st := .ready, pending := none }))
 | .ret => ∃ r, h.get i = some (.loopo r) ∧ Q (.bool false) (h.set i (.loopo { r with st := .done, pending := some .ret }))
 | .exit id => ∃ r, h.get i = some (.loopo r) ∧ Q (.bool false) (h.set i (.loopo { r with st := .done, pending := some (.exit id) }))
 | _ => False

end
end Go.Am

namespace Go.Am

inductive R where
 | c (c : C)
 | seq (a b : R)
 | cond (c : A) (a b : R)
 | block (id : Nat) (b : R)
 | rfor (g : A) (ps : Array Tmp) (assign body : Code)

def zkG (next : List Nat -> Tm -> H -> Prop) (Q : Exit -> List Nat -> Tm -> H -> Prop) (e : Exit) (ms : List Nat) (t : Tm) (h : H) : Prop :=
 match e with
 | .normal => next ms t h
 | e => Q e ms t h
def zgJ (id : Nat) (Q : Exit -> List Nat -> Tm -> H -> Prop) (e : Exit) (ms : List Nat) (t : Tm) (h : H) : Prop :=
 match e with
 | .exit id' => if id' = id then Q .normal ms t h else Q (.exit id') ms t h
 | e => Q e ms t h

def zpo (N : Nat) (t : Tm) (ps : Array Tmp) (a b : Code) (h : H) : H :=
 (h.push (.defo true)).push (.loopo ⟨.ready, none, (List.range N).map t, ps, a, b, h.next⟩)
def znH (Q : Exit -> List Nat -> Tm -> H -> Prop) (ms : List Nat) (t : Tm) (h : H) : Option Code -> Prop
 | none => Q .normal ms t h
 | some .ret => Q .ret ms t h
 | some (.exit id) => Q (.exit id) ms t h
 | _ => False

def Rwp (P : Program) (N : Nat) : R -> (Exit -> List Nat -> Tm -> H -> Prop) -> List Nat -> Tm -> H -> Prop
 | .c c, Q, ms, t, h => Cwp P c (fun e t h => (∀ m ∈ ms, h.get m = some (.defo true)) ∧ Q e ms t h) t h
 | .seq a b, Q, ms, t, h => Rwp P N a (zkG (Rwp P N b Q) Q) ms t h
 | .cond c a b, Q, ms, t, h => zeq (c.ev t) (Rwp P N a Q ms t h) (Rwp P N b Q ms t h)
 | .block id b, Q, ms, t, h => Rwp P N b (zgJ id Q) ms t h
 | .rfor g ps a b, Q, ms, t, h => ∃ f first cap, g.ev t = .func (.func f) first cap ∧
   Acalls P f (first ++ [.yl (h.next + 1)] ++ cap) (zpo N t ps a b h) fun _ h2 => (∀ m ∈ h.next :: ms, h2.get m = some (.defo true)) ∧
    ∃ r, h2.get (h.next + 1) = some (.loopo r) ∧ r.st ≠ .busy ∧ znH Q (h.next :: ms) t (h2.set (h.next + 1) (.loopo { r with st := .exhausted, pending := r.pending })) r.pending

section
variable {P : Program} {N : Nat} {W0 : World} {μ0 : Nat -> Pl} {h0 : H}

end
end Go.Am

namespace Go.Am

structure SFR where
 N : Nat
 results : List RV
 body : R
def shut : List Nat -> H -> H
 | [], h => h
 | m :: ms, h => shut ms (h.set m (.defo false))

def zh9 (rs : List RV) (Q : V -> H -> Prop) (e : Exit) (ms : List Nat) (t : Tm) (h : H) : Prop :=
 match e with
 | .normal | .ret => match zbL (shut ms h).get t rs with
  | some vs => Q (tupV vs) (shut ms h)
  | none => False
 | _ => False

section
variable {P : Program} {W0 : World} {μ0 : Nat -> Pl} {h0 : H}

end
end Go.Am

namespace Go.Am

variable {P : Program} {N : Nat} (Q : Exit -> List Nat -> Tm -> H -> Prop)
@[simp] theorem zsc (c : C) (ms : List Nat) (t : Tm) (h : H) : Rwp P N (.c c) Q ms t h = Cwp P c (fun e t h => (∀ m ∈ ms, h.get m = some (.defo true)) ∧ Q e ms t h) t h := _root_.id rfl
@[simp] theorem zrS (a b : R) (ms : List Nat) (t : Tm) (h : H) : Rwp P N (.seq a b) Q ms t h = Rwp P N a (zkG (Rwp P N b Q) Q) ms t h := _root_.id rfl
@[simp] theorem zqm (id : Nat) (b : R) (ms : List Nat) (t : Tm) (h : H) : Rwp P N (.block id b) Q ms t h = Rwp P N b (zgJ id Q) ms t h := _root_.id rfl
def zgS (P : Program) (N : Nat) (Q : Exit -> List Nat -> Tm -> H -> Prop) (a b : R) (ms : List Nat) (t : Tm) (h : H) (c : V) : Prop := zeq c (Rwp P N a Q ms t h) (Rwp P N b Q ms t h)
@[simp] theorem zro (c : A) (a b : R) (ms : List Nat) (t : Tm) (h : H) : Rwp P N (.cond c a b) Q ms t h = zgS P N Q a b ms t h (c.ev t) := _root_.id rfl
@[simp] theorem zno (a b : R) (ms : List Nat) (t : Tm) (h : H) : zgS P N Q a b ms t h (.bool true) = Rwp P N a Q ms t h := by simp [zgS, zeq]
@[simp] theorem zmB (a b : R) (ms : List Nat) (t : Tm) (h : H) : zgS P N Q a b ms t h (.bool false) = Rwp P N b Q ms t h := by simp [zgS, zeq]
def zrU (P : Program) (N : Nat) (Q : Exit -> List Nat -> Tm -> H -> Prop) (ps : Array Tmp) (a b : Code) (ms : List Nat) (t : Tm) (h : H) (g : V) : Prop :=
 ∃ f first cap, g = .func (.func f) first cap ∧
   Acalls P f (first ++ [.yl (h.next + 1)] ++ cap) (zpo N t ps a b h) fun _ h2 => (∀ m ∈ h.next :: ms, h2.get m = some (.defo true)) ∧
    ∃ r, h2.get (h.next + 1) = some (.loopo r) ∧ r.st ≠ .busy ∧ znH Q (h.next :: ms) t (h2.set (h.next + 1) (.loopo { r with st := .exhausted, pending := r.pending })) r.pending
@[simp] theorem zqO (g : A) (ps : Array Tmp) (a b : Code) (ms : List Nat) (t : Tm) (h : H) : Rwp P N (.rfor g ps a b) Q ms t h = zrU P N Q ps a b ms t h (g.ev t) := _root_.id rfl
variable (next : List Nat -> Tm -> H -> Prop)
@[simp] theorem zmt (ms : List Nat) (t : Tm) (h : H) : zkG next Q .normal ms t h = next ms t h := _root_.id rfl
@[simp] theorem zpj (ms : List Nat) (t : Tm) (h : H) : zkG next Q .ret ms t h = Q .ret ms t h := _root_.id rfl
@[simp] theorem zoL (i : Nat) (ms : List Nat) (t : Tm) (h : H) : zkG next Q (.exit i) ms t h = Q (.exit i) ms t h := _root_.id rfl
@[simp] theorem zlz (id : Nat) (ms : List Nat) (t : Tm) (h : H) : zgJ id Q .normal ms t h = Q .normal ms t h := _root_.id rfl
@[simp] theorem zoI (id : Nat) (ms : List Nat) (t : Tm) (h : H) : zgJ id Q .ret ms t h = Q .ret ms t h := _root_.id rfl
@[simp] theorem znQ (id i : Nat) (ms : List Nat) (t : Tm) (h : H) : zgJ id Q (.exit i) ms t h = if i = id then Q .normal ms t h else Q (.exit i) ms t h := _root_.id rfl
@[simp] theorem zmO (rs : List RV) (R : V -> H -> Prop) (ms : List Nat) (t : Tm) (h : H) : zh9 rs R .ret ms t h = resK (zbL (shut ms h).get t rs) (shut ms h) R := _root_.id rfl
@[simp] theorem zjQ (rs : List RV) (R : V -> H -> Prop) (ms : List Nat) (t : Tm) (h : H) : zh9 rs R .normal ms t h = resK (zbL (shut ms h).get t rs) (shut ms h) R := _root_.id rfl
@[simp] theorem zoS (ms : List Nat) (t : Tm) (h : H) : znH Q ms t h none = Q .normal ms t h := _root_.id rfl
@[simp] theorem zqN (h : H) : shut [] h = h := _root_.id rfl
@[simp] theorem zpQ (m : Nat) (ms : List Nat) (h : H) : shut (m :: ms) h = shut ms (h.set m (.defo false)) := _root_.id rfl

@[simp] theorem zmi (i : Nat) (R : V -> H -> Prop) (t : Tm) (h : H) : zmY i R .normal t h = ∃ r, h.get i = some (.loopo r) ∧ R (.bool true) (h.set i (.loopo { r with st := .ready, pending := none })) := _root_.id rfl
@[simp] theorem zo1 (i : Nat) (R : V -> H -> Prop) (t : Tm) (h : H) : zmY i R .ret t h = ∃ r, h.get i = some (.loopo r) ∧ R (.bool false) (h.set i (.loopo { r with st := .done, pending := some .ret })) := _root_.id rfl
@[simp] theorem zpE (t : Tm) : zlL [] t = t := _root_.id rfl
@[simp] theorem zo5 (p : Tmp) (v : V) (ps : List (Tmp × V)) (t : Tm) : zlL ((p, v) :: ps) t = zlL ps (t.put (some p) v) := _root_.id rfl

end Go.Am
