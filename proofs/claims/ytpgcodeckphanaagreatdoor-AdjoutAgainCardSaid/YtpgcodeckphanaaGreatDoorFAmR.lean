/-
 Am41, Am42, Am43, Am44, in one text.
-/
import Derived.Test.YtpgcodeckphanaaGreatDoorFAm40
import Derived.RangeFuncIn
import Derived.RangeFuncRecord
import Derived.RangeFuncLeaves
import Derived.Test.YtpgcodeckphanaaGreatDoorFAm19
namespace Go.Am
section
variable {P : Program} {W0 : World} {μ : Nat -> Pl} {h : H} {w : World}

def zla : List (Tmp × V) -> Tm -> Tm
 | [], t => t
 | (p, v) :: ps, t => zla ps (t.put (some p) v)

def zmy (i : Nat) (Q : V -> H -> Prop) (e : Exit) (_ : Tm) (h : H) : Prop :=
 match e with
 | .normal => ∃ r, h.get i = some (.loopo r) ∧ Q (.bool true) (h.set i (.loopo { r with st := .ready, pending := none }))
 | .ret => ∃ r, h.get i = some (.loopo r) ∧ Q (.bool false) (h.set i (.loopo { r with st := .done, pending := some .ret }))
 | .exit id => ∃ r, h.get i = some (.loopo r) ∧ Q (.bool false) (h.set i (.loopo { r with st := .done, pending := some (.exit id) }))
 | _ => False

end
end Go.Am

namespace Go.Am

inductive R where
 | c (c : C)
 | seq (a b : R)
 | cond (c : A) (a b : R)
 | block (id : Nat) (b : R)
 | rfor (g : A) (ps : Array Tmp) (assign body : Code)

def zjI (next : List Nat -> Tm -> H -> Prop) (Q : Exit -> List Nat -> Tm -> H -> Prop) (e : Exit) (ms : List Nat) (t : Tm) (h : H) : Prop :=
 match e with
 | .normal => next ms t h
 | e => Q e ms t h
def zgK (id : Nat) (Q : Exit -> List Nat -> Tm -> H -> Prop) (e : Exit) (ms : List Nat) (t : Tm) (h : H) : Prop :=
 match e with
 | .exit id' => if id' = id then Q .normal ms t h else Q (.exit id') ms t h
 | e => Q e ms t h

def zoJ (N : Nat) (t : Tm) (ps : Array Tmp) (a b : Code) (h : H) : H :=
 (h.push (.defo true)).push (.loopo ⟨.ready, none, (List.range N).map t, ps, a, b, h.next⟩)
def zm9 (Q : Exit -> List Nat -> Tm -> H -> Prop) (ms : List Nat) (t : Tm) (h : H) : Option Code -> Prop
 | none => Q .normal ms t h
 | some .ret => Q .ret ms t h
 | some (.exit id) => Q (.exit id) ms t h
 | _ => False

def Rwp (P : Program) (N : Nat) : R -> (Exit -> List Nat -> Tm -> H -> Prop) -> List Nat -> Tm -> H -> Prop
 | .c c, Q, ms, t, h => Cwp P c (fun e t h => (∀ m ∈ ms, h.get m = some (.defo true)) ∧ Q e ms t h) t h
 | .seq a b, Q, ms, t, h => Rwp P N a (zjI (Rwp P N b Q) Q) ms t h
 | .cond c a b, Q, ms, t, h => zeo (c.ev t) (Rwp P N a Q ms t h) (Rwp P N b Q ms t h)
 | .block id b, Q, ms, t, h => Rwp P N b (zgK id Q) ms t h
 | .rfor g ps a b, Q, ms, t, h => ∃ f first cap, g.ev t = .func (.func f) first cap ∧
   Acalls P f (first ++ [.yl (h.next + 1)] ++ cap) (zoJ N t ps a b h) fun _ h2 => (∀ m ∈ h.next :: ms, h2.get m = some (.defo true)) ∧
    ∃ r, h2.get (h.next + 1) = some (.loopo r) ∧ r.st ≠ .busy ∧ zm9 Q (h.next :: ms) t (h2.set (h.next + 1) (.loopo { r with st := .exhausted, pending := r.pending })) r.pending

section
variable {P : Program} {N : Nat} {W0 : World} {μ0 : Nat -> Pl} {h0 : H}

end
end Go.Am

namespace Go.Am

structure SFR where
 N : Nat
 results : List RV
 body : R
def shut : List Nat -> H -> H
 | [], h => h
 | m :: ms, h => shut ms (h.set m (.defo false))

def zhO (rs : List RV) (Q : V -> H -> Prop) (e : Exit) (ms : List Nat) (t : Tm) (h : H) : Prop :=
 match e with
 | .normal | .ret => match zbL (shut ms h).get t rs with
  | some vs => Q (tupV vs) (shut ms h)
  | none => False
 | _ => False

section
variable {P : Program} {W0 : World} {μ0 : Nat -> Pl} {h0 : H}

end
end Go.Am

namespace Go.Am

variable {P : Program} {N : Nat} (Q : Exit -> List Nat -> Tm -> H -> Prop)
@[simp] theorem zrH (c : C) (ms : List Nat) (t : Tm) (h : H) : Rwp P N (.c c) Q ms t h = Cwp P c (fun e t h => (∀ m ∈ ms, h.get m = some (.defo true)) ∧ Q e ms t h) t h := _root_.id rfl
@[simp] theorem zrm (a b : R) (ms : List Nat) (t : Tm) (h : H) : Rwp P N (.seq a b) Q ms t h = Rwp P N a (zjI (Rwp P N b Q) Q) ms t h := _root_.id rfl
@[simp] theorem zpp (id : Nat) (b : R) (ms : List Nat) (t : Tm) (h : H) : Rwp P N (.block id b) Q ms t h = Rwp P N b (zgK id Q) ms t h := _root_.id rfl
def zgq (P : Program) (N : Nat) (Q : Exit -> List Nat -> Tm -> H -> Prop) (a b : R) (ms : List Nat) (t : Tm) (h : H) (c : V) : Prop := zeo c (Rwp P N a Q ms t h) (Rwp P N b Q ms t h)
@[simp] theorem zp6 (c : A) (a b : R) (ms : List Nat) (t : Tm) (h : H) : Rwp P N (.cond c a b) Q ms t h = zgq P N Q a b ms t h (c.ev t) := _root_.id rfl
@[simp] theorem znU (a b : R) (ms : List Nat) (t : Tm) (h : H) : zgq P N Q a b ms t h (.bool true) = Rwp P N a Q ms t h := by simp [zgq, zeo]
@[simp] theorem zl3 (a b : R) (ms : List Nat) (t : Tm) (h : H) : zgq P N Q a b ms t h (.bool false) = Rwp P N b Q ms t h := by simp [zgq, zeo]
def zrf (P : Program) (N : Nat) (Q : Exit -> List Nat -> Tm -> H -> Prop) (ps : Array Tmp) (a b : Code) (ms : List Nat) (t : Tm) (h : H) (g : V) : Prop :=
 ∃ f first cap, g = .func (.func f) first cap ∧
   Acalls P f (first ++ [.yl (h.next + 1)] ++ cap) (zoJ N t ps a b h) fun _ h2 => (∀ m ∈ h.next :: ms, h2.get m = some (.defo true)) ∧
    ∃ r, h2.get (h.next + 1) = some (.loopo r) ∧ r.st ≠ .busy ∧ zm9 Q (h.next :: ms) t (h2.set (h.next + 1) (.loopo { r with st := .exhausted, pending := r.pending })) r.pending
@[simp] theorem zqd (g : A) (ps : Array Tmp) (a b : Code) (ms : List Nat) (t : Tm) (h : H) : Rwp P N (.rfor g ps a b) Q ms t h = zrf P N Q ps a b ms t h (g.ev t) := _root_.id rfl
variable (next : List Nat -> Tm -> H -> Prop)
@[simp] theorem zmr (ms : List Nat) (t : Tm) (h : H) : zjI next Q .normal ms t h = next ms t h := _root_.id rfl
@[simp] theorem zpJ (ms : List Nat) (t : Tm) (h : H) : zjI next Q .ret ms t h = Q .ret ms t h := _root_.id rfl
@[simp] theorem zoa (i : Nat) (ms : List Nat) (t : Tm) (h : H) : zjI next Q (.exit i) ms t h = Q (.exit i) ms t h := _root_.id rfl
@[simp] theorem zlV (id : Nat) (ms : List Nat) (t : Tm) (h : H) : zgK id Q .normal ms t h = Q .normal ms t h := _root_.id rfl
@[simp] theorem zoi (id : Nat) (ms : List Nat) (t : Tm) (h : H) : zgK id Q .ret ms t h = Q .ret ms t h := _root_.id rfl
@[simp] theorem znf (id i : Nat) (ms : List Nat) (t : Tm) (h : H) : zgK id Q (.exit i) ms t h = if i = id then Q .normal ms t h else Q (.exit i) ms t h := _root_.id rfl
@[simp] theorem zmp (rs : List RV) (R : V -> H -> Prop) (ms : List Nat) (t : Tm) (h : H) : zhO rs R .ret ms t h = resK (zbL (shut ms h).get t rs) (shut ms h) R := _root_.id rfl
@[simp] theorem zjx (rs : List RV) (R : V -> H -> Prop) (ms : List Nat) (t : Tm) (h : H) : zhO rs R .normal ms t h = resK (zbL (shut ms h).get t rs) (shut ms h) R := _root_.id rfl
@[simp] theorem znY (ms : List Nat) (t : Tm) (h : H) : zm9 Q ms t h none = Q .normal ms t h := _root_.id rfl
@[simp] theorem zqe (h : H) : shut [] h = h := _root_.id rfl
@[simp] theorem zo2 (m : Nat) (ms : List Nat) (h : H) : shut (m :: ms) h = shut ms (h.set m (.defo false)) := _root_.id rfl

@[simp] theorem zkG (i : Nat) (R : V -> H -> Prop) (t : Tm) (h : H) : zmy i R .normal t h = ∃ r, h.get i = some (.loopo r) ∧ R (.bool true) (h.set i (.loopo { r with st := .ready, pending := none })) := _root_.id rfl
@[simp] theorem znZ (i : Nat) (R : V -> H -> Prop) (t : Tm) (h : H) : zmy i R .ret t h = ∃ r, h.get i = some (.loopo r) ∧ R (.bool false) (h.set i (.loopo { r with st := .done, pending := some .ret })) := _root_.id rfl
@[simp] theorem zpv (t : Tm) : zla [] t = t := _root_.id rfl
@[simp] theorem zn3 (p : Tmp) (v : V) (ps : List (Tmp × V)) (t : Tm) : zla ((p, v) :: ps) t = zla ps (t.put (some p) v) := _root_.id rfl

end Go.Am
