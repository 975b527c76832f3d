/-
 AM, PART 14. A closed run: an interpreter over trees, for the kernel; what it says is a contract.
-/
import Derived.Test.YtpgcodeckphanaaGreatDoorIAm13
namespace Go.Am

inductive Bt (α : Type) where
 | nil
 | node (v : Option α) (l r : Bt α)
namespace Bt
variable {α : Type}
def get : Bt α -> Nat -> Option α
 | .nil, _ => none
 | .node v l r, k => cond (Nat.beq k 0) v (cond (Nat.beq (k % 2) 1) (l.get (k / 2)) (r.get (k / 2 - 1)))
def putF (x : α) : Nat -> Bt α -> Nat -> Bt α
 | 0, t, _ => t
 | f + 1, .nil, k => cond (Nat.beq k 0) (.node (some x) .nil .nil) (cond (Nat.beq (k % 2) 1) (.node none (putF x f .nil (k / 2)) .nil) (.node none .nil (putF x f .nil (k / 2 - 1))))
 | f + 1, .node v l r, k => cond (Nat.beq k 0) (.node (some x) l r) (cond (Nat.beq (k % 2) 1) (.node v (putF x f l (k / 2)) r) (.node v l (putF x f r (k / 2 - 1))))
def put (t : Bt α) (k : Nat) (x : α) : Bt α := putF x (k + 1) t k

theorem zcZ {a b : Nat} (h : a ≠ b) : Nat.beq a b = false := by
 cases e : Nat.beq a b with
 | false => rfl
 | true => exact absurd (Nat.eq_of_beq_eq_true e) h
theorem ziq {a b : Nat} (h : a = b) : Nat.beq a b = true := by subst h; exact Nat.beq_refl a
theorem get_nil (k : Nat) : (Bt.nil : Bt α).get k = none := rfl
theorem zeD (v : Option α) (l r : Bt α) : (Bt.node v l r).get 0 = v := rfl
theorem zcK (v : Option α) (l r : Bt α) (k : Nat) (h : k % 2 = 1) : (Bt.node v l r).get k = l.get (k / 2) := by
 simp only [get, zcZ (show k ≠ 0 by omega), ziq h, cond_false, cond_true]
theorem zb3 (v : Option α) (l r : Bt α) (k : Nat) (h : k % 2 = 0) (h0 : k ≠ 0) : (Bt.node v l r).get k = r.get (k / 2 - 1) := by
 simp only [get, zcZ h0, zcZ (show k % 2 ≠ 1 by omega), cond_false]

theorem zk4 (x : α) : ∀ (f : Nat) (t : Bt α) (k j : Nat), k < f -> (putF x f t k).get j = if j = k then some x else t.get j := by
 intro f
 induction f with
 | zero => intro t k j h; omega
 | succ f ih =>
  have node : ∀ (v : Option α) (l r : Bt α) (k j : Nat), k < f + 1 ->
    Bt.get (cond (Nat.beq k 0) (.node (some x) l r) (cond (Nat.beq (k % 2) 1) (.node v (putF x f l (k / 2)) r) (.node v l (putF x f r (k / 2 - 1))))) j = if j = k then some x else (Bt.node v l r).get j := by
   intro v l r k j h
   by_cases k0 : k = 0
   ·subst k0
    simp only [Nat.beq_refl, cond_true]
    by_cases j0 : j = 0
    ·subst j0; simp [zeD]
    ·rw [if_neg j0]
     rcases Nat.mod_two_eq_zero_or_one j with h2 | h2
     ·rw [zb3 _ _ _ _ h2 j0, zb3 _ _ _ _ h2 j0]
     ·rw [zcK _ _ _ _ h2, zcK _ _ _ _ h2]
   ·simp only [zcZ k0, cond_false]
    rcases Nat.mod_two_eq_zero_or_one k with k2 | k2
    ·simp only [zcZ (show k % 2 ≠ 1 by omega), cond_false]
     by_cases j0 : j = 0
     ·subst j0; rw [if_neg (fun e => k0 e.symm)]; simp [zeD]
     ·rcases Nat.mod_two_eq_zero_or_one j with h2 | h2
      ·rw [zb3 _ _ _ _ h2 j0, zb3 _ _ _ _ h2 j0, ih _ _ _ (by omega)]
       by_cases e : j = k
       ·subst e; simp
       ·rw [if_neg e, if_neg (by omega)]
      ·rw [zcK _ _ _ _ h2, zcK _ _ _ _ h2, if_neg (by omega)]
    ·simp only [ziq k2, cond_true]
     by_cases j0 : j = 0
     ·subst j0; rw [if_neg (fun e => k0 e.symm)]; simp [zeD]
     ·rcases Nat.mod_two_eq_zero_or_one j with h2 | h2
      ·rw [zb3 _ _ _ _ h2 j0, zb3 _ _ _ _ h2 j0, if_neg (by omega)]
      ·rw [zcK _ _ _ _ h2, zcK _ _ _ _ h2, ih _ _ _ (by omega)]
       by_cases e : j = k
       ·subst e; simp
       ·rw [if_neg e, if_neg (by omega)]
  intro t k j h
  cases t with
  | node v l r => exact node v l r k j h
  | nil =>
   have := node none .nil .nil k j h
   have e1 : ∀ j, (Bt.node none .nil .nil : Bt α).get j = none := by
    intro j
    by_cases j0 : j = 0
    ·subst j0; rfl
    ·rcases Nat.mod_two_eq_zero_or_one j with h2 | h2
     ·rw [zb3 _ _ _ _ h2 j0]; rfl
     ·rw [zcK _ _ _ _ h2]; rfl
   rw [e1] at this
   exact this
theorem get_put (t : Bt α) (k j : Nat) (x : α) : (t.put k x).get j = if j = k then some x else t.get j := zk4 x _ t k j (Nat.lt_succ_self k)

def All (p : Nat -> α -> Prop) : Bt α -> Nat -> Nat -> Prop
 | .nil, _, _ => True
 | .node v l r, a, b => (match v with | some x => p a x | none => True) ∧ All p l (a + b) (2 * b) ∧ All p r (a + 2 * b) (2 * b)
theorem All.get {p : Nat -> α -> Prop} : ∀ {t : Bt α} {a b : Nat}, All p t a b -> ∀ {k : Nat} {x : α}, t.get k = some x -> p (a + b * k) x
 | .nil, _, _, _, k, x, e => by cases e
 | .node v l r, a, b, ⟨h1, h2, h3⟩, k, x, e => by
  by_cases k0 : k = 0
  ·subst k0; rw [zeD] at e; subst e; simpa using h1
  ·rcases Nat.mod_two_eq_zero_or_one k with hk | hk
   ·rw [zb3 _ _ _ _ hk k0] at e
    have := All.get h3 e
    obtain ⟨m, rfl⟩ : ∃ m, k = 2 * m + 2 := ⟨k / 2 - 1, by omega⟩
    have e2 : (2 * m + 2) / 2 - 1 = m := by omega
    rw [e2] at this
    have e3 : a + 2 * b + 2 * b * m = a + b * (2 * m + 2) := by rw [Nat.mul_add, Nat.mul_comm b 2, Nat.mul_left_comm, <- Nat.mul_assoc]; omega
    rwa [e3] at this
   ·rw [zcK _ _ _ _ hk] at e
    have := All.get h2 e
    obtain ⟨m, rfl⟩ : ∃ m, k = 2 * m + 1 := ⟨k / 2, by omega⟩
    have e2 : (2 * m + 1) / 2 = m := by omega
    rw [e2] at this
    have e3 : a + b + 2 * b * m = a + b * (2 * m + 1) := by rw [Nat.mul_add, Nat.mul_left_comm, <- Nat.mul_assoc]; omega
    rwa [e3] at this
end Bt

def Bt.fn (t : Bt V) : Tm := fun k => (t.get k).getD .undef
def Bt.putO (t : Bt V) (d : Option Nat) (v : V) : Bt V := match d with | some d => t.put d v | none => t
def zpZ : List V -> Nat -> Bt V -> Bt V
 | [], _, t => t
 | v :: vs, k, t => zpZ vs (k + 1) (t.put k v)
structure Hp where
 next : Nat
 tr : Bt O
def Hp.H (h : Hp) : H := ⟨h.next, h.tr.get⟩
def Hp.app (h : Hp) : D -> Hp
 | .keep => h
 | .set i o => ⟨h.next, h.tr.put i o⟩
 | .push o => ⟨h.next + 1, h.tr.put h.next o⟩
theorem Hp.app_H (h : Hp) (d : D) : (h.app d).H = h.H.app d := by
 cases d with
 | keep => rfl
 | set i o => exact H.ext' rfl fun j => Bt.get_put _ _ _ _
 | push o => exact H.ext' rfl fun j => Bt.get_put _ _ _ _

abbrev CF := FuncId -> List V -> Hp -> Option (V × Hp)
def runO (cf : CF) : List SI -> Bt V -> Hp -> Option (Bt V × Hp)
 | [], t, h => some (t, h)
 | ⟨d, g, x⟩ :: is, t, h =>
  match zao g t.fn with
  | none => none
  | some false => runO cf is (t.putO d .undef) h
  | some true =>
   match x with
   | .call f args =>
    match f.ev t.fn with
    | .func (.func k) first cap =>
     match cf k (first ++ args.map (·.ev t.fn) ++ cap) h with
     | some (v, h') => runO cf is (t.putO d v) h'
     | none => none
    | _ => none
   | .op i =>
    match exec i t.fn h.tr.get h.next with
    | some (v, dd) => runO cf is (t.putO d v) (h.app dd)
    | none => none

def zhL (g : Nat -> Option O) (lo : Nat) : Nat -> List Nat -> List Nat -> List Nat
 | 0, _, seen => seen
 | _ + 1, [], seen => seen
 | n + 1, i :: todo, seen =>
  cond (seen.contains i || Nat.blt i lo) (zhL g lo n todo seen)
   (match g i with
    | some o => zhL g lo n (o.ids ++ todo) (i :: seen)
    | none => zhL g lo n todo (i :: seen))
def frz (g : Nat -> Option O) : List Nat -> Bt O
 | [] => .nil
 | i :: l => match (g i).bind O.freeze with
  | some o => (frz g l).put i o
  | none => frz g l
def zh8 (g : Nat -> Option O) (k : Nat) (rd : List Nat) : Bool :=
 rd.all fun i => Nat.blt i k && (match g i with
  | some o => (match o with | .row _ | .grow _ _ | .ro _ => true | _ => false) && o.ids.all fun j => rd.contains j
  | none => false)
def zhP : List Nat -> Bool
 | [] => true
 | x :: xs => !xs.contains x && zhP xs
def oldB (hF h1 : Hp) (j : Nat) : Bool :=
 match hF.tr.get j, h1.tr.get j with
 | some a, some b => Nat.beq b.len a.len
 | _, _ => false
def zie (hF h1 : Hp) (L : List Nat) (v : V) : Bool :=
 zhP L && (L.all fun i => (hF.tr.get i).isNone && (match h1.tr.get i with
  | some o => o.own && (o.ids.all fun j => L.contains j || oldB hF h1 j) && (o.opens.all fun j => L.contains j)
  | none => false)) && (v.ids.all fun j => L.contains j || oldB hF h1 j) && (v.opens.all fun j => L.contains j)
def upsT (t : Bt O) : List (Nat × O) -> Bt O
 | [] => t
 | (k, o) :: l => (upsT t l).put k o
def zif (a b : Ev) : Bool :=
 (a.up.all fun x => !b.rd.contains x.1 && b.up.all fun y => !Nat.beq x.1 y.1) && b.up.all fun y => !a.rd.contains y.1

def runD (cf : CF) (fr : List (Nat × Nat)) (e0 e1 : Nat) : List SI -> Bt V -> Bt O -> List Ev -> Option (Bt V × Hp)
 | [], t, g, evs => cond (fr.all fun p => zif (evAt evs p.1) (evAt evs p.2)) (some (t, ⟨e1, g⟩)) none
 | ⟨d, gd, x⟩ :: is, t, g, evs =>
  match zao gd t.fn with
  | none => none
  | some false => runD cf fr e0 e1 is (t.putO d .undef) g (evs ++ [⟨[], []⟩])
  | some true =>
   match x with
   | .call f args =>
    match f.ev t.fn with
    | .func (.func k) first cap =>
     let ar := first ++ args.map (·.ev t.fn) ++ cap
     let rd := zhL g.get 0 4096 (V.idss ar) []
     let nm := e0 + evs.length * room
     let hF : Hp := ⟨nm, frz g.get rd⟩
     cond (zh8 g.get nm rd && (V.idss ar).all (fun i => rd.contains i) && Nat.ble (nm + room) e1)
      (match cf k ar hF with
       | some (v, h1) =>
        let L := zhL h1.tr.get nm 4096 v.ids []
        cond (zie hF h1 L v && Nat.ble L.length room)
         (let ups := names nm (L.map fun i => (zer h1.H i).ren (zaI L nm))
         runD cf fr e0 e1 is (t.putO d (v.ren (zaI L nm))) (upsT g ups) (evs ++ [⟨rd, ups⟩])) none
       | none => none) none
    | _ => none
   | .op i =>
    match exec i t.fn g.get (e0 + evs.length * room) with
    | some (v, dd) => let ups := dd.ups (e0 + evs.length * room)
     runD cf fr e0 e1 is (t.putO d v) (upsT g ups) (evs ++ [⟨i.foot t.fn, ups⟩])
    | none => none

abbrev Res := Option (Exit × Bt V × Hp)
def runL (body : Bt V -> Hp -> Res) : Nat -> Bt V -> Hp -> Res
 | 0, _, _ => none
 | n + 1, t, h =>
  match body t h with
  | some (.normal, t', h') => runL body n t' h'
  | r => r
def runC (cf : CF) (N : Nat) : C -> Bt V -> Hp -> Res
 | .skip, t, h => some (.normal, t, h)
 | .reg ops, t, h => match runO cf ops t h with
  | some (t', h') => some (.normal, t', h')
  | none => none
 | .dreg [] ops, t, h => match runO cf ops t h with
  | some (t', h') => some (.normal, t', h')
  | none => none
 | .dreg fr ops, t, h => match runD cf fr h.next (h.next + ops.length * room) ops t h.tr [] with
  | some (t', h') => some (.normal, t', h')
  | none => none
 | .seq a b, t, h => match runC cf N a t h with
  | some (.normal, t', h') => runC cf N b t' h'
  | r => r
 | .cond c a b, t, h => match c.ev t.fn with
  | .bool x => cond x (runC cf N a t h) (runC cf N b t h)
  | _ => none
 | .block id b, t, h => match runC cf N b t h with
  | some (.exit i, t', h') => cond (Nat.beq i id) (some (.normal, t', h')) (some (.exit i, t', h'))
  | r => r
 | .loop b, t, h => runL (runC cf N b) N t h
 | .exit id, t, h => some (.exit id, t, h)
 | .ret, t, h => some (.ret, t, h)
def runF (tab : Bt SF) (N : Nat) : Nat -> CF
 | 0, _, _, _ => none
 | d + 1, f, args, h =>
  match tab.get f with
  | none => none
  | some sf => cond (Nat.ble args.length sf.N)
   (match runC (runF tab N d) N sf.body (zpZ args 0 .nil) h with
    | some (.normal, t, h') | some (.ret, t, h') => (match zbL h'.tr.get t.fn sf.results with
     | some vs => some (tupV vs, h')
     | none => none)
    | _ => none) none
end Go.Am
