/-
 AM, PART 36. A fast closed run that knows some calls' answers beforehand (each shown by a run of its own).
-/
import Derived.Test.YtpgcodeckphanaaGreatDoorIAm21
namespace Go.Am
variable {P : Program}
namespace Fr

def zqp (k k' : IntKind) (a b : Int) : Bool := cond (kEq k k') (eqF a b) false
def zlE : List UInt8 -> List UInt8 -> Bool
 | [], [] => true
 | a :: r, b :: s => cond (Nat.beq a.toNat b.toNat) (zlE r s) false
 | _, _ => false
def zli (a b : V) : Bool := match a, b with
 | .int k x, .int k' y => zqp k k' x y
 | .str s, .str t => zlE s t
 | .bool x, .bool y => x == y
 | .nilsl, .nilsl => true
 | _, _ => false
def zhR : List V -> List V -> Bool
 | [], [] => true
 | a :: r, b :: s => cond (zli a b) (zhR r s) false
 | _, _ => false
def zn3 (a b : V) : Bool := match a, b with
 | .agg x, .agg y => zhR x y
 | a, b => zli a b
def zio : List V -> List V -> Bool
 | [], [] => true
 | a :: r, b :: s => cond (zn3 a b) (zio r s) false
 | _, _ => false
theorem zin : ∀ {a b : List UInt8}, zlE a b = true -> a = b
 | [], [], _ => rfl
 | [], _ :: _, h => by cases h
 | _ :: _, [], h => by cases h
 | a :: r, b :: s, h => by
  rw [zlE, cond_eq_ite] at h
  split at h
  ·rename_i e
   rw [UInt8.toNat_inj.1 (Nat.eq_of_beq_eq_true e), zin h]
  ·cases h
theorem zh6 {a b : V} (h : zli a b = true) : a = b := by
 unfold zli at h
 split at h
 ·unfold zqp at h
  rw [cond_eq_ite] at h
  split at h
  ·rename_i e
   rw [zjS] at e
   rw [ziy] at h
   rw [of_decide_eq_true e, eq_of_beq h]
  ·cases h
 ·rw [zin h]
 ·rw [eq_of_beq h]
 ·rfl
 ·cases h
theorem zgP : ∀ {a b : List V}, zhR a b = true -> a = b
 | [], [], _ => rfl
 | [], _ :: _, h => by cases h
 | _ :: _, [], h => by cases h
 | a :: r, b :: s, h => by
  rw [zhR, cond_eq_ite] at h
  split at h
  ·rename_i e
   rw [zh6 e, zgP h]
  ·cases h
theorem zl0 {a b : V} (h : zn3 a b = true) : a = b := by
 unfold zn3 at h
 split at h
 ·rw [zgP h]
 ·exact zh6 h
theorem zg9 : ∀ {a b : List V}, zio a b = true -> a = b
 | [], [], _ => rfl
 | [], _ :: _, h => by cases h
 | _ :: _, [], h => by cases h
 | a :: r, b :: s, h => by
  rw [zio, cond_eq_ite] at h
  split at h
  ·rename_i e
   rw [zl0 e, zg9 h]
  ·cases h
abbrev Known := List (Nat × List V × V)
def ask : Known -> Nat -> List V -> Option V
 | [], _, _ => none
 | (k, a, v) :: r, f, args => cond (Nat.beq k f) (cond (zio a args) (some v) (ask r f args)) (ask r f args)
def KnownOk (P : Program) (l : Known) : Prop := ∀ x ∈ l, ∀ h, Pure P x.1 x.2.1 h x.2.2
theorem zpK {l : Known} (ok : KnownOk P l) {f : Nat} {args : List V} {v : V} (e : ask l f args = some v) : ∀ h, Pure P f args h v := by
 induction l with
 | nil => cases e
 | cons x r ih =>
  obtain ⟨k, a, w⟩ := x
  have ihr := ih fun y hy => ok y (List.mem_cons_of_mem _ hy)
  rw [ask, cond_eq_ite] at e
  split at e
  ·rename_i hk
   rw [cond_eq_ite] at e
   split at e
   ·rename_i ha
    cases e
    obtain rfl := Nat.eq_of_beq_eq_true hk
    obtain rfl := zg9 ha
    exact ok _ (List.mem_cons_self ..)
   ·exact ihr e
  ·exact ihr e
theorem KnownOk.nil : KnownOk P [] := fun _ h => by cases h
theorem KnownOk.cons {k : Nat} {a : List V} {v : V} {l : Known} (c : ∀ h, Pure P k a h v) (ok : KnownOk P l) : KnownOk P ((k, a, v) :: l) := fun x hx => by
 rcases List.mem_cons.1 hx with rfl | hx
 ·exact c
 ·exact ok x hx

def runO8 (l : Known) (tab : Bt SF8) (N : Nat) : Nat -> CF
 | 0, _, _, _ => none
 | d + 1, f, args, h =>
  match ask l f args with
  | some v => some (v, h)
  | none =>
   match tab.get f with
   | none => none
   | some sf => cond (Nat.ble args.length sf.N)
    (match sf.body (runO8 l tab N d) N (zhr sf.n args 0 .nil) h with
     | some (.normal, t, h') | some (.ret, t, h') => (match resC sf.res t h'.tr.get with
      | some vs => some (tupV vs, h')
      | none => none)
     | _ => none) none

theorem runO8_ok {l : Known} (ok : KnownOk P l) {tab : Bt SF8} (ht : tab.All (Tab8 P) 0 1) (N : Nat) : ∀ d, CfOk P (runO8 l tab N d)
 | 0 => fun f args h v h' e => by cases e
 | d + 1 => fun f args h v h' e Q hq => by
  simp only [runO8] at e
  split at e
  ·rename_i w hw
   simp only [Option.some.injEq, Prod.mk.injEq] at e
   obtain ⟨rfl, rfl⟩ := e
   exact zpK ok hw _ _ hq
  split at e
  ·cases e
  ·rename_i s hsf
   simp only [cond_eq_ite] at e
   split at e
   ·rename_i hle
    have hat := Bt.All.get ht hsf
    simp only [Nat.zero_add, Nat.one_mul] at hat
    obtain ⟨⟨fn', hfn, hq8⟩, hent⟩ := hat
    obtain ⟨sf, hcomp, _, hN, hroom, hok, hres, hbody⟩ := ziG hq8
    have hle' : args.length ≤ sf.N := by rw [<- hN]; exact Nat.le_of_ble_eq_true hle
    have fin : ∀ (ex : Exit) (t : T8) (h1 : Hp), (ex = .normal ∨ ex = .ret) -> s.body (runO8 l tab N d) N (zhr s.n args 0 .nil) h = some (ex, t, h1) -> (match resC s.res t h1.tr.get with | some vs => some (tupV vs, h1) | none => none) = some (v, h') -> Acalls P f args h.H Q := by
     intro ex t h1 hex hrun hr2
     refine zeZ hfn hcomp hent hle' ?_
     rw [<- zlS (n := s.n) (Nat.le_trans hle' (Nat.le_of_ble_eq_true hroom))]
     rw [hbody] at hrun
     refine zrJ (runO8_ok ok ht N d) N sf.body hok _ _ _ _ _ _ hrun ?_
     rw [hres, zhI] at hr2
     split at hr2
     ·rename_i vs hvs
      simp only [Option.some.injEq, Prod.mk.injEq] at hr2
      obtain ⟨rfl, rfl⟩ := hr2
      have hvs' : zbL h1.H.get (fn s.n t) sf.results = some vs := hvs
      rcases hex with rfl | rfl <;> simp only [zdB, hvs'] <;> exact hq
     ·cases hr2
    split at e
    ·rename_i t h1 hrun; exact fin _ t h1 (.inl rfl) hrun e
    ·rename_i t h1 hrun; exact fin _ t h1 (.inr rfl) hrun e
    ·cases e
   ·cases e
end Fr
theorem zkE {l : Fr.Known} (ok : Fr.KnownOk P l) {tab : Bt Fr.SF8} (ht : tab.All (Fr.Tab8 P) 0 1) {N d : Nat} {f : FuncId} {args : List V} {v : V} (e : Fr.plainRun (Fr.runO8 l tab N d) f args = some v) (h : H) : Pure P f args h v := by
 unfold Fr.plainRun at e
 split at e
 ·rename_i ha
  split at e
  ·rename_i w h1 e1
   split at e
   ·rename_i hv
    cases e
    exact zfw ha hv (fun Q q => Fr.runO8_ok ok ht N d f args ⟨0, .nil⟩ _ _ e1 _ (q _)) h
   ·cases e
  ·cases e
 ·cases e
end Go.Am
