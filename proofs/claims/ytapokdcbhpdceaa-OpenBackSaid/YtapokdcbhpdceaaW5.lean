/-
  Contracts: each (codes with so many bytes each), for any function that is told of them.
-/
import Derived.Test.YtapokdcbhpdceaaW4
namespace Go.Am
open Go.Proofs

set_option maxRecDepth 100000
/-- A state in the heap. -/
structure Tale {σ : Type} (I : σ → H → (Nat → Prop) → Prop) (low : Nat) : Prop where
  mono : ∀ st h own h', I st h own → h.next ≤ h'.next → h'.WF → (∀ j, j < h.next → j < low ∨ own j → h'.get j = h.get j) → I st h' own
  lt : ∀ st h own j, I st h own → own j → j < h.next
  low : ∀ st h own, I st h own → low ≤ h.next
def TellE {σ : Type} (fv : V) (I : σ → H → (Nat → Prop) → Prop) (step : σ → Nat → List UInt8 → Except Nat σ) : Prop :=
  ∀ st h own code bytes, h.WF → I st h own → code < 256 → bytes.length < 256 → ∀ Q : V → H → Prop, (∀ e, step st code bytes = .error e → ∀ h', Keeps h h' own (fun _ => False) → Q (badV e) h') →
    (∀ st', step st code bytes = .ok st' → ∀ h' own', I st' h' own' → Keeps h h' own own' → Q fineV h') → callK Try.prog fv [.int .u64 (code : Nat), .str bytes] h Q
def eachB {σ : Type} (step : σ → Nat → List UInt8 → Except Nat σ) (st : σ) (l : List UInt8) : Except Nat σ :=
  match l with
  | [] => .ok st
  | [_] => .error 0
  | c :: n :: l => if n.toNat ≤ l.length then (match step st c.toNat (l.take n.toNat) with | .ok st' => eachB step st' (l.drop n.toNat) | .error e => .error e) else .error 0
termination_by l.length
decreasing_by simp; omega
theorem each_ct {σ : Type} {I : σ → H → (Nat → Prop) → Prop} {low : Nat} {step : σ → Nat → List UInt8 → Except Nat σ} {fv : V} (T : Tale I low) (ht : TellE fv I step) {h : H} {st : σ} {own : Nat → Prop} (hi : I st h own) {s : List UInt8} (hs : s.length ≤ 1000000000) {Q : V → H → Prop}
    (qe : ∀ e, eachB step st s = .error e → ∀ h', Keeps h h' own (fun _ => False) → Q (badV e) h')
    (qo : ∀ st', eachB step st s = .ok st' → ∀ h' own', I st' h' own' → Keeps h h' own own' → Q fineV h') : Acalls Try.prog 59 [.str s, fv] h Q := by
  refine acalls_to Try.func59 S.open_each_code S.open_each_enter (Nat.le_of_ble_eq_true rfl) fun wf => ?_; simp only [S.open_each]
  have hlow := T.low _ _ _ hi
  have hown := fun j => T.lt _ _ _ j hi
  simp
  refine new_ct ?_
  simp
  obtain ⟨h1, hh1⟩ : ∃ h1, h1 = (h.push (.row [.int .i64 0, .int .u8 0, .int .u8 0])).push (rdr s) := ⟨_, rfl⟩
  have g1 : Ge h h1 := by rw [hh1]; exact ((Ge.refl _).push _).push _
  have w1 : h1.WF := by rw [hh1]; exact (wf.push _).push _
  have n1 : h1.next = h.next + 2 := by rw [hh1]; rfl
  have xr : h1.get h.next = some (.row [.int .i64 0, .int .u8 0, .int .u8 0]) := by rw [hh1]; simp
  have xd : h1.get (h.next + 1) = some (rdr s) := by rw [hh1]; simp
  rw [← hh1]
  refine loopA_of (fun k t h' => ∃ st' l own', l.length = k ∧ l.length ≤ s.length ∧ eachB step st s = eachB step st' l ∧ I st' h' own' ∧ (t 1 = fv ∧ t 4 = .ptr h.next 3 0 ∧ t 5 = .ptr (h.next + 1) 2 0) ∧ h'.get (h.next + 1) = some (rdr l) ∧ h'.get h.next = some (.row [.int .i64 0, .int .u8 0, .int .u8 0]) ∧
    h'.WF ∧ h.next + 2 ≤ h'.next ∧ (∀ j, j < h.next → ¬ own j → h'.get j = h.get j) ∧ ∀ j, own' j → own j ∨ h.next + 2 ≤ j) (n := s.length) ⟨st, s, own, rfl, Nat.le_refl _, rfl, T.mono _ _ _ _ hi g1.1 w1 (fun j hj _ => g1.2 j hj), by simp, xd, xr, w1, by omega, fun j hj _ => g1.2 j hj, fun j hj => .inl hj⟩ ?_
  rintro k t h2 ⟨st', l, own', hk, hle, hev, hI, ⟨t1, t4, t5⟩, xd, xr, w2, n2, fr, ow⟩ N hN
  have no1 : ¬ own' (h.next + 1) := fun hh => (ow _ hh).elim (fun h1 => by have := hown _ h1; omega) (fun h1 => by omega)
  have no0 : ¬ own' h.next := fun hh => (ow _ hh).elim (fun h1 => by have := hown _ h1; omega) (fun h1 => by omega)
  have err : ∀ e (g : H), eachB step st s = .error e → g.WF → h.next + 2 ≤ g.next → (∀ j, j < h.next → ¬ own j → g.get j = h.get j) → Q (badV e) (g.set h.next (.row [.int .i64 3, .int .u8 2, .int .u8 (e : Nat)])) := fun e g he wg ng fg => by
    refine qe e he _ ⟨wg.set (by omega) _, by simp; omega, fun j hj hno => ?_, fun _ h => h.elim⟩
    rw [H.get_set, if_neg (by omega), fg j hj hno]
  simp [t5]
  refine left_ct xd _ ?_
  match l, hk, hle, hev, xd with
  | [], hk, hle, hev, xd =>
    have hend : eachB step st s = .ok st' := by rw [hev]; simp [eachB]
    simp [t4, xr]
    refine qo st' hend _ own' (T.mono _ _ _ _ hI (by simp) (w2.set (by omega) _) (fun j hj hno => ?_)) ⟨w2.set (by omega) _, by simp; omega, fun j hj hno => ?_, fun j hj => (ow j hj).imp id (fun h => by omega)⟩
    · rw [H.get_set, if_neg]
      rintro rfl
      rcases hno with h | h
      · omega
      · exact no0 h
    · rw [H.get_set, if_neg (by omega), fr j hj hno]
  | [c], hk, hle, hev, xd =>
    have hend : eachB step st s = .error 0 := by rw [hev]; simp [eachB]
    simp [t5]
    refine number_yes xd 1 rfl (by omega) (by simp) ?_
    simp [t5]
    refine number_no (l := []) (by simp) 1 rfl (by omega) (by simp) _ ?_
    simp [t5]
    refine take_yes (l := []) (by simp) 0 (by decide) (by simp) ?_
    simp
    refine reset_ct _ ?_
    simp [t4, xr]
    have := err 0 (h2.set (h.next + 1) (rdr [])) hend (w2.set (by omega) _) (by simp; omega) (fun j hj hno => by rw [H.get_set, if_neg (by omega), fr j hj hno])
    exact this
  | c :: n :: l, hk, hle, hev, xd =>
    have hp : (0 : Int) < (l.length : Int) + 1 + 1 := by omega
    simp [t5, hp]
    refine number_yes xd 1 rfl (by omega) (by simp) ?_
    simp [t5]
    refine number_yes (l := n :: l) (by simp) 1 rfl (by omega) (by simp) ?_
    have vn : val [n] = n.toNat := by simp [val]
    have vc : val [c] = c.toNat := by simp [val]
    have hnl : n.toNat < 256 := n.toNat_lt
    have hcl : c.toNat < 256 := c.toNat_lt
    have wn : IntKind.i64.wrap (n.toNat : Int) = (n.toNat : Int) := wrap_nat (by omega)
    simp [t5, vn, vc, wn]
    by_cases hnn : n.toNat ≤ l.length
    · have hev' : eachB step st s = (match step st' c.toNat (l.take n.toNat) with | .ok st' => eachB step st' (l.drop n.toNat) | .error e => .error e) := by
        rw [hev, eachB, if_pos hnn]
      refine take_yes (l := l) (by simp) n.toNat rfl hnn ?_
      obtain ⟨g, hg⟩ : ∃ g, g = h2.set (h.next + 1) (rdr (l.drop n.toNat)) := ⟨_, rfl⟩
      have ng : g.next = h2.next := by rw [hg]; rfl
      have wg : g.WF := by rw [hg]; exact w2.set (by omega) _
      have gd : g.get (h.next + 1) = some (rdr (l.drop n.toNat)) := by rw [hg]; simp
      have gr : g.get h.next = some (.row [.int .i64 0, .int .u8 0, .int .u8 0]) := by rw [hg, H.get_set, if_neg (by omega), xr]
      have gf : ∀ j, j < h.next → ¬ own j → g.get j = h.get j := fun j hj hno => by rw [hg, H.get_set, if_neg (by omega), fr j hj hno]
      have hIg : I st' g own' := T.mono _ _ _ _ hI (by omega) wg (fun j hj hno => by
        rw [hg, H.get_set, if_neg]
        rintro rfl
        rcases hno with h | h
        · omega
        · exact no1 h)
      have hsg : (h2.set (h.next + 1) (rdr l)).set (h.next + 1) (rdr (l.drop n.toNat)) = g := by rw [hg]; simp
      rw [hsg]
      simp [t1]
      refine ht st' g own' c.toNat (l.take n.toNat) wg hIg hcl (by simp; omega) _ (fun e he h3 kp => ?_) (fun st2 he h3 own2 hI3 kp => ?_)
      · rw [he] at hev'
        have n3 := kp.next
        have r3 : h3.get h.next = some (.row [.int .i64 0, .int .u8 0, .int .u8 0]) := by rw [kp.old _ (by omega) no0, gr]
        simp [badV, t4, r3, show ¬ h.next = h3.next by omega]
        refine qe e hev' _ ⟨?_, by simp; omega, fun j hj hno => ?_, fun _ h => h.elim⟩
        · exact ((kp.wf.push _).set (by simp) _).set (by simp; omega) _
        · rw [H.get_set, if_neg (by omega), H.get_set, if_neg (by omega), H.get_push, if_neg (by omega), kp.old j (by omega) (fun h => (ow j h).elim hno (fun h => by omega)), gf j hj hno]
      · rw [he] at hev'
        have n3 := kp.next
        have r3 : h3.get h.next = some (.row [.int .i64 0, .int .u8 0, .int .u8 0]) := by rw [kp.old _ (by omega) no0, gr]
        have d3 : h3.get (h.next + 1) = some (rdr (l.drop n.toNat)) := by rw [kp.old _ (by omega) no1, gd]
        simp [fineV]
        have ow3 : ∀ j, own2 j → own j ∨ h.next + 2 ≤ j := fun j hj => (kp.own j hj).elim (ow j) (fun h => .inr (by omega))
        have g45 : Ge h3 ((h3.push (.row [.int .i64 0, .int .u8 0, .int .u8 0])).set h3.next (.row [.int .i64 0, .int .u8 0, .int .u8 0])) := ((Ge.refl _).push _).set (Nat.le_refl _) _
        have w45 : ((h3.push (.row [.int .i64 0, .int .u8 0, .int .u8 0])).set h3.next (.row [.int .i64 0, .int .u8 0, .int .u8 0])).WF := (kp.wf.push _).set (by simp) _
        refine hN ((l.drop n.toNat).length) _ _ (by simp at hk ⊢; omega) ⟨st2, l.drop n.toNat, own2, rfl, by simp at hle ⊢; omega, hev', T.mono _ _ _ _ hI3 g45.1 w45 (fun j hj _ => g45.2 j hj), by simp [t1, t4, t5], ?_, ?_, w45, by simp; omega, fun j hj hno => ?_, ow3⟩
        · rw [g45.2 _ (by omega), d3]
        · rw [g45.2 _ (by omega), r3]
        · rw [g45.2 _ (by omega), kp.old j (by omega) (fun h => (ow j h).elim hno (fun h => by omega)), gf j hj hno]
    · have hend : eachB step st s = .error 0 := by rw [hev, eachB, if_neg hnn]
      refine take_no (l := l) (by simp) (.inr (by omega)) _ ?_
      simp
      refine reset_ct _ ?_
      simp [t4, xr]
      have := err 0 (h2.set (h.next + 1) (rdr l)) hend (w2.set (by omega) _) (by simp; omega) (fun j hj hno => by rw [H.get_set, if_neg (by omega), fr j hj hno])
      exact this

/-! ### The open in the making -/
def IO (base : H) (q : Nat) (o : Opn) (h : H) (own : Nat → Prop) : Prop := FamOk o.fams ∧ q < base.next ∧ ∃ f a k, Rws base h q base.next (oR o) (oL o f a k) ∧ own = owns q f a k
theorem owns_lt {base h : H} {q lo : Nat} {r : List V → List V} {o : Opn} {f a k : V} (X : Rws base h q lo r (oL o f a k)) (hq : q < h.next) {j : Nat} (hj : owns q f a k j) : j < h.next := by
  rcases Nat.lt_or_ge j h.next with h1 | h1
  · exact h1
  · exact absurd hj (not_owns X hq h1)
theorem tale {base : H} {q : Nat} : Tale (IO base q) base.next where
  mono := by
    rintro o h own h' ⟨hF, hq, f, a, k, X, rfl⟩ hn hw hk
    have hn0 := X.ge.1
    simp only [H.next_set] at hn0
    obtain ⟨g1, g2, g3, d1, d2, d3⟩ := X.gl3
    refine ⟨hF, hq, f, a, k, Rws.mk3 ⟨by simp; omega, fun j hj => ?_⟩ hw (g1.keep hn fun j hj => hk j (g1.lo j hj).2 (.inr (.inr (.inl hj)))) (g2.keep hn fun j hj => hk j (g2.lo j hj).2 (.inr (.inr (.inr (.inl hj))))) (g3.keep hn fun j hj => hk j (g3.lo j hj).2 (.inr (.inr (.inr (.inr hj))))) d1 d2 d3, rfl⟩
    simp only [H.next_set] at hj
    rw [hk j (by omega) (.inl hj)]
    exact X.ge.2 j hj
  lt := by
    rintro o h own j ⟨hF, hq, f, a, k, X, rfl⟩ hj
    have hn0 := X.ge.1
    simp only [H.next_set] at hn0
    exact owns_lt X (by omega) hj
  low := by
    rintro o h own ⟨hF, hq, f, a, k, X, rfl⟩
    have hn0 := X.ge.1
    simpa using hn0
theorem capS_fam {o o' : Opn} {code : Nat} {s : List UInt8} (h : FamOk o.fams) (e : capS o code s = .ok o') : FamOk o'.fams := by
  unfold capS at e
  repeat' split at e
  all_goals first | (cases e; done) | (cases e; first | exact h | (simp only; exact withB_ok _ _))
theorem tell61 {base : H} {q : Nat} : TellE (.func (.func 61) [] [.ptr q 11 0]) (IO base q) capS := by
  rintro o h own code bytes wf0 ⟨hF, hq, f, a, k, X, rfl⟩ hc hb Q qe qo
  simp
  refine (?_ : Acalls Try.prog 61 [.int .u64 (code : Nat), .str bytes, .ptr q 11 0] h Q)
  refine acalls_to Try.func61 S.open_Decode_1_1_code S.open_Decode_1_1_enter (Nat.le_of_ble_eq_true rfl) fun wf => ?_; simp only [S.open_Decode_1_1]
  have hn0 := X.ge.1
  simp only [H.next_set] at hn0
  simp
  have g1 : Ge h (h.push (.row [.int .i64 0, .int .u8 0, .int .u8 0])) := (Ge.refl _).push _
  have X1 := X.step g1 (wf.push _)
  have no : ¬ owns q f a k h.next := not_owns X (by omega) (Nat.le_refl _)
  refine cap_ct X1 hq rfl hF hc hb (fun e he h2 g2 w2 => ?_) (fun o' he f' a' k' h2 X2 kp => ?_)
  · have r2 : h2.get h.next = some (.row [.int .i64 0, .int .u8 0, .int .u8 0]) := by rw [g2.2 _ (by simp)]; simp
    have n2 := g2.1
    simp at n2
    simp [badV, r2]
    refine qe e he _ ⟨w2.set (by omega) _, by simp; omega, fun j hj hno => ?_, fun _ h => h.elim⟩
    rw [H.get_set, if_neg (by omega), g2.2 _ (by simp; omega), H.get_push, if_neg (by omega)]
  · have n2 := kp.next
    simp at n2
    have r2 : h2.get h.next = some (.row [.int .i64 0, .int .u8 0, .int .u8 0]) := by rw [kp.old _ (by simp) no]; simp
    have no' : ¬ owns q f' a' k' h.next := fun hh => (kp.own _ hh).elim no (fun h => by simp at h; omega)
    simp [fineV, r2]
    refine qo o' he _ (owns q f' a' k') ⟨capS_fam hF he, hq, f', a', k', X2.turn (by omega) (by omega) (by omega) (oL_ids no') _, rfl⟩ ⟨kp.wf.set (by omega) _, by simp; omega, fun j hj hno => ?_, fun j hj => ?_⟩
    · rw [H.get_set, if_neg (by omega), kp.old _ (by simp; omega) hno, H.get_push, if_neg (by omega)]
    · exact (kp.own j hj).imp id (fun h => by simp at h; omega)
end Go.Am
