/-
  N4, N5, N6, in one text.
-/
import Derived.Test.YtcokdbloajhapaaGreatDoorMF
/-
  Contracts: bytes that grow behind a pointer; Encode.
-/
namespace Go.Am
open Go.Proofs

set_option maxRecDepth 100000
@[simp] theorem solid_ptr (i n o : Nat) : (V.ptr i n o).solid = true := _root_.id rfl
@[simp] theorem cells_ptr (i n o : Nat) : (V.ptr i n o).cells = [.ptr i n o] := _root_.id rfl
/-- 'v' is a row of bytes that was built by append from nothing. -/
def Gb (h : H) (lo : Nat) (v : V) (l : List UInt8) : Prop :=
  (l = [] ∧ v = .nilsl) ∨ (l ≠ [] ∧ ∃ j, lo ≤ j ∧ j < h.next ∧ v = .sl j l.length 0 l.length none ∧ h.get j = some (.grow 1 (l.map byteV)))
theorem Gb.one {h : H} {lo : Nat} {v : V} {l : List UInt8} (g : Gb h lo v l) : v.one = true := by
  rcases g with ⟨_, rfl⟩ | ⟨_, j, _, _, rfl, _⟩ <;> rfl
theorem byteV_ids (l : List UInt8) : V.idss (l.map byteV) = [] := by
  induction l with
  | nil => rfl
  | cons b l ih => simp [V.idss, byteV, V.ids, ih]
theorem byteV_all (l : List UInt8) : (l.map byteV).all V.one = true := by simp [byteV]
/-- A string of bytes is appended. -/
theorem Gb.append {h : H} {lo : Nat} {v : V} {l : List UInt8} (g : Gb h lo v l) (hlo : lo ≤ h.next) (s : List UInt8) (hb : l.length + s.length ≤ 1000000000) :
    ∃ v' d, appendV h.get h.next 1 1 v (.str s) = some (v', d) ∧ Gb (h.app d) lo v' (l ++ s) ∧ h.next ≤ (h.app d).next ∧ (∀ b cs, h.get b = some (.row cs) → b < h.next → (h.app d).get b = some (.row cs)) ∧ (∀ b, b < lo → (h.app d).get b = h.get b) ∧ (h.WF → (h.app d).WF) := by
  have hx : elemsV h.get 1 (.str s) = some (s.length, s.map byteV) := by simp [elemsV]
  by_cases h0 : s = []
  · subst h0
    refine ⟨v, .keep, ?_, by simpa using g, Nat.le_refl _, fun _ _ e _ => e, fun _ _ => rfl, fun w => w⟩
    unfold appendV
    rw [hx]
    rcases g with ⟨_, rfl⟩ | ⟨_, j, _, _, rfl, _⟩ <;> simp
  · have hs : s.length ≠ 0 := by simpa using h0
    rcases g with ⟨rfl, rfl⟩ | ⟨hne, j, g1, g2, rfl, g3⟩
    · refine ⟨_, _, appendV_nil hx hs (byteV_all s) (by omega) (by simp at hb; omega) (by simp at hb; omega), .inr ⟨by simpa using h0, h.next, hlo, by simp, by simp, by simp⟩, by simp, fun b cs e hlt => ?_, fun b hb => ?_, fun w => w.push _⟩
      · rw [app_push, H.get_push, if_neg (by omega)]; exact e
      · rw [app_push, H.get_push, if_neg (by omega)]
    · refine ⟨_, _, appendV_grow g3 (by simp) (by simp) hx hs (byteV_all s) (by omega) (by omega) (by omega), .inr ⟨by simp [hne], j, g1, by simpa using g2, by simp, by simp⟩, by simp, fun b cs e hlt => ?_, fun b hb => ?_, fun w => w.set g2 _⟩
      · rw [app_set, H.get_set]
        split
        · rename_i e2; rw [e2, g3] at e; cases e
        · exact e
      · rw [app_set, H.get_set, if_neg (by omega)]
theorem Gb.elems {h : H} {lo : Nat} {v : V} {l : List UInt8} (g : Gb h lo v l) : elemsV h.get 1 v = some (l.length, l.map byteV) := by
  rcases g with ⟨rfl, rfl⟩ | ⟨hne, j, g1, g2, rfl, g3⟩
  · rfl
  · have : l.length ≠ 0 := by simpa using hne
    rw [elemsV_sl, if_neg this, cellsAt_of g3 (by simp)]
    simp [List.take_of_length_le]
/-- A buffer behind a pointer at 'o', over the heap 'h0'. -/
structure Buf (h0 : H) (o : Nat) (acc : List UInt8) (h : H) : Prop where
  ge : Ge h0 h
  wf : h.WF
  lt : o < h.next
  lo : h0.next ≤ o
  at_ : ∃ v, h.get o = some (.row [v]) ∧ Gb h (o + 1) v acc
/-- Rows are kept, but the one at 'o'. -/
def Keeps (o : Nat) (h h' : H) : Prop := h.next ≤ h'.next ∧ ∀ b cs, b ≠ o → h.get b = some (.row cs) → h'.get b = some (.row cs)
theorem Keeps.refl (o : Nat) (h : H) : Keeps o h h := ⟨Nat.le_refl _, fun _ _ _ e => e⟩
theorem Keeps.trans {o : Nat} {a b c : H} (x : Keeps o a b) (y : Keeps o b c) : Keeps o a c := ⟨Nat.le_trans x.1 y.1, fun i cs hi e => y.2 i cs hi (x.2 i cs hi e)⟩
theorem Keeps.push {o : Nat} {h h' : H} (k : Keeps o h h') (w : h'.WF) (x : O) : Keeps o h (h'.push x) := ⟨by have := k.1; simp; omega, fun b cs hb e => by
  have := k.2 b cs hb e
  rw [H.get_push, if_neg (by have := w.lt this; omega)]; exact this⟩
theorem Buf.push {h0 h : H} {o : Nat} {acc : List UInt8} (b : Buf h0 o acc h) (x : O) : Buf h0 o acc (h.push x) := by
  obtain ⟨v, h1, h2⟩ := b.at_
  have hlt := b.lt
  refine ⟨b.ge.push x, b.wf.push x, by have := b.lt; simp; omega, b.lo, v, by rw [H.get_push, if_neg (by omega)]; exact h1, ?_⟩
  rcases h2 with ⟨rfl, rfl⟩ | ⟨hne, j, g1, g2, rfl, g3⟩
  · exact .inl ⟨rfl, rfl⟩
  · exact .inr ⟨hne, j, g1, by simp; omega, rfl, by rw [H.get_push, if_neg (by omega)]; exact g3⟩
/-- A row that is not the buffer's is written anew. -/
theorem Buf.set {h0 h : H} {o : Nat} {acc : List UInt8} (b : Buf h0 o acc h) {i : Nat} {cs : List V} (hi : h.get i = some (.row cs)) (hne : i ≠ o) (h0i : h0.next ≤ i) (x : O) : Buf h0 o acc (h.set i x) := by
  obtain ⟨v, h1, h2⟩ := b.at_
  refine ⟨b.ge.set h0i x, b.wf.set (b.wf.lt hi) x, b.lt, b.lo, v, by rw [H.get_set, if_neg (Ne.symm hne)]; exact h1, ?_⟩
  rcases h2 with ⟨rfl, rfl⟩ | ⟨hne2, j, g1, g2, rfl, g3⟩
  · exact .inl ⟨rfl, rfl⟩
  · exact .inr ⟨hne2, j, g1, g2, rfl, by rw [H.get_set, if_neg (fun e => by rw [e, hi] at g3; cases g3)]; exact g3⟩
theorem Buf.pushed {h0 h : H} {o : Nat} {acc : List UInt8} (b : Buf h0 o acc h) (cs : List V) (y : O) : Buf h0 o acc ((h.push (.row cs)).set h.next y) :=
  (b.push (.row cs)).set (cs := cs) (by simp) (by have := b.lt; omega) (by have := b.ge.1; omega) y
/-- A string is appended to the buffer. -/
theorem Buf.add {h0 h : H} {o : Nat} {acc : List UInt8} (b : Buf h0 o acc h) (s : List UInt8) (hb : acc.length + s.length ≤ 1000000000) :
    ∃ v v' d, h.get o = some (.row [v]) ∧ appendV h.get h.next 1 1 v (.str s) = some (v', d) ∧ v'.one = true ∧ (h.app d).get o = some (.row [v]) ∧ Buf h0 o (acc ++ s) ((h.app d).set o (.row [v'])) ∧ Keeps o h ((h.app d).set o (.row [v'])) := by
  obtain ⟨v, h1, h2⟩ := b.at_
  have hlt := b.lt
  have hlo := b.lo
  obtain ⟨v', d, a1, a2, a3, a4, a5, a6⟩ := h2.append (by omega) s hb
  have go : (h.app d).get o = some (.row [v]) := a4 o _ h1 hlt
  have hw := a6 b.wf
  refine ⟨v, v', d, h1, a1, a2.one, go, ⟨?_, hw.set (hw.lt go) _, by have := b.lt; simp; omega, hlo, v', by simp, ?_⟩, ⟨by simpa using a3, fun x cs hx e => ?_⟩⟩
  · refine Ge.set ⟨by have := b.ge.1; omega, fun i hi => ?_⟩ hlo _
    rw [a5 i (by omega)]
    exact b.ge.2 i hi
  · rcases a2 with ⟨e1, e2⟩ | ⟨hne, j, g1, g2, e2, g3⟩
    · exact .inl ⟨e1, e2⟩
    · exact .inr ⟨hne, j, g1, by simpa using g2, e2, by rw [H.get_set, if_neg (by omega)]; exact g3⟩
  · rw [H.get_set, if_neg hx]
    exact a4 x cs e (b.wf.lt e)
theorem put1_ct {h0 h : H} {o : Nat} {acc : List UInt8} (b : Buf h0 o acc h) {x size : Nat} (hs : 1 ≤ size) (hs2 : size ≤ 8) (hx : x < 256 ^ size) (hb : acc.length ≤ 900000000) :
    ∃ h', (∀ Q : V → H → Prop, Q (.tup []) h' → Acalls Tryz.prog 33 [.int .u64 x, .int .i64 size, .ptr o 1 0] h Q) ∧ Buf h0 o (acc ++ be size x) h' ∧ Keeps o h h' := by
  obtain ⟨v, v', d, h1, h2, h3, h4, h5, h6⟩ := b.add (be size x) (by rw [be_len]; omega)
  refine ⟨_, fun Q q => ?_, h5, h6⟩
  refine acalls_to Tryz.func33 S.nlri_Encode_1_code S.nlri_Encode_1_enter (Nat.le_of_ble_eq_true rfl) fun wf => ?_; simp only [S.nlri_Encode_1]
  simp
  refine put_ct hs hs2 hx (by simp) _ ?_
  have c1 := cellsAt_of h1 (n := 1) rfl
  have hso := solid_of_one h3
  have hce := cells_of_one h3
  simp at c1
  simp [c1, h2, h4, hso, hce]
  exact q
/-- Which told prefixes are laid. -/
def encOk (fam : Int) (add : Bool) (n : Nl) : Bool := mayN n && (n.p.fam == fam) && (decide (n.id = 0) || add)
def encS (l : List Nl) (fam : Int) (add : Bool) : Option (List UInt8) := if sizeN fam = 0 then none else if l.all (encOk fam add) = true then some (encL add l) else none
structure NlFit (n : Nl) : Prop where
  id : n.id < 4294967296
  rd : n.p.rd < 18446744073709551616
end Go.Am

/-
  Encode's contract.
-/
namespace Go.Am
open Go.Proofs

set_option maxRecDepth 100000
theorem plain1 {P : Program} {k : Nat} {fn : List V → Option V} (c : ∀ vals v, fn vals = some v → ∀ h, Pure P k vals h v) : ∀ p ∈ [(k, fn)], ∀ vals v, p.2 vals = some v → ∀ h, Acalls P p.1 vals h fun u h' => u = v ∧ h' = h := by
  intro p hp vals v e h
  rw [List.mem_singleton] at hp
  subst hp
  exact c vals v e h _ ⟨rfl, rfl⟩
def aheadP : List V → Option V
  | [.int .i64 f] => some (.int .i64 (aheadN f : Nat))
  | _ => none
def wholeP : List V → Option V
  | [.int .i64 b] => if 0 ≤ b ∧ b < 1000000 then some (.int .i64 (wholeN b.toNat : Nat)) else none
  | _ => none
@[simp] theorem aheadP_eq (f : Int) : aheadP [.int .i64 f] = some (.int .i64 (aheadN f : Nat)) := rfl
theorem wholeP_eq {n : Nat} (h : n < 1000000) : wholeP [.int .i64 (n : Nat)] = some (.int .i64 (wholeN n : Nat)) := by
  simp only [wholeP]
  rw [if_pos ⟨by omega, by omega⟩]; simp
theorem aheadP_ok : ∀ vals v, aheadP vals = some v → ∀ h, Pure Tryz.prog 22 vals h v := by
  intro vals v e h
  unfold aheadP at e
  split at e
  · cases e; exact ahead_ct
  · cases e
theorem wholeP_ok : ∀ vals v, wholeP vals = some v → ∀ h, Pure Tryz.prog 21 vals h v := by
  intro vals v e h
  unfold wholeP at e
  split at e
  · rename_i b
    split at e
    · rename_i hb
      cases e
      obtain ⟨n, rfl⟩ : ∃ n : Nat, b = n := ⟨b.toNat, by omega⟩
      exact whole_ct (by omega)
    · cases e
  · cases e
theorem or_one : ∀ v : Nat, v < 4294967296 → (BitVec.ofInt 64 ((v * 16 : Nat) : Int) ||| BitVec.ofInt 64 1).toNat = v * 16 + 1 := by
  intro v hv
  have h1 : (BitVec.ofInt 64 ((v * 16 : Nat) : Int)).toNat = 2 ^ 4 * v := by simp [BitVec.toNat_ofInt]; omega
  have h2 : (BitVec.ofInt 64 1).toNat = 1 := by decide
  rw [BitVec.toNat_or, h1, h2, ← Nat.two_pow_add_eq_or_of_lt (by omega)]; omega
end Go.Am

/-
  Encode's contract.
-/
namespace Go.Am
open Go.Proofs

set_option maxRecDepth 100000
theorem sz_ahead {fam : Int} (h0 : sizeN fam ≠ 0) : sizeN fam * 8 + aheadN fam < 256 := by
  unfold sizeN aheadN labelF apartF
  by_cases e1 : fam = 1
  · subst e1; decide
  by_cases e2 : fam = 2
  · subst e2; decide
  by_cases e3 : fam = 3
  · subst e3; decide
  by_cases e4 : fam = 4
  · subst e4; decide
  by_cases e5 : fam = 5
  · subst e5; decide
  exfalso; apply h0; unfold sizeN; rw [if_neg (by omega), if_neg (by omega)]
theorem may_len {n : Nl} (h : mayN n = true) : n.p.len.toNat ≤ 128 := by
  simp only [mayN, mayP, Bool.and_eq_true, Bool.or_eq_true, decide_eq_true_eq] at h
  have := size_le n.p.fam
  omega
theorem enc1_le {add : Bool} {n : Nl} (h : mayN n = true) : (enc1 add n).length ≤ 32 := by
  have hl := may_len h
  simp only [enc1, List.length_append, be_len, List.length_take]
  have h1 : (if add = true then be 4 n.id else []).length ≤ 4 := by split <;> simp [be_len]
  have h2 : (if labelF n.p.fam = true then be 3 (n.label * 16 + 1) else []).length ≤ 3 := by split <;> simp [be_len]
  have h3 : (if apartF n.p.fam = true then be 8 n.p.rd else []).length ≤ 8 := by split <;> simp [be_len]
  unfold wholeN
  omega
theorem encL_le {add : Bool} : ∀ {l : List Nl}, (∀ n ∈ l, mayN n = true) → (encL add l).length ≤ 32 * l.length
  | [], _ => by simp [encL]
  | n :: l, h => by
    have h1 := enc1_le (add := add) (h n (by simp))
    have h2 := encL_le (add := add) (l := l) fun m hm => h m (by simp [hm])
    simp only [encL, List.flatMap_cons, List.length_append, List.length_cons] at h2 ⊢
    omega
def EncT (fam : Int) (add : Bool) (o : Nat) (sl : V) (len i b : Nat) (t : Tm) : Prop :=
  t 1 = .int .i64 fam ∧ t 2 = .bool add ∧ t 8 = .ptr o 1 0 ∧ t 9 = .func (.func 33) [] [.ptr o 1 0] ∧ t 11 = .ptr b 6 0 ∧ t 12 = .ptr (b + 1) 4 0 ∧ t 17 = sl ∧ t 18 = .int .i64 len ∧ t 19 = .int .i64 i
theorem ptr_ids (o : Nat) : V.idss [V.ptr o 1 0] = [o] := rfl
theorem encode_ct {h : H} {sl : V} {l : List Nl} {fam : Int} {add : Bool} (hs : Sls h.get 6 sl (l.map nlC)) (hl : l.length ≤ 10000000) (hf : ∀ n ∈ l, NlFit n) :
    Pure Tryz.prog 14 [sl, .int .i64 fam, .bool add] h (match encS l fam add with | some s => .tup [.str s, .int .i64 0] | none => .tup [.str [], .int .i64 2]) := by
  refine pure_to Tryz.func14 S.nlri_Encode_code S.nlri_Encode_enter (by split <;> rfl) (Nat.le_of_ble_eq_true rfl) fun wf => ?_; simp only [S.nlri_Encode]
  simp
  refine psize_ct _ ?_
  by_cases z : sizeN fam = 0
  · simp [z, encS]
  have bz : (((sizeN fam : Nat) : Int) == 0) = false := beq_no (by omega)
  have hlen := hs.lenG wf (n := l.length) (by simp)
  simp [bz, hlen]
  have b0 : Buf h h.next [] (h.push (.row [.nilsl])) := ⟨(Ge.refl _).push _, wf.push _, by simp, Nat.le_refl _, .nilsl, by simp, .inl ⟨rfl, rfl⟩⟩
  refine loop_up (fun i t h' => (t 1 = .int .i64 fam ∧ t 2 = .bool add ∧ t 8 = .ptr h.next 1 0 ∧ t 9 = .func (.func 33) [] [.ptr h.next 1 0] ∧ t 17 = sl ∧ t 18 = .int .i64 l.length ∧ t 19 = .int .i64 i) ∧ Buf h h.next (encL add (l.take i)) h' ∧ ∀ n ∈ l.take i, encOk fam add n = true) l.length ⟨by simp, by simpa [encL] using b0, by simp⟩ ?_
  rintro i t h' hi ⟨⟨t1, t2, t8, t9, t17, t18, t19⟩, hb, hok⟩ K hK
  by_cases hlt : i < l.length
  · obtain ⟨p, q, o, cs, e1, e2, e3, e4, e5, e6⟩ := hs.atG wf (k := i) (by simpa using hlt)
    obtain ⟨n, hn⟩ : ∃ n, n = l[i] := ⟨_, rfl⟩
    have e5' : (cs.drop o).take 6 = nlC n := by rw [e5, hn]; simp
    have e3' := e3 h' hb.ge
    have e1' := e1 .i64
    have fit := hf n (by rw [hn]; exact List.getElem_mem _)
    have hw := wrap_succ hlt (by omega)
    have one1 : (nlC n).all V.one = true := rfl
    have hnx : h'.next ≠ h.next := by have := hb.lt; omega
    simp [t17, t18, t19, hlt, e1', e3', e4, e5', nlC]
    generalize hh2 : H.set _ (h'.next + 1) _ = h2
    have G2 : h2.get h'.next = some (.row (nlC n)) ∧ h2.get (h'.next + 1) = some (.row (pfxC n.p)) ∧ Buf h h.next (encL add (l.take i)) h2 := by
      subst hh2
      have hbl := hb.lt
      refine ⟨by simp [nlC], by simp [pfxC], ?_⟩
      exact (hb.pushed _ _).pushed _ _
    clear hh2
    obtain ⟨G1, G3, B2⟩ := G2
    have c1 := cellsAt_of G1 (n := 6) (by simp [nlC])
    have c2 := cellsAt_of G3 (n := 4) (by simp [pfxC])
    simp [nlC] at c1
    simp [pfxC] at c2
    refine ncheck_ct (n := n) _ ?_
    have hno : encOk fam add n = false → encS l fam add = none := fun e => by
      have : l.all (encOk fam add) = false := by rw [List.all_eq_false]; exact ⟨n, by rw [hn]; exact List.getElem_mem _, by simp [e]⟩
      simp [encS, this]
    cases hm : mayN n with
    | false =>
      simp [hno (by simp [encOk, hm])]
      exact B2.ge
    | true =>
    by_cases hfam : n.p.fam = fam
    rotate_left
    · have bf : (n.p.fam != fam) = true := by simpa using hfam
      simp [t1, c2, bf, hno (by simp [encOk, hfam])]
      exact B2.ge
    have bf : (n.p.fam != fam) = false := by simp [hfam]
    by_cases hid : n.id = 0 ∨ add = true
    rotate_left
    · have h1 : ¬ n.id = 0 := fun e => hid (.inl e)
      have h2 : add = false := by cases add; rfl; exact absurd (.inr rfl) hid
      have h3 : 0 < n.id := by omega
      have hn0 := hno (by simp [encOk, h1, h2])
      rw [h2] at hn0
      simp [t1, t2, c1, c2, bf, h2, h3, hn0]
      exact B2.ge
    have hE : encOk fam add n = true := by simp [encOk, hm, hfam, hid]
    simp [t1, c1, c2, bf]
    refine guard_meet (fun t' h3 => EncT fam add h.next sl l.length i h'.next t' ∧ t' 42 = .bool false ∧ h3 = h2) (fun R hR => ?_) ?_
    · by_cases hz : 0 < n.id
      · have hadd : add = true := by rcases hid with e | e; omega; exact e
        simp [hz, hadd, t2]
        exact hR _ _ ⟨by simp [EncT, t1, t2, t8, t9, t17, t18, t19, hadd], by simp, rfl⟩
      · simp [hz]
        exact hR _ _ ⟨by simp [EncT, t1, t2, t8, t9, t17, t18, t19], by simp, rfl⟩
    clear t1 t2 t8 t9 t17 t18 t19
    rintro t' h3 ⟨⟨t1, t2, t8, t9, t11, t12, t17, t18, t19⟩, t42, rfl⟩
    have hC : ∀ x, Keeps h.next h3 x → cellsAt x.get h'.next 6 = some (nlC n) ∧ cellsAt x.get (h'.next + 1) 4 = some (pfxC n.p) := fun x kx =>
      ⟨by rw [cellsAt_of (kx.2 _ _ hnx G1) (by simp [nlC])]; rfl, by rw [cellsAt_of (kx.2 _ _ (by have := hb.lt; omega) G3) (by simp [pfxC])]; rfl⟩
    have hok1 : NlOk fam add n := ⟨hm, hfam, fun e => (by rcases hid with h1 | h1; exact h1; rw [e] at h1; cases h1), fit.id, fit.rd⟩
    obtain ⟨o0, o1, o2, o3, o4, o5, o6, o7⟩ := hok1.parts
    have sle := size_le fam
    have ale := ahead_le fam
    obtain ⟨ln, hln⟩ : ∃ ln : Nat, n.p.len = ln := ⟨n.p.len.toNat, by omega⟩
    have hbl : (encL add (l.take i)).length ≤ 400000000 := by
      have := encL_le (add := add) (l := l.take i) fun m hm => by have := hok m hm; simp only [encOk, Bool.and_eq_true] at this; exact this.1.1
      rw [List.length_take] at this; omega
    have hsa := sz_ahead o0
    have i1 : (if add = true then be 4 n.id else []).length ≤ 4 := by split <;> simp [be_len]
    have i2 : (if labelF fam = true then be 3 (n.label * 16 + 1) else []).length ≤ 3 := by split <;> simp [be_len]
    have i3 : (if apartF fam = true then be 8 n.p.rd else []).length ≤ 8 := by split <;> simp [be_len]
    simp [t42, t2]
    refine cond_cut (fun t' h4 => EncT fam add h.next sl l.length i h'.next t' ∧ Buf h h.next (encL add (l.take i) ++ (if add = true then be 4 n.id else [])) h4 ∧ Keeps h.next h3 h4) (fun e R hR => ?_) (fun e R hR => ?_) ?_
    · subst e
      have w : IntKind.u64.wrap (n.id : Int) = n.id := u64_id (by have := fit.id; omega)
      obtain ⟨h4, p1, p2, p3⟩ := put1_ct B2 (x := n.id) (size := 4) (by omega) (by omega) (by have := fit.id; omega) (by omega)
      simp [t9, t11, c1, w]
      refine p1 _ ?_
      simp
      exact hR _ _ ⟨by simp [EncT, t1, t2, t8, t9, t11, t12, t17, t18, t19], by simpa using p2, p3⟩
    · subst e
      simp
      exact hR _ _ ⟨⟨t1, t2, t8, t9, t11, t12, t17, t18, t19⟩, by simpa using B2, Keeps.refl _ _⟩
    clear t1 t2 t8 t9 t11 t12 t17 t18 t19 t42
    rintro t' h4 ⟨⟨t1, t2, t8, t9, t11, t12, t17, t18, t19⟩, B4, k4⟩
    simp
    refine dreg_plain [(22, aheadP)] (plain1 aheadP_ok) (by rfl) ?_
    obtain ⟨d1, d2⟩ := hC h4 k4
    simp [pfxC] at d2
    have w1 : IntKind.i64.wrap ((ln : Int) + (aheadN fam : Nat)) = ((ln + aheadN fam : Nat) : Int) := by rw [wrap_i64_id (by omega) (by omega)]; omega
    have w2 : IntKind.u64.wrap ((ln : Int) + (aheadN fam : Nat)) = ((ln + aheadN fam : Nat) : Int) := by rw [← u64_id (n := ln + aheadN fam) (by omega)]; congr 1
    simp [t1, t9, t12, d2, hln, w1]
    obtain ⟨h5, p1, B5, k5⟩ := put1_ct B4 (x := ln + aheadN fam) (size := 1) (by omega) (by omega) (by omega) (by simp only [List.length_append]; omega)
    refine scall_of (v := .tup []) (h' := h5) (fun Q q => ?_) ?_
    · simp only [List.nil_append, w2]; exact p1 Q q
    obtain ⟨d1, d2⟩ := hC h5 (k4.trans k5)
    simp [nlC] at d1
    simp [t1]
    refine nlabel_ct _ ?_
    simp
    refine cond_cut (fun t' h6 => EncT fam add h.next sl l.length i h'.next t' ∧ Buf h h.next (((encL add (l.take i) ++ (if add = true then be 4 n.id else [])) ++ be 1 (ln + aheadN fam)) ++ (if labelF fam = true then be 3 (n.label * 16 + 1) else [])) h6 ∧ Keeps h.next h3 h6) (fun e R hR => ?_) (fun e R hR => ?_) ?_
    · have w3 : IntKind.u64.wrap (n.label : Int) = n.label := u64_id (by omega)
      have w4 : IntKind.u64.wrap ((n.label : Int) * 2 ^ min 4 IntKind.u64.bits) = ((n.label * 16 : Nat) : Int) := by simp [IntKind.wrap, IntKind.bits, IntKind.signed]; omega
      have w5 : intV .or .u64 ((n.label * 16 : Nat) : Int) 1 = some (.int .u64 ((n.label * 16 + 1 : Nat) : Int)) := by
        show some (V.int .u64 (IntKind.u64.wrap ((BitVec.ofInt 64 ((n.label * 16 : Nat) : Int) ||| BitVec.ofInt 64 1).toNat : Int))) = _
        rw [or_one _ (by omega), u64_id (by omega)]
      obtain ⟨h6, q1, q2, q3⟩ := put1_ct B5 (x := n.label * 16 + 1) (size := 3) (by omega) (by omega) (by omega) (by simp only [List.length_append, be_len]; omega)
      have w6 : intV .or .u64 ((n.label : Int) * 16) 1 = some (.int .u64 ((n.label * 16 + 1 : Nat) : Int)) := by rw [show (n.label : Int) * 16 = ((n.label * 16 : Nat) : Int) by omega]; exact w5
      have q1' : ∀ Q : V → H → Prop, Q (.tup []) h6 → Acalls Tryz.prog 33 [.int .u64 ((n.label : Int) * 16 + 1), .int .i64 3, .ptr h.next 1 0] h5 Q := fun Q q => by simpa using q1 Q q
      simp [t9, t11, d1, w3, w4, w6]
      refine q1' _ ?_
      simp
      exact hR _ _ ⟨by simp [EncT, t1, t2, t8, t9, t11, t12, t17, t18, t19], by simpa [e] using q2, (k4.trans k5).trans q3⟩
    · simp
      exact hR _ _ ⟨by simp [EncT, t1, t2, t8, t9, t11, t12, t17, t18, t19], by simpa [e] using B5, k4.trans k5⟩
    clear t1 t2 t8 t9 t11 t12 t17 t18 t19
    rintro t' h6 ⟨⟨t1, t2, t8, t9, t11, t12, t17, t18, t19⟩, B6, k6⟩
    obtain ⟨d1, d2⟩ := hC h6 k6
    simp [pfxC] at d2
    simp [t1]
    refine napart_ct _ ?_
    simp
    refine cond_cut (fun t' h7 => EncT fam add h.next sl l.length i h'.next t' ∧ Buf h h.next ((((encL add (l.take i) ++ (if add = true then be 4 n.id else [])) ++ be 1 (ln + aheadN fam)) ++ (if labelF fam = true then be 3 (n.label * 16 + 1) else [])) ++ (if apartF fam = true then be 8 n.p.rd else [])) h7 ∧ Keeps h.next h3 h7) (fun e R hR => ?_) (fun e R hR => ?_) ?_
    · obtain ⟨h7, q1, q2, q3⟩ := put1_ct B6 (x := n.p.rd) (size := 8) (by omega) (by omega) (by have := fit.rd; omega) (by simp only [List.length_append, be_len]; omega)
      simp [t9, t12, d2]
      refine q1 _ ?_
      simp
      exact hR _ _ ⟨by simp [EncT, t1, t2, t8, t9, t11, t12, t17, t18, t19], by simpa [e] using q2, k6.trans q3⟩
    · simp
      exact hR _ _ ⟨by simp [EncT, t1, t2, t8, t9, t11, t12, t17, t18, t19], by simpa [e] using B6, k6⟩
    clear t1 t2 t8 t9 t11 t12 t17 t18 t19
    rintro t' h7 ⟨⟨t1, t2, t8, t9, t11, t12, t17, t18, t19⟩, B7, k7⟩
    obtain ⟨d1, d2⟩ := hC h7 k7
    simp [pfxC] at d2
    have hwl : wholeN ln ≤ n.p.addr.length := by unfold wholeN; omega
    obtain ⟨v, v', d, r1, r2, r3, r4, r5, r6⟩ := B7.add (n.p.addr.take (wholeN ln)) (by simp only [List.length_append, be_len, List.length_take]; omega)
    have c1 := cellsAt_of r1 (n := 1) rfl
    have hso := solid_of_one r3
    have hce := cells_of_one r3
    simp at c1
    simp
    refine dreg_plain [(21, wholeP)] (plain1 wholeP_ok) (by rfl) ?_
    simp [t8, t12, c1, d2, hln, wholeP_eq (show ln < 1000000 by omega), hwl, r2, r4, hso, hce]
    simp [t19, hw]
    refine hK _ _ hlt ⟨by simp [t1, t2, t8, t9, t17, t18], ?_, ?_⟩
    · have e : encL add (l.take (i + 1)) = encL add (l.take i) ++ enc1 add n := by
        rw [List.take_succ_eq_append_getElem hlt, ← hn]; simp [encL]
      have e2 : enc1 add n = (if add = true then be 4 n.id else []) ++ be 1 (ln + aheadN fam) ++ (if labelF fam = true then be 3 (n.label * 16 + 1) else []) ++ (if apartF fam = true then be 8 n.p.rd else []) ++ n.p.addr.take (wholeN ln) := by
        simp only [enc1, hfam, hln, Int.toNat_natCast]
      rw [e, e2]
      simpa only [List.append_assoc] using r5
    · intro m hm
      rw [List.take_succ_eq_append_getElem hlt, ← hn] at hm
      rcases List.mem_append.1 hm with h1 | h1
      · exact hok m h1
      · rw [List.mem_singleton] at h1; rw [h1]; exact hE
  · have hi2 : i = l.length := by omega
    subst hi2
    obtain ⟨v, h1, h2⟩ := hb.at_
    have he := h2.elems
    have c1 := cellsAt_of h1 (n := 1) rfl
    simp at c1
    have hall : l.all (encOk fam add) = true := by rw [List.all_eq_true]; intro n hn; exact hok n (by rwa [List.take_length])
    rw [List.take_length] at he
    have hso : strOfV h'.get v = some (.str (encL add l)) := by
      rcases h2 with ⟨e1, rfl⟩ | ⟨_, j, _, _, rfl, _⟩
      · rw [List.take_length] at e1; rw [e1]; rfl
      · simp only [strOfV, he, mapM_u8]; rfl
    simp [t8, t18, t19, c1, hso, encS, z, hall]
    exact hb.ge
end Go.Am
