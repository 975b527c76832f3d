/-
  Contracts: bytes that grow behind a pointer; Encode.
-/
import Derived.Test.YtcokdbloajhapaaDoorN3
namespace Go.Am
open Go.Proofs

set_option maxRecDepth 100000
@[simp] theorem solid_ptr (i n o : Nat) : (V.ptr i n o).solid = true := _root_.id rfl
@[simp] theorem cells_ptr (i n o : Nat) : (V.ptr i n o).cells = [.ptr i n o] := _root_.id rfl
/-- 'v' is a row of bytes that was built by append from nothing. -/
def Gb (h : H) (lo : Nat) (v : V) (l : List UInt8) : Prop :=
  (l = [] ∧ v = .nilsl) ∨ (l ≠ [] ∧ ∃ j, lo ≤ j ∧ j < h.next ∧ v = .sl j l.length 0 l.length none ∧ h.get j = some (.grow 1 (l.map byteV)))
theorem Gb.one {h : H} {lo : Nat} {v : V} {l : List UInt8} (g : Gb h lo v l) : v.one = true := by
  rcases g with ⟨_, rfl⟩ | ⟨_, j, _, _, rfl, _⟩ <;> rfl
theorem byteV_ids (l : List UInt8) : V.idss (l.map byteV) = [] := by
  induction l with
  | nil => rfl
  | cons b l ih => simp [V.idss, byteV, V.ids, ih]
theorem byteV_all (l : List UInt8) : (l.map byteV).all V.one = true := by simp [byteV]
/-- A string of bytes is appended. -/
theorem Gb.append {h : H} {lo : Nat} {v : V} {l : List UInt8} (g : Gb h lo v l) (hlo : lo ≤ h.next) (s : List UInt8) (hb : l.length + s.length ≤ 1000000000) :
    ∃ v' d, appendV h.get h.next 1 1 v (.str s) = some (v', d) ∧ Gb (h.app d) lo v' (l ++ s) ∧ h.next ≤ (h.app d).next ∧ (∀ b cs, h.get b = some (.row cs) → b < h.next → (h.app d).get b = some (.row cs)) ∧ (∀ b, b < lo → (h.app d).get b = h.get b) ∧ (h.WF → (h.app d).WF) := by
  have hx : elemsV h.get 1 (.str s) = some (s.length, s.map byteV) := by simp [elemsV]
  by_cases h0 : s = []
  · subst h0
    refine ⟨v, .keep, ?_, by simpa using g, Nat.le_refl _, fun _ _ e _ => e, fun _ _ => rfl, fun w => w⟩
    unfold appendV
    rw [hx]
    rcases g with ⟨_, rfl⟩ | ⟨_, j, _, _, rfl, _⟩ <;> simp
  · have hs : s.length ≠ 0 := by simpa using h0
    rcases g with ⟨rfl, rfl⟩ | ⟨hne, j, g1, g2, rfl, g3⟩
    · refine ⟨_, _, appendV_nil hx hs (byteV_all s) (by omega) (by simp at hb; omega) (by simp at hb; omega), .inr ⟨by simpa using h0, h.next, hlo, by simp, by simp, by simp⟩, by simp, fun b cs e hlt => ?_, fun b hb => ?_, fun w => w.push _⟩
      · rw [app_push, H.get_push, if_neg (by omega)]; exact e
      · rw [app_push, H.get_push, if_neg (by omega)]
    · refine ⟨_, _, appendV_grow g3 (by simp) (by simp) hx hs (byteV_all s) (by omega) (by omega) (by omega), .inr ⟨by simp [hne], j, g1, by simpa using g2, by simp, by simp⟩, by simp, fun b cs e hlt => ?_, fun b hb => ?_, fun w => w.set g2 _⟩
      · rw [app_set, H.get_set]
        split
        · rename_i e2; rw [e2, g3] at e; cases e
        · exact e
      · rw [app_set, H.get_set, if_neg (by omega)]
theorem Gb.elems {h : H} {lo : Nat} {v : V} {l : List UInt8} (g : Gb h lo v l) : elemsV h.get 1 v = some (l.length, l.map byteV) := by
  rcases g with ⟨rfl, rfl⟩ | ⟨hne, j, g1, g2, rfl, g3⟩
  · rfl
  · have : l.length ≠ 0 := by simpa using hne
    rw [elemsV_sl, if_neg this, cellsAt_of g3 (by simp)]
    simp [List.take_of_length_le]
/-- A buffer behind a pointer at 'o', over the heap 'h0'. -/
structure Buf (h0 : H) (o : Nat) (acc : List UInt8) (h : H) : Prop where
  ge : Ge h0 h
  wf : h.WF
  lt : o < h.next
  lo : h0.next ≤ o
  at_ : ∃ v, h.get o = some (.row [v]) ∧ Gb h (o + 1) v acc
/-- Rows are kept, but the one at 'o'. -/
def Keeps (o : Nat) (h h' : H) : Prop := h.next ≤ h'.next ∧ ∀ b cs, b ≠ o → h.get b = some (.row cs) → h'.get b = some (.row cs)
theorem Keeps.refl (o : Nat) (h : H) : Keeps o h h := ⟨Nat.le_refl _, fun _ _ _ e => e⟩
theorem Keeps.trans {o : Nat} {a b c : H} (x : Keeps o a b) (y : Keeps o b c) : Keeps o a c := ⟨Nat.le_trans x.1 y.1, fun i cs hi e => y.2 i cs hi (x.2 i cs hi e)⟩
theorem Keeps.push {o : Nat} {h h' : H} (k : Keeps o h h') (w : h'.WF) (x : O) : Keeps o h (h'.push x) := ⟨by have := k.1; simp; omega, fun b cs hb e => by
  have := k.2 b cs hb e
  rw [H.get_push, if_neg (by have := w.lt this; omega)]; exact this⟩
theorem Buf.push {h0 h : H} {o : Nat} {acc : List UInt8} (b : Buf h0 o acc h) (x : O) : Buf h0 o acc (h.push x) := by
  obtain ⟨v, h1, h2⟩ := b.at_
  have hlt := b.lt
  refine ⟨b.ge.push x, b.wf.push x, by have := b.lt; simp; omega, b.lo, v, by rw [H.get_push, if_neg (by omega)]; exact h1, ?_⟩
  rcases h2 with ⟨rfl, rfl⟩ | ⟨hne, j, g1, g2, rfl, g3⟩
  · exact .inl ⟨rfl, rfl⟩
  · exact .inr ⟨hne, j, g1, by simp; omega, rfl, by rw [H.get_push, if_neg (by omega)]; exact g3⟩
/-- A row that is not the buffer's is written anew. -/
theorem Buf.set {h0 h : H} {o : Nat} {acc : List UInt8} (b : Buf h0 o acc h) {i : Nat} {cs : List V} (hi : h.get i = some (.row cs)) (hne : i ≠ o) (h0i : h0.next ≤ i) (x : O) : Buf h0 o acc (h.set i x) := by
  obtain ⟨v, h1, h2⟩ := b.at_
  refine ⟨b.ge.set h0i x, b.wf.set (b.wf.lt hi) x, b.lt, b.lo, v, by rw [H.get_set, if_neg (Ne.symm hne)]; exact h1, ?_⟩
  rcases h2 with ⟨rfl, rfl⟩ | ⟨hne2, j, g1, g2, rfl, g3⟩
  · exact .inl ⟨rfl, rfl⟩
  · exact .inr ⟨hne2, j, g1, g2, rfl, by rw [H.get_set, if_neg (fun e => by rw [e, hi] at g3; cases g3)]; exact g3⟩
theorem Buf.pushed {h0 h : H} {o : Nat} {acc : List UInt8} (b : Buf h0 o acc h) (cs : List V) (y : O) : Buf h0 o acc ((h.push (.row cs)).set h.next y) :=
  (b.push (.row cs)).set (cs := cs) (by simp) (by have := b.lt; omega) (by have := b.ge.1; omega) y
/-- A string is appended to the buffer. -/
theorem Buf.add {h0 h : H} {o : Nat} {acc : List UInt8} (b : Buf h0 o acc h) (s : List UInt8) (hb : acc.length + s.length ≤ 1000000000) :
    ∃ v v' d, h.get o = some (.row [v]) ∧ appendV h.get h.next 1 1 v (.str s) = some (v', d) ∧ v'.one = true ∧ (h.app d).get o = some (.row [v]) ∧ Buf h0 o (acc ++ s) ((h.app d).set o (.row [v'])) ∧ Keeps o h ((h.app d).set o (.row [v'])) := by
  obtain ⟨v, h1, h2⟩ := b.at_
  have hlt := b.lt
  have hlo := b.lo
  obtain ⟨v', d, a1, a2, a3, a4, a5, a6⟩ := h2.append (by omega) s hb
  have go : (h.app d).get o = some (.row [v]) := a4 o _ h1 hlt
  have hw := a6 b.wf
  refine ⟨v, v', d, h1, a1, a2.one, go, ⟨?_, hw.set (hw.lt go) _, by have := b.lt; simp; omega, hlo, v', by simp, ?_⟩, ⟨by simpa using a3, fun x cs hx e => ?_⟩⟩
  · refine Ge.set ⟨by have := b.ge.1; omega, fun i hi => ?_⟩ hlo _
    rw [a5 i (by omega)]
    exact b.ge.2 i hi
  · rcases a2 with ⟨e1, e2⟩ | ⟨hne, j, g1, g2, e2, g3⟩
    · exact .inl ⟨e1, e2⟩
    · exact .inr ⟨hne, j, g1, by simpa using g2, e2, by rw [H.get_set, if_neg (by omega)]; exact g3⟩
  · rw [H.get_set, if_neg hx]
    exact a4 x cs e (b.wf.lt e)
theorem put1_ct {h0 h : H} {o : Nat} {acc : List UInt8} (b : Buf h0 o acc h) {x size : Nat} (hs : 1 ≤ size) (hs2 : size ≤ 8) (hx : x < 256 ^ size) (hb : acc.length ≤ 900000000) :
    ∃ h', (∀ Q : V → H → Prop, Q (.tup []) h' → Acalls Tryd.prog 23 [.int .u64 x, .int .i64 size, .ptr o 1 0] h Q) ∧ Buf h0 o (acc ++ be size x) h' ∧ Keeps o h h' := by
  obtain ⟨v, v', d, h1, h2, h3, h4, h5, h6⟩ := b.add (be size x) (by rw [be_len]; omega)
  refine ⟨_, fun Q q => ?_, h5, h6⟩
  refine acalls_to Tryd.func23 S.nlri_Encode_1_code S.nlri_Encode_1_enter (Nat.le_of_ble_eq_true rfl) fun wf => ?_; simp only [S.nlri_Encode_1]
  simp
  refine put_ct hs hs2 hx (by simp) _ ?_
  have c1 := cellsAt_of h1 (n := 1) rfl
  have hso := solid_of_one h3
  have hce := cells_of_one h3
  simp at c1
  simp [c1, h2, h4, hso, hce]
  exact q
/-- Which told prefixes are laid. -/
def encOk (fam : Int) (add : Bool) (n : Nl) : Bool := mayN n && (n.p.fam == fam) && (decide (n.id = 0) || add)
def encS (l : List Nl) (fam : Int) (add : Bool) : Option (List UInt8) := if sizeN fam = 0 then none else if l.all (encOk fam add) = true then some (encL add l) else none
structure NlFit (n : Nl) : Prop where
  id : n.id < 4294967296
  rd : n.p.rd < 18446744073709551616
end Go.Am
