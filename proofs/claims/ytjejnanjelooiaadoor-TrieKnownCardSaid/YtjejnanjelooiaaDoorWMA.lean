/-
  N0, N1, T0, N2, P1, P2, P3, in one text.
-/
import Derived.Test.YtjejnanjelooiaaDoorWAm30
import Derived.Test.YtjejnanjelooiaaDoorWAm35
import Derived.Test.YtjejnanjelooiaaDoorWAm43
/-
  Numbers and their bytes; a call that turns one object.
-/
namespace Go.Am

/-- A call that turns one object, and whose other makings are let go. -/
theorem Acalls.turn {P : Program} {f : FuncId} {args : List V} {h : H} {i : Nat} {o' : O} {Q : V → H → Prop} (hi : ∃ o, h.get i = some o) (ho : o'.ids = [])
    (c : h.WF → Acalls P f args h fun v h1 => Ge (h.set i o') h1 ∧ v.ids = [] ∧ Q v (h.set i o')) (he : enterable P f = true) : Acalls P f args h Q := by
  refine Acalls.cl he fun wf cl => Acalls.rename ((c wf).mono ?_)
  rintro v h1 ⟨hg, hv, hq⟩
  obtain ⟨oi, hoi⟩ := hi
  have hlt := wf.lt hoi
  have w2 : (h.set i o').WF := wf.set hlt _
  have liv : ∀ k, (∃ o, h.get k = some o) → ∃ o, (h.set i o').get k = some o := fun k ⟨o, hk⟩ => by
    rw [H.get_set]; split
    · exact ⟨_, rfl⟩
    · exact ⟨o, hk⟩
  refine ⟨id, v, h.set i o', (V.ren_id (σ := id) v (fun _ _ => rfl)).symm, ⟨fun k o hk => by rw [show o.ren id = o from O.ren_id (σ := id) o (fun _ _ => rfl)]; exact hg.keeps w2 k o hk, fun _ _ _ _ _ _ e => e, fun k o hk j hj => ?_, w2⟩, fun k hk => (by rw [hv] at hk; cases hk), fun k o hk => ⟨rfl, liv k ⟨o, hk⟩⟩, hq⟩
  rw [H.get_set] at hk
  split at hk
  · cases hk
    rw [ho] at hj; cases hj
  · exact liv j (cl k o hk j hj)

def val (l : List UInt8) : Nat := l.foldl (fun a b => a * 256 + b.toNat) 0
/-- A number's bytes, the highest one first. -/
def be : Nat → Nat → List UInt8
  | 0, _ => []
  | n + 1, v => UInt8.ofNat (v / 256 ^ n) :: be n v
end Go.Am

/-
  Plain laws of prefixes: an address cut to its first bits; its bits.
-/
namespace Go.Am

set_option maxRecDepth 100000
structure Pfx where
  fam : Int
  rd : Nat
  addr : List UInt8
  len : Int
  deriving DecidableEq
def pfxC (p : Pfx) : List V := [.int .i64 p.fam, .int .u64 (p.rd : Nat), .str p.addr, .int .i64 p.len]
structure Nl where
  p : Pfx
  id : Nat
  label : Nat
  deriving DecidableEq
def zeroP : Pfx := ⟨0, 0, [], 0⟩
/-- How many bytes an address of a family has. -/
def sizeN (fam : Int) : Nat := if fam = 1 ∨ fam = 3 ∨ fam = 4 then 4 else if fam = 2 ∨ fam = 5 then 16 else 0
def apartF (fam : Int) : Bool := fam == 4 || fam == 5
def labelF (fam : Int) : Bool := decide (3 ≤ fam) && decide (fam ≤ 5)
/-- A byte with its first bits alone. -/
def maskN (b : Nat) (left : Int) : Nat := if left ≤ 0 then 0 else if left < 8 then b / 2 ^ (8 - left.toNat) * 2 ^ (8 - left.toNat) else b
theorem maskN_le (b : Nat) (left : Int) : maskN b left ≤ b := by
  unfold maskN
  split
  · omega
  · split
    · exact Nat.div_mul_le_self _ _
    · omega
def maskL : List UInt8 → Int → List UInt8
  | [], _ => []
  | b :: l, n => UInt8.ofNat (maskN b.toNat n) :: maskL l (n - 8)
theorem maskL_len : ∀ (l : List UInt8) (n : Int), (maskL l n).length = l.length
  | [], _ => rfl
  | b :: l, n => by simp [maskL, maskL_len l]
theorem maskL_get : ∀ (l : List UInt8) (n : Int) (i : Nat) (h : i < l.length), (maskL l n)[i]'(by rw [maskL_len]; exact h) = UInt8.ofNat (maskN (l[i]).toNat (n - 8 * (i : Int)))
  | [], _, i, h => by simp at h
  | b :: l, n, 0, h => by simp [maskL]
  | b :: l, n, i + 1, h => by
    simp only [maskL, List.getElem_cons_succ]
    rw [maskL_get l (n - 8) i (by simpa using h)]
    congr 2
    omega
/-- A bit of an address. -/
def bitN (l : List UInt8) (n : Nat) : Nat := match l[n / 8]? with | some b => b.toNat / 2 ^ (7 - n % 8) % 2 | none => 0
theorem maskN_big {b : Nat} {n : Int} (h : 8 ≤ n) : maskN b n = b := by unfold maskN; rw [if_neg (by omega), if_neg (by omega)]
theorem maskN_small {b : Nat} {n : Int} (h : n ≤ 0) : maskN b n = 0 := by unfold maskN; rw [if_pos h]
/-- What Check says. -/
def mayP (p : Pfx) : Bool := decide (sizeN p.fam ≠ 0) && decide (p.addr.length = sizeN p.fam) && decide (0 ≤ p.len) && decide (p.len ≤ 8 * (sizeN p.fam : Int)) && (decide (p.rd = 0) || apartF p.fam) && decide (maskL p.addr p.len = p.addr)
def mayN (n : Nl) : Bool := mayP n.p && decide (n.label ≤ 1048575) && (decide (n.label = 0) || labelF n.p.fam)
end Go.Am

/-
  The orders of prefixes and told prefixes: the plain law.
-/
namespace Go.Am

def cmpPf (a b : Pfx) : Int := orI (cmpI a.fam b.fam) (orI (cmpI a.rd b.rd) (orI (Go.Lib.compareBytes a.addr b.addr) (cmpI a.len b.len)))
theorem ordr_pf : Ordr cmpPf :=
  (ordr_int.on Pfx.fam).or ((ordr_int.on fun p : Pfx => (p.rd : Int)).or ((ordr_cb.on Pfx.addr).or (ordr_int.on Pfx.len)))
end Go.Am

/-
  Told prefixes and their bytes: the plain law.
-/
namespace Go.Am

set_option maxRecDepth 100000
def tk (k : Nat) (s : List UInt8) : Option (List UInt8 × List UInt8) := if k ≤ s.length then some (s.take k, s.drop k) else none
theorem maskL_neg : ∀ (l : List UInt8) (n : Int), n ≤ 0 → maskL l n = List.replicate l.length 0
  | [], _, _ => rfl
  | b :: l, n, h => by
    rw [maskL, maskL_neg l (n - 8) (by omega), maskN_small h, List.length_cons, List.replicate_succ]; rfl
/-- What fits into its bytes. -/
structure NlOk (fam : Int) (add : Bool) (n : Nl) : Prop where
  may : mayN n = true
  fam : n.p.fam = fam
  id0 : add = false → n.id = 0
  idb : n.id < 4294967296
  rdb : n.p.rd < 18446744073709551616
theorem NlOk.parts {fam : Int} {add : Bool} {n : Nl} (h : NlOk fam add n) : sizeN fam ≠ 0 ∧ n.p.addr.length = sizeN fam ∧ 0 ≤ n.p.len ∧ n.p.len ≤ 8 * (sizeN fam : Int) ∧ (n.p.rd = 0 ∨ apartF fam = true) ∧ maskL n.p.addr n.p.len = n.p.addr ∧ n.label ≤ 1048575 ∧ (n.label = 0 ∨ labelF fam = true) := by
  have := h.may
  simp only [mayN, mayP, Bool.and_eq_true, Bool.or_eq_true, decide_eq_true_eq, h.fam] at this
  obtain ⟨⟨⟨⟨⟨⟨⟨a, b⟩, c⟩, d⟩, e⟩, f⟩, g⟩, i⟩ := this
  exact ⟨a, b, c, d, e, f, g, i⟩
theorem size_le (fam : Int) : sizeN fam ≤ 16 := by unfold sizeN; split <;> (try split) <;> omega
/-! ### Lists of them -/
end Go.Am

/-
  Plain laws of a trie over lists of bits: what is set, taken away, found, told.
-/
namespace Go.Am

/-! ### Lists of bits -/
/-- How many first bits two lists share. -/
def com : List Bool → List Bool → Nat
  | a :: as, b :: bs => if a = b then com as bs + 1 else 0
  | _, _ => 0
theorem com_le_left : ∀ a b : List Bool, com a b ≤ a.length
  | [], _ => by simp [com]
  | _ :: _, [] => by simp [com]
  | a :: as, b :: bs => by
    simp only [com, List.length_cons]
    have := com_le_left as bs
    split <;> omega
theorem com_comm : ∀ a b : List Bool, com a b = com b a
  | [], [] => rfl
  | [], _ :: _ => rfl
  | _ :: _, [] => rfl
  | a :: as, b :: bs => by
    simp only [com, com_comm as bs]
    by_cases h : a = b
    · simp [h]
    · rw [if_neg h, if_neg (fun e => h e.symm)]
theorem com_le_right (a b : List Bool) : com a b ≤ b.length := by rw [com_comm]; exact com_le_left b a
theorem com_pre : ∀ a b : List Bool, com a b = a.length ↔ a <+: b
  | [], b => by simp [com]
  | a :: as, [] => by simp [com]
  | a :: as, b :: bs => by
    simp only [com, List.length_cons, List.cons_prefix_cons, ← com_pre as bs]
    split <;> simp_all
theorem com_take : ∀ a b : List Bool, a.take (com a b) = b.take (com a b)
  | [], b => by simp [com]
  | a :: as, [] => by simp [com]
  | a :: as, b :: bs => by
    simp only [com]
    split
    · rename_i h; subst h; simp [com_take as bs]
    · simp
/-- Where they part. -/
theorem com_next : ∀ a b : List Bool, com a b < a.length → com a b < b.length → ∃ x, a[com a b]? = some x ∧ b[com a b]? = some (!x)
  | [], b, h, _ => by simp [com] at h
  | a :: as, [], _, h => by simp [com] at h
  | a :: as, b :: bs, h1, h2 => by
    simp only [com] at h1 h2 ⊢
    split at h1
    · rename_i h
      rw [if_pos h] at h2 ⊢
      simp only [List.length_cons, Nat.add_lt_add_iff_right] at h1 h2
      simpa using com_next as bs h1 h2
    · rename_i h
      rw [if_neg h]
      exact ⟨a, rfl, by cases a <;> cases b <;> simp_all⟩
theorem com_app : ∀ a b x y : List Bool, min (min a.length b.length) (com (a ++ x) (b ++ y)) = com a b
  | [], b, _, _ => by simp [com]
  | a :: as, [], _, _ => by simp [com]
  | a :: as, b :: bs, x, y => by
    have := com_app as bs x y
    simp only [com, List.cons_append, List.length_cons]
    split <;> omega
theorem com_self : ∀ a : List Bool, com a a = a.length
  | [] => rfl
  | a :: as => by simp [com, com_self as]

theorem snoc_pre {w q : List Bool} {b : Bool} (h : w ++ [b] <+: q) : w <+: q := (List.prefix_append w [b]).trans h
/-- One side or the other. -/
theorem pre_side {k q : List Bool} (h : k <+: q) : k = q ∨ k ++ [false] <+: q ∨ k ++ [true] <+: q := by
  obtain ⟨t, rfl⟩ := h
  match t with
  | [] => left; simp
  | false :: t => right; left; exact ⟨t, by simp⟩
  | true :: t => right; right; exact ⟨t, by simp⟩
theorem snoc_get {k q : List Bool} {b : Bool} (h : k ++ [b] <+: q) : q[k.length]? = some b := by
  obtain ⟨t, rfl⟩ := h; simp
theorem snoc_of {k q : List Bool} {b : Bool} (h : k <+: q) (e : q[k.length]? = some b) : k ++ [b] <+: q := by
  rcases pre_side h with rfl | h | h
  · simp at e
  · have := snoc_get h; rw [e] at this; cases this; exact h
  · have := snoc_get h; rw [e] at this; cases this; exact h
theorem sides_ne {k q : List Bool} {b c : Bool} (h1 : k ++ [b] <+: q) (h2 : k ++ [c] <+: q) : b = c := by
  have a := snoc_get h1; rw [snoc_get h2] at a; cases a; rfl
theorem snoc_not {k : List Bool} {b : Bool} (h : k ++ [b] <+: k) : False := by
  have := h.length_le; simp at this; omega
/-- Which begin the other is of the same one: the shorter the longer. -/
theorem pre_pre {a b q : List Bool} (h1 : a <+: q) (h2 : b <+: q) (h : a.length ≤ b.length) : a <+: b := List.prefix_of_prefix_length_le h1 h2 h

/-- The order: what goes on stands behind, 0 ahead of 1. -/
def bl : List Bool → List Bool → Bool
  | [], [] => false
  | [], _ :: _ => true
  | _ :: _, [] => false
  | a :: as, b :: bs => if a = b then bl as bs else b
theorem bl_pre : ∀ {a b : List Bool}, a <+: b → a ≠ b → bl a b = true
  | [], [], _, h => absurd rfl h
  | [], _ :: _, _, _ => rfl
  | a :: as, [], h, _ => by simp at h
  | a :: as, b :: bs, h, hne => by
    rw [List.cons_prefix_cons] at h
    obtain ⟨rfl, h⟩ := h
    simp only [bl, if_true]
    exact bl_pre h (fun e => hne (by rw [e]))
theorem bl_app : ∀ (w a b : List Bool), bl (w ++ a) (w ++ b) = bl a b
  | [], a, b => rfl
  | x :: w, a, b => by simp [bl, bl_app w a b]
theorem bl_sides {k a b : List Bool} (h1 : k ++ [false] <+: a) (h2 : k ++ [true] <+: b) : bl a b = true := by
  obtain ⟨x, rfl⟩ := h1
  obtain ⟨y, rfl⟩ := h2
  simp [List.append_assoc, bl_app, bl]
theorem bl_irr : ∀ a : List Bool, bl a a = false
  | [] => rfl
  | a :: as => by simp [bl, bl_irr as]
/-! ### Trees -/
inductive T (α : Type) where
  | nil
  | node (k : List Bool) (has : Bool) (v : α) (l r : T α)
variable {α : Type}
def T.pairs : T α → List (List Bool × α)
  | .nil => []
  | .node k h v l r => (if h = true then [(k, v)] else []) ++ (l.pairs ++ r.pairs)
def T.isNil : T α → Bool
  | .nil => true
  | _ => false
/-- Keys go on as the places say; none is longer than 'B'. -/
def T.Ok (B : Nat) : List Bool → T α → Prop
  | _, .nil => True
  | w, .node k _ _ l r => w <+: k ∧ k.length ≤ B ∧ l.Ok B (k ++ [false]) ∧ r.Ok B (k ++ [true])
theorem T.Ok.up {B : Nat} {w u : List Bool} {t : T α} (h : t.Ok B w) (hu : u <+: w) : t.Ok B u := by
  cases t with
  | nil => trivial
  | node k hs v l r => exact ⟨hu.trans h.1, h.2⟩
theorem T.Ok.keys {B : Nat} : ∀ {t : T α} {w : List Bool}, t.Ok B w → ∀ x ∈ t.pairs, w <+: x.1 ∧ x.1.length ≤ B
  | .nil, _, _, x, hx => by simp [T.pairs] at hx
  | .node k hs v l r, w, ⟨h1, h2, h3, h4⟩, x, hx => by
    simp only [T.pairs, List.mem_append] at hx
    rcases hx with hx | hx | hx
    · split at hx
      · simp only [List.mem_singleton] at hx; subst hx; exact ⟨h1, h2⟩
      · simp at hx
    · have := h3.keys x hx; exact ⟨h1.trans (snoc_pre this.1), this.2⟩
    · have := h4.keys x hx; exact ⟨h1.trans (snoc_pre this.1), this.2⟩
theorem T.Ok.sorted {B : Nat} : ∀ {t : T α} {w : List Bool}, t.Ok B w → t.pairs.Pairwise fun x y => bl x.1 y.1 = true
  | .nil, _, _ => by simp [T.pairs]
  | .node k hs v l r, w, ⟨h1, h2, h3, h4⟩ => by
    simp only [T.pairs]
    refine List.pairwise_append.2 ⟨by split <;> simp, List.pairwise_append.2 ⟨h3.sorted, h4.sorted, fun x hx y hy => bl_sides (h3.keys x hx).1 (h4.keys y hy).1⟩, fun x hx y hy => ?_⟩
    split at hx
    · simp only [List.mem_singleton] at hx; subst hx
      have : ∃ b, k ++ [b] <+: y.1 := by
        rcases List.mem_append.1 hy with hy | hy
        · exact ⟨_, (h3.keys y hy).1⟩
        · exact ⟨_, (h4.keys y hy).1⟩
      obtain ⟨b, hb⟩ := this
      exact bl_pre (snoc_pre hb) (fun e => by simp only at e; rw [← e] at hb; exact snoc_not hb)
    · simp at hx
/-- What stands on a side is not the node's. -/
theorem T.Ok.side_ne {B : Nat} {t : T α} {k : List Bool} {b : Bool} (h : t.Ok B (k ++ [b])) {q : List Bool} {y : α} (hq : (q, y) ∈ t.pairs) : q ≠ k := fun e => by
  subst e; exact snoc_not (h.keys _ hq).1

/-! ### Set -/
variable [Inhabited α]
def T.set (p : List Bool) (x : α) : T α → T α × Bool
  | .nil => (.node p true x .nil .nil, true)
  | .node k h v l r =>
    if com k p = k.length then
      if com k p = p.length then (.node k true x l r, !h)
      else if p[com k p]? = some true then (.node k h v l (r.set p x).1, (r.set p x).2)
      else (.node k h v (l.set p x).1 r, (l.set p x).2)
    else if com k p = p.length then
      (if k[com k p]? = some true then .node p true x .nil (.node k h v l r) else .node p true x (.node k h v l r) .nil, true)
    else
      (if k[com k p]? = some true then .node (p.take (com k p)) false default (.node p true x .nil .nil) (.node k h v l r)
       else .node (p.take (com k p)) false default (.node k h v l r) (.node p true x .nil .nil), true)
theorem take_snoc {l : List Bool} {n : Nat} {b : Bool} (h : l[n]? = some b) : l.take n ++ [b] <+: l := by
  obtain ⟨hn, h⟩ := List.getElem?_eq_some_iff.1 h
  rw [← h, List.take_append_getElem]; exact List.take_prefix _ _
theorem not_true {o : Option Bool} {x : Bool} (h : o = some x) (hn : ¬ o = some true) : o = some false := by subst h; cases x <;> simp_all
theorem T.set_ok {B : Nat} {p : List Bool} {x : α} (hB : p.length ≤ B) : ∀ {t : T α} {w : List Bool}, t.Ok B w → w <+: p → (t.set p x).1.Ok B w
  | .nil, w, _, hp => ⟨hp, hB, trivial, trivial⟩
  | .node k h v l r, w, ⟨h1, h2, h3, h4⟩, hp => by
    unfold T.set
    have hl := com_le_left k p
    have hr := com_le_right k p
    split
    · rename_i e
      have hpre := (com_pre k p).1 e
      split
      · exact ⟨h1, h2, h3, h4⟩
      · rename_i ne
        have hlt : com k p < p.length := by omega
        split
        · rename_i et
          rw [e] at et
          exact ⟨h1, h2, h3, T.set_ok hB h4 (snoc_of hpre et)⟩
        · rename_i et
          have et2 := not_true (List.getElem?_eq_getElem hlt) et
          rw [e] at et2
          exact ⟨h1, h2, T.set_ok hB h3 (snoc_of hpre et2), h4⟩
    · rename_i ne
      have hlt : com k p < k.length := by omega
      split
      · rename_i e2
        have hpk : p <+: k := (com_pre p k).1 (by rw [com_comm]; exact e2)
        rw [e2] at hlt
        split
        · rename_i et
          rw [e2] at et
          exact ⟨hp, hB, trivial, snoc_of hpk et, h2, h3, h4⟩
        · rename_i et
          have et2 := not_true (List.getElem?_eq_getElem (by omega)) et
          rw [e2] at et2
          exact ⟨hp, hB, ⟨snoc_of hpk et2, h2, h3, h4⟩, trivial⟩
      · rename_i ne2
        have hlt2 : com k p < p.length := by omega
        obtain ⟨b, hb1, hb2⟩ := com_next k p hlt hlt2
        have hw : w <+: p.take (com k p) := by
          have hwl : w.length ≤ com k p := by
            have e1 := (com_pre w k).2 h1
            have e2 := (com_pre w p).2 hp
            obtain ⟨s, rfl⟩ := h1
            obtain ⟨t, rfl⟩ := hp
            have := com_app w w s t
            rw [com_self] at this
            omega
          exact pre_pre hp (List.take_prefix _ _) (by simp; omega)
        have hk : p.take (com k p) ++ [b] <+: k := by rw [← com_take]; exact take_snoc hb1
        have hq : p.take (com k p) ++ [!b] <+: p := take_snoc hb2
        have hB2 : (p.take (com k p)).length ≤ B := by simp; omega
        split
        · rename_i et
          rw [et] at hb1; cases hb1
          exact ⟨hw, hB2, ⟨hq, hB, trivial, trivial⟩, hk, h2, h3, h4⟩
        · rename_i et
          have et2 := not_true hb1 et
          rw [et2] at hb1; cases hb1
          exact ⟨hw, hB2, ⟨hk, h2, h3, h4⟩, hq, hB, trivial, trivial⟩
theorem T.mem_node {α : Type} {k : List Bool} {h : Bool} {v : α} {l r : T α} {q : List Bool} {y : α} : (q, y) ∈ (T.node k h v l r).pairs ↔ (h = true ∧ q = k ∧ y = v) ∨ (q, y) ∈ l.pairs ∨ (q, y) ∈ r.pairs := by
  simp only [T.pairs, List.mem_append]
  cases h <;> simp
theorem T.Ok.pre_of {α : Type} {B : Nat} {t : T α} {w : List Bool} (h : t.Ok B w) {q : List Bool} {y : α} (hq : (q, y) ∈ t.pairs) : w <+: q := (h.keys _ hq).1
theorem T.node_len {α : Type} (k : List Bool) (h : Bool) (v : α) (l r : T α) : (T.node k h v l r).pairs.length = (if h = true then 1 else 0) + l.pairs.length + r.pairs.length := by
  cases h <;> simp [T.pairs] <;> omega
theorem T.nil_len {α : Type} : (T.nil : T α).pairs.length = 0 := rfl
theorem T.set_len {p : List Bool} {x : α} : ∀ {t : T α}, (t.set p x).1.pairs.length = t.pairs.length + (if (t.set p x).2 = true then 1 else 0)
  | .nil => by simp [T.set, T.pairs]
  | .node k h v l r => by
    have ihl := T.set_len (p := p) (x := x) (t := l)
    have ihr := T.set_len (p := p) (x := x) (t := r)
    unfold T.set
    split
    · split
      · simp only [T.node_len]; cases h <;> simp <;> omega
      · split
        · simp only [T.node_len, ihr]; omega
        · simp only [T.node_len, ihl]; omega
    · split
      · split
        all_goals simp only [T.node_len, T.nil_len, if_true]; omega
      · split
        all_goals simp only [T.node_len, T.nil_len, if_true, Bool.false_eq_true, if_false]; omega

/-! ### Taken away -/
def prune (k : List Bool) (h : Bool) (v : α) (l r : T α) : T α :=
  if h = true ∨ (l.isNil = false ∧ r.isNil = false) then .node k h v l r else if l.isNil = false then l else r
def T.del (p : List Bool) : T α → T α × Bool
  | .nil => (.nil, false)
  | .node k h v l r =>
    if p.length < k.length ∨ com k p < k.length then (.node k h v l r, false)
    else if k.length = p.length then (prune k false default l r, h)
    else if p[k.length]? = some true then (prune k h v l (r.del p).1, (r.del p).2)
    else (prune k h v (l.del p).1 r, (l.del p).2)
theorem isNil_eq {α : Type} {t : T α} (h : ¬ t.isNil = false) : t = .nil := by cases t with | nil => rfl | node => simp [T.isNil] at h
theorem prune_pairs {α : Type} (k : List Bool) (h : Bool) (v : α) (l r : T α) : (prune k h v l r).pairs = (T.node k h v l r).pairs := by
  unfold prune
  split
  · rfl
  · rename_i hn
    have hf : h = false := by cases h <;> simp_all
    subst hf
    split
    · rename_i hl
      have hr : r = .nil := isNil_eq fun hr => hn (.inr ⟨hl, hr⟩)
      subst hr
      simp [T.pairs]
    · rename_i hl
      rw [isNil_eq hl]
      simp [T.pairs]
theorem prune_ok {α : Type} {B : Nat} {w k : List Bool} {h : Bool} {v : α} {l r : T α} (o : (T.node k h v l r).Ok B w) : (prune k h v l r).Ok B w := by
  obtain ⟨h1, h2, h3, h4⟩ := o
  unfold prune
  split
  · exact ⟨h1, h2, h3, h4⟩
  · split
    · exact h3.up (h1.trans (List.prefix_append _ _))
    · exact h4.up (h1.trans (List.prefix_append _ _))
theorem T.del_ok {B : Nat} {p : List Bool} : ∀ {t : T α} {w : List Bool}, t.Ok B w → (t.del p).1.Ok B w
  | .nil, w, _ => trivial
  | .node k h v l r, w, ⟨h1, h2, h3, h4⟩ => by
    unfold T.del
    repeat' split
    · exact ⟨h1, h2, h3, h4⟩
    · exact prune_ok ⟨h1, h2, h3, h4⟩
    · exact prune_ok ⟨h1, h2, h3, T.del_ok h4⟩
    · exact prune_ok ⟨h1, h2, T.del_ok h3, h4⟩
theorem T.del_mem {B : Nat} {p : List Bool} : ∀ {t : T α} {w : List Bool}, t.Ok B w → ∀ q y, (q, y) ∈ (t.del p).1.pairs ↔ q ≠ p ∧ (q, y) ∈ t.pairs
  | .nil, w, _, q, y => by simp [T.del, T.pairs]
  | .node k h v l r, w, ⟨h1, h2, h3, h4⟩, q, y => by
    unfold T.del
    have hl := com_le_left k p
    have hr := com_le_right k p
    have nl : ∀ y, (k, y) ∉ l.pairs := fun y hy => h3.side_ne hy rfl
    have nr : ∀ y, (k, y) ∉ r.pairs := fun y hy => h4.side_ne hy rfl
    split
    · rename_i e
      have hnk : ¬ k <+: p := fun h => by
        have := (com_pre k p).2 h
        omega
      have hkp : ¬ p = k := fun e => hnk (e ▸ List.prefix_refl _)
      have np : ∀ y, (p, y) ∉ l.pairs ∧ (p, y) ∉ r.pairs := fun y => ⟨fun hy => hnk (snoc_pre (h3.pre_of hy)), fun hy => hnk (snoc_pre (h4.pre_of hy))⟩
      simp only [T.mem_node]
      by_cases eq : q = p
      · subst eq; simp [np, hkp]
      · simp [eq]
    · rename_i e
      have hpre := (com_pre k p).1 (by omega)
      split
      · rename_i e2
        have hkp : k = p := hpre.eq_of_length (by omega)
        subst hkp
        simp only [prune_pairs, T.mem_node]
        by_cases eq : q = k
        · subst eq; simp [nl, nr]
        · simp [eq]
      · rename_i ne
        have hlt : k.length < p.length := by omega
        have hkp : k ≠ p := fun e2 => ne (by rw [e2])
        split
        · rename_i et
          have hs := snoc_of hpre et
          have ih := T.del_mem (p := p) h4 q y
          simp only [prune_pairs, T.mem_node, ih]
          by_cases eq : q = p
          · subst eq
            have : ∀ y, (q, y) ∉ l.pairs := fun y hy => by have := sides_ne (h3.pre_of hy) hs; cases this
            simp [this, Ne.symm hkp]
          · simp [eq]
        · rename_i et
          have et2 := not_true (List.getElem?_eq_getElem hlt) et
          have hs := snoc_of hpre et2
          have ih := T.del_mem (p := p) h3 q y
          simp only [prune_pairs, T.mem_node, ih]
          by_cases eq : q = p
          · subst eq
            have : ∀ y, (q, y) ∉ r.pairs := fun y hy => by have := sides_ne (h4.pre_of hy) hs; cases this
            simp [this, Ne.symm hkp]
          · simp [eq]
theorem T.del_len {p : List Bool} : ∀ {t : T α}, t.pairs.length = (t.del p).1.pairs.length + (if (t.del p).2 = true then 1 else 0)
  | .nil => by simp [T.del, T.pairs]
  | .node k h v l r => by
    have ihl := T.del_len (p := p) (t := l)
    have ihr := T.del_len (p := p) (t := r)
    unfold T.del
    split
    · simp
    · split
      · simp only [prune_pairs, T.node_len]; cases h <;> simp; omega
      · split
        · simp only [prune_pairs, T.node_len]; omega
        · simp only [prune_pairs, T.node_len]; omega

/-! ### Found -/
/-- The last one of those on the way to 'p' that a test takes. -/
def T.find (tst : List Bool → Bool → Bool) (p : List Bool) : T α → Option (List Bool × α) → Option (List Bool × α)
  | .nil, acc => acc
  | .node k h v l r, acc =>
    if k.length ≤ p.length ∧ com k p = k.length then
      if k.length = p.length then (if tst k h = true then some (k, v) else acc)
      else if p[k.length]? = some true then r.find tst p (if tst k h = true then some (k, v) else acc)
      else l.find tst p (if tst k h = true then some (k, v) else acc)
    else acc
/-- Get's test. -/
theorem T.find_get {α : Type} {B : Nat} {p : List Bool} : ∀ {t : T α} {w : List Bool} {acc : Option (List Bool × α)}, t.Ok B w → t.find (fun k h => decide (k = p) && h) p acc = match t.pairs.find? (fun x => decide (x.1 = p)) with | some x => some x | none => acc
  | .nil, w, acc, _ => by simp [T.find, T.pairs]
  | .node k h v l r, w, acc, ⟨h1, h2, h3, h4⟩ => by
    have none_l : (∀ b, l.Ok B (k ++ [b]) → ¬ k ++ [b] <+: p → l.pairs.find? (fun x => decide (x.1 = p)) = none) := fun b hb hn => List.find?_eq_none.2 fun x hx => by
      simp only [decide_eq_true_eq]; intro e; exact hn (e ▸ (hb.keys x hx).1)
    have none_r : (∀ b, r.Ok B (k ++ [b]) → ¬ k ++ [b] <+: p → r.pairs.find? (fun x => decide (x.1 = p)) = none) := fun b hb hn => List.find?_eq_none.2 fun x hx => by
      simp only [decide_eq_true_eq]; intro e; exact hn (e ▸ (hb.keys x hx).1)
    unfold T.find
    simp only [T.pairs, List.find?_append]
    split
    · rename_i e
      have hpre := (com_pre k p).1 e.2
      split
      · rename_i e2
        have hkp : k = p := hpre.eq_of_length e2
        subst hkp
        rw [none_l _ h3 snoc_not, none_r _ h4 snoc_not]
        cases h <;> simp
      · rename_i ne
        have hkp : k ≠ p := fun e2 => ne (by rw [e2])
        have hlt : k.length < p.length := by omega
        have hh : ((if h = true then [(k, v)] else []).find? (fun x => decide (x.1 = p))) = none := by cases h <;> simp [hkp]
        rw [hh]
        split
        · rename_i et
          have hs := snoc_of hpre et
          rw [none_l _ h3 (fun h => by have := sides_ne h hs; cases this), T.find_get h4]
          simp [hkp]
        · rename_i et
          have et2 := not_true (List.getElem?_eq_getElem hlt) et
          have hs := snoc_of hpre et2
          rw [none_r _ h4 (fun h => by have := sides_ne h hs; cases this), T.find_get h3]
          simp [hkp]
    · rename_i e
      have hnk : ¬ k <+: p := fun h => e ⟨h.length_le, (com_pre k p).2 h⟩
      have hkp : k ≠ p := fun e => hnk (e ▸ List.prefix_refl _)
      have hh : ((if h = true then [(k, v)] else []).find? (fun x => decide (x.1 = p))) = none := by cases h <;> simp [hkp]
      rw [hh, none_l _ h3 (fun h => hnk (snoc_pre h)), none_r _ h4 (fun h => hnk (snoc_pre h))]
      simp
/-! ### What a prefix covers -/
def T.down (p : List Bool) : T α → T α
  | .nil => .nil
  | .node k h v l r =>
    if k.length < p.length ∧ com k p = k.length then (if p[k.length]? = some true then r.down p else l.down p) else .node k h v l r
theorem T.down_pairs {α : Type} {B : Nat} {p : List Bool} : ∀ {t : T α} {w : List Bool}, t.Ok B w → (t.down p).pairs.filter (fun x => p.isPrefixOf x.1) = t.pairs.filter fun x => p.isPrefixOf x.1
  | .nil, w, _ => rfl
  | .node k h v l r, w, ⟨h1, h2, h3, h4⟩ => by
    have side : ∀ (b : Bool) (t : T α), t.Ok B (k ++ [b]) → k.length < p.length → ¬ k ++ [b] <+: p → t.pairs.filter (fun x => p.isPrefixOf x.1) = [] := fun b t ht hl hn => List.filter_eq_nil_iff.2 fun x hx hp => by
      rw [List.isPrefixOf_iff_prefix] at hp
      exact hn (pre_pre (ht.keys x hx).1 hp (by simp; omega))
    unfold T.down
    split
    · rename_i e
      have hpre := (com_pre k p).1 e.2
      have hh : (if h = true then [(k, v)] else []).filter (fun x => p.isPrefixOf x.1) = [] := by
        have : ¬ p <+: k := fun hp => by have := hp.length_le; omega
        cases h <;> simp [this]
      split
      · rename_i et
        have hs := snoc_of hpre et
        simp only [T.pairs, List.filter_append, hh, List.nil_append]
        rw [T.down_pairs h4, side false l h3 e.1 (fun h => by have := sides_ne h hs; cases this), List.nil_append]
      · rename_i et
        have hs := snoc_of hpre (not_true (List.getElem?_eq_getElem e.1) et)
        simp only [T.pairs, List.filter_append, hh, List.nil_append]
        rw [T.down_pairs h3, side true r h4 e.1 (fun h => by have := sides_ne h hs; cases this), List.append_nil]
    · rfl
end Go.Am

/-
  Plain laws of prefixes as lists of bits.
-/
namespace Go.Am

set_option maxRecDepth 100000
/-! ### Bytes and bits -/
def bitsGo : Nat → Nat → List Bool
  | 0, _ => []
  | k + 1, v => decide (2 ^ k ≤ v) :: bitsGo k (if 2 ^ k ≤ v then v - 2 ^ k else v)
def bits8 (b : UInt8) : List Bool := bitsGo 8 b.toNat
def bitsL : List UInt8 → List Bool
  | [] => []
  | b :: l => bits8 b ++ bitsL l
theorem bitsGo_len : ∀ k v, (bitsGo k v).length = k
  | 0, _ => rfl
  | k + 1, v => by simp [bitsGo, bitsGo_len k]
theorem bits8_len (b : UInt8) : (bits8 b).length = 8 := bitsGo_len _ _
theorem bitsL_len : ∀ l : List UInt8, (bitsL l).length = 8 * l.length
  | [] => rfl
  | b :: l => by simp [bitsL, bits8_len, bitsL_len l]; omega
/-- The number of a byte's bits, those that lack being 0. -/
def byteGo : Nat → List Bool → Nat
  | 0, _ => 0
  | _ + 1, [] => 0
  | k + 1, b :: l => (if b = true then 2 ^ k else 0) + byteGo k l
theorem byteGo_nil : ∀ k, byteGo k [] = 0
  | 0 => rfl
  | _ + 1 => rfl
theorem byteGo_lt : ∀ k l, byteGo k l < 2 ^ k
  | 0, _ => by simp [byteGo]
  | k + 1, [] => by simp [byteGo]; exact Nat.two_pow_pos _
  | k + 1, b :: l => by
    have := byteGo_lt k l
    simp only [byteGo, Nat.pow_succ]
    split <;> omega
theorem byteGo_take : ∀ k l, byteGo k (l.take k) = byteGo k l
  | 0, _ => rfl
  | k + 1, [] => rfl
  | k + 1, b :: l => by simp [byteGo, byteGo_take k l]
theorem byteGo_app : ∀ k (l r : List Bool), l.length = k → byteGo k (l ++ r) = byteGo k l := fun k l r h => by
  rw [← byteGo_take k (l ++ r), List.take_append_of_le_length (by omega), List.take_of_length_le (by omega)]
theorem bitsGo_byteGo : ∀ k l, bitsGo k (byteGo k l) = l.take k ++ List.replicate (k - l.length) false
  | 0, l => by simp [bitsGo]
  | k + 1, [] => by
    have h0 := Nat.two_pow_pos k
    have := bitsGo_byteGo k []
    rw [byteGo_nil] at this
    rw [show byteGo (k + 1) [] = 0 from rfl, bitsGo, if_neg (by omega), this]
    simp only [List.take_nil, List.nil_append, List.length_nil, Nat.sub_zero, List.replicate_succ]
    congr 1
    simp
  | k + 1, b :: l => by
    have h0 := byteGo_lt k l
    have ih := bitsGo_byteGo k l
    cases b with
    | true =>
      simp only [byteGo, if_true, bitsGo]
      rw [if_pos (by omega), Nat.add_sub_cancel_left, ih]
      simp
    | false =>
      simp only [byteGo, Bool.false_eq_true, if_false, bitsGo, Nat.zero_add]
      rw [if_neg (by omega), ih]
      simp
      omega
/-- An address of 'n' bytes that begins with these bits. -/
def pack : Nat → List Bool → List UInt8
  | 0, _ => []
  | n + 1, l => UInt8.ofNat (byteGo 8 l) :: pack n (l.drop 8)
theorem pack_len : ∀ n l, (pack n l).length = n
  | 0, _ => rfl
  | n + 1, l => by simp [pack, pack_len n]
theorem byte8 (l : List Bool) : (UInt8.ofNat (byteGo 8 l)).toNat = byteGo 8 l := by
  have := byteGo_lt 8 l
  simp; omega
theorem bitsL_pack : ∀ n l, l.length ≤ 8 * n → bitsL (pack n l) = l ++ List.replicate (8 * n - l.length) false
  | 0, l, h => by have : l = [] := List.length_eq_zero_iff.1 (by omega); subst this; rfl
  | n + 1, l, h => by
    rw [pack, bitsL, bits8, byte8, bitsGo_byteGo, bitsL_pack n _ (by simp; omega)]
    by_cases h8 : 8 ≤ l.length
    · rw [show 8 - l.length = 0 by omega, List.replicate_zero, List.append_nil, ← List.append_assoc, List.take_append_drop]
      simp; omega
    · rw [List.drop_of_length_le (by omega), List.take_of_length_le (by omega), List.nil_append, List.append_assoc, List.replicate_append_replicate]
      simp; omega
theorem byte_mask : ∀ b : Nat, b < 256 → ∀ m : Nat, m < 9 → byteGo 8 ((bitsGo 8 b).take m) = maskN b m := by decide +kernel
theorem pack_nil : ∀ n, pack n [] = List.replicate n 0
  | 0 => rfl
  | n + 1 => by rw [pack, List.drop_nil, pack_nil n]; rfl
theorem pack_mask : ∀ (l : List UInt8) (n : Nat), pack l.length ((bitsL l).take n) = maskL l n
  | [], n => rfl
  | b :: l, n => by
    rw [List.length_cons, pack, bitsL, maskL]
    have hb := b.toNat_lt
    by_cases h8 : 8 ≤ n
    · have e1 : (bits8 b ++ bitsL l).take n = bits8 b ++ (bitsL l).take (n - 8) := by
        rw [List.take_append, bits8_len, List.take_of_length_le (by rw [bits8_len]; omega)]
      have h := byte_mask b.toNat hb 8 (by omega)
      rw [List.take_of_length_le (by rw [bitsGo_len]; omega)] at h
      rw [e1, byteGo_app 8 _ _ (bits8_len b), List.drop_append, bits8_len, List.drop_of_length_le (by rw [bits8_len]; omega), List.nil_append, List.drop_zero, pack_mask l (n - 8), bits8, h, maskN_big (by omega), maskN_big (by omega), show ((n - 8 : Nat) : Int) = n - 8 by omega]
    · have e1 : (bits8 b ++ bitsL l).take n = (bits8 b).take n := by rw [List.take_append_of_le_length (by rw [bits8_len]; omega)]
      rw [e1, List.drop_of_length_le (by simp; omega), pack_nil, maskL_neg _ _ (by omega), bits8, byte_mask b.toNat hb n (by omega)]
theorem bit_go : ∀ b : Nat, b < 256 → ∀ k : Nat, k < 8 → b / 2 ^ (7 - k) % 2 = if (bitsGo 8 b)[k]? = some true then 1 else 0 := by decide +kernel
theorem bitN_bits : ∀ (l : List UInt8) (n : Nat), bitN l n = if (bitsL l)[n]? = some true then 1 else 0
  | [], n => by simp [bitN, bitsL]
  | b :: l, n => by
    rw [bitsL]
    by_cases h8 : n < 8
    · rw [List.getElem?_append_left (by rw [bits8_len]; omega), bits8, ← bit_go b.toNat b.toNat_lt n h8]
      simp only [bitN]
      rw [show n / 8 = 0 by omega, show n % 8 = n by omega]
      rfl
    · rw [List.getElem?_append_right (by rw [bits8_len]; omega), bits8_len, ← bitN_bits l (n - 8)]
      simp only [bitN]
      rw [show n / 8 = (n - 8) / 8 + 1 by omega, show n % 8 = (n - 8) % 8 by omega, List.getElem?_cons_succ]

/-! ### Prefixes -/
/-- The prefix of a family, a distinguisher and bits. -/
def pk (f : Int) (r : Nat) (k : List Bool) : Pfx := ⟨f, r, pack (sizeN f) k, (k.length : Nat)⟩
def kOf (p : Pfx) : List Bool := (bitsL p.addr).take p.len.toNat
/-- The most bits of a family. -/
def mx (f : Int) : Nat := 8 * sizeN f
theorem mx_le (f : Int) : mx f ≤ 128 := by have := size_le f; unfold mx; omega
theorem may_parts {p : Pfx} (h : mayP p = true) : sizeN p.fam ≠ 0 ∧ p.addr.length = sizeN p.fam ∧ 0 ≤ p.len ∧ p.len ≤ 8 * (sizeN p.fam : Int) ∧ (p.rd = 0 ∨ apartF p.fam = true) ∧ maskL p.addr p.len = p.addr := by
  simp only [mayP, Bool.and_eq_true, Bool.or_eq_true, decide_eq_true_eq] at h
  obtain ⟨⟨⟨⟨⟨a, b⟩, c⟩, d⟩, e⟩, f⟩ := h
  exact ⟨a, b, c, d, e, f⟩
theorem may_pk {p : Pfx} (h : mayP p = true) : p = pk p.fam p.rd (kOf p) ∧ (kOf p).length ≤ mx p.fam := by
  obtain ⟨_, h2, h3, h4, _, h6⟩ := may_parts h
  have hl : (kOf p).length = p.len.toNat := by simp [kOf, bitsL_len]; omega
  refine ⟨?_, by rw [hl]; unfold mx; omega⟩
  unfold pk
  have hp := pack_mask p.addr p.len.toNat
  rw [show ((p.len.toNat : Nat) : Int) = p.len by omega, h6, h2] at hp
  rw [hl, show ((p.len.toNat : Nat) : Int) = p.len by omega, show pack (sizeN p.fam) (kOf p) = p.addr from hp]
theorem kOf_pk {f : Int} {r : Nat} {k : List Bool} (h : k.length ≤ mx f) : kOf (pk f r k) = k := by
  simp only [kOf, pk, Int.toNat_natCast]
  rw [bitsL_pack _ _ h, List.take_append_of_le_length (Nat.le_refl _), List.take_of_length_le (Nat.le_refl _)]
theorem mask_pack {n : Nat} {k : List Bool} (h : k.length ≤ 8 * n) (m : Nat) : maskL (pack n k) m = pack n (k.take m) := by
  have := pack_mask (pack n k) m
  rw [← this, pack_len, bitsL_pack n k h]
  by_cases hm : m ≤ k.length
  · rw [List.take_append_of_le_length hm]
  · rw [List.take_append, List.take_of_length_le (l := k) (by omega), List.take_replicate]
    have z : ∀ n (k : List Bool) j, k.length ≤ 8 * n → pack n (k ++ List.replicate j false) = pack n k := by
      intro n
      induction n with
      | zero => intro k j _; rfl
      | succ n ih =>
        intro k j hk
        have zero : ∀ c (l : List Bool) j, byteGo c (l ++ List.replicate j false) = byteGo c l := by
          intro c
          induction c with
          | zero => intro l j; rfl
          | succ c ihc =>
            intro l j
            cases l with
            | nil =>
              cases j with
              | zero => rfl
              | succ j =>
                have := ihc [] j
                rw [byteGo_nil] at this
                simp only [List.nil_append, List.replicate_succ, byteGo, Bool.false_eq_true, if_false]
                simpa using this
            | cons b l => simp [byteGo, ihc l j]
        rw [pack, pack, zero]
        congr 1
        rw [List.drop_append, List.drop_replicate]
        exact ih _ _ (by simp; omega)
    exact z n k _ h
theorem pk_may {f : Int} {r : Nat} {k : List Bool} (h0 : sizeN f ≠ 0) (hr : r = 0 ∨ apartF f = true) (h : k.length ≤ mx f) : mayP (pk f r k) = true := by
  have a1 : sizeN (pk f r k).fam ≠ 0 := h0
  have a2 : (pk f r k).addr.length = sizeN (pk f r k).fam := pack_len _ _
  have a3 : 0 ≤ (pk f r k).len := by show (0 : Int) ≤ (k.length : Nat); omega
  have a4 : (pk f r k).len ≤ 8 * (sizeN (pk f r k).fam : Int) := by show ((k.length : Nat) : Int) ≤ 8 * (sizeN f : Int); unfold mx at h; omega
  have a5 : (pk f r k).rd = 0 ∨ apartF (pk f r k).fam = true := hr
  have a6 : maskL (pk f r k).addr (pk f r k).len = (pk f r k).addr := by
    show maskL (pack (sizeN f) k) (k.length : Nat) = pack (sizeN f) k
    rw [mask_pack h, List.take_of_length_le (Nat.le_refl _)]
  simp only [mayP, Bool.and_eq_true, Bool.or_eq_true, decide_eq_true_eq]
  exact ⟨⟨⟨⟨⟨a1, a2⟩, a3⟩, a4⟩, a5⟩, a6⟩
theorem pk_inj {f : Int} {r : Nat} {k k' : List Bool} (h : k.length ≤ mx f) (h' : k'.length ≤ mx f) : pk f r k = pk f r k' ↔ k = k' :=
  ⟨fun e => by rw [← kOf_pk (r := r) h, e, kOf_pk h'], fun e => by rw [e]⟩
theorem bit_pack {n : Nat} {k : List Bool} (h : k.length ≤ 8 * n) (i : Nat) : bitN (pack n k) i = if k[i]? = some true then 1 else 0 := by
  rw [bitN_bits, bitsL_pack n k h]
  by_cases hi : i < k.length
  · rw [List.getElem?_append_left hi]
  · rw [List.getElem?_append_right (by omega), List.getElem?_replicate, List.getElem?_eq_none (by omega)]
    split <;> simp
/-- The first bits' prefix. -/
theorem cut_pk {f : Int} {r : Nat} {k : List Bool} (h : k.length ≤ mx f) {m : Nat} (hm : m ≤ k.length) : (⟨f, r, maskL (pk f r k).addr m, (m : Nat)⟩ : Pfx) = pk f r (k.take m) := by
  simp only [pk]
  rw [mask_pack h, List.length_take, Nat.min_eq_left hm]

/-! ### Their order -/
theorem byteGo_bl : ∀ k (a b : List Bool), bl a b = true → byteGo k a < byteGo k b ∨ (byteGo k a = byteGo k b ∧ (bl (a.drop k) (b.drop k) = true ∨ (a.drop k = [] ∧ b.drop k = [] ∧ a.length < b.length)))
  | 0, a, b, h => .inr ⟨rfl, .inl h⟩
  | k + 1, [], [], h => by simp [bl] at h
  | k + 1, [], true :: bs, _ => .inl (by have := Nat.two_pow_pos k; simp only [byteGo, if_true]; omega)
  | k + 1, [], false :: [], _ => .inr (by simp [byteGo, byteGo_nil])
  | k + 1, [], false :: c :: bs, _ => by
    rcases byteGo_bl k [] (c :: bs) rfl with h | ⟨h, h2⟩
    · rw [byteGo_nil] at h
      exact .inl (by simp only [byteGo, Bool.false_eq_true, if_false]; omega)
    · rw [byteGo_nil] at h
      refine .inr ⟨by simp only [byteGo, Bool.false_eq_true, if_false]; omega, ?_⟩
      rcases h2 with h2 | ⟨_, h3, _⟩
      · left; simpa using h2
      · right; exact ⟨by simp, by simpa using h3, by simp⟩
  | k + 1, _ :: _, [], h => by simp [bl] at h
  | k + 1, x :: as, y :: bs, h => by
    simp only [bl] at h
    split at h
    · rename_i e
      subst e
      simp only [byteGo, List.drop_succ_cons, List.length_cons]
      rcases byteGo_bl k as bs h with h | ⟨h, h2⟩
      · exact .inl (by omega)
      · refine .inr ⟨by omega, ?_⟩
        rcases h2 with h2 | ⟨h3, h4, h5⟩
        · exact .inl h2
        · exact .inr ⟨h3, h4, by omega⟩
    · rename_i e
      subst h
      have : x = false := by cases x <;> simp_all
      subst this
      have := byteGo_lt k as
      exact .inl (by simp only [byteGo, Bool.false_eq_true, if_false, if_true]; omega)
open Go.Lib in
theorem pack_bl : ∀ n (a b : List Bool), bl a b = true → compareBytes (pack n a) (pack n b) = -1 ∨ (pack n a = pack n b ∧ (bl (a.drop (8 * n)) (b.drop (8 * n)) = true ∨ a.length < b.length))
  | 0, a, b, h => .inr ⟨rfl, .inl h⟩
  | n + 1, a, b, h => by
    simp only [pack]
    rw [cb_cons, byte8, byte8]
    rcases byteGo_bl 8 a b h with h | ⟨h, h2⟩
    · left
      rw [cmpI, if_pos (by omega)]
      rfl
    · rw [h, cmpI_self, orI_zero]
      rcases h2 with h2 | ⟨h3, h4, h5⟩
      · rcases pack_bl n _ _ h2 with h6 | ⟨h6, h7⟩
        · exact .inl h6
        · refine .inr ⟨by rw [h6], ?_⟩
          rcases h7 with h7 | h7
          · left; rw [List.drop_drop, List.drop_drop] at h7; rw [show 8 * (n + 1) = 8 + 8 * n by omega]; exact h7
          · right; simp at h7; omega
      · rw [h3, h4]
        exact .inr ⟨rfl, .inr h5⟩
theorem pk_lt {f : Int} {r : Nat} {a b : List Bool} (ha : a.length ≤ mx f) (hb : b.length ≤ mx f) (h : bl a b = true) : cmpPf (pk f r a) (pk f r b) < 0 := by
  simp only [cmpPf, pk, cmpI_self, orI_zero]
  rcases pack_bl (sizeN f) a b h with h | ⟨h, h2⟩
  · rw [h, orI_nz (by decide)]; decide
  · have hlt : a.length < b.length := by
      rcases h2 with h2 | h2
      · rw [List.drop_of_length_le (by unfold mx at ha; omega), List.drop_of_length_le (by unfold mx at hb; omega)] at h2
        cases h2
      · exact h2
    rw [h, cb_self, orI_zero, cmpI, if_pos (by omega)]
    decide
theorem pk_lt_root {f f' : Int} {r r' : Nat} {a b : List Bool} (h : f < f' ∨ (f = f' ∧ r < r')) : cmpPf (pk f r a) (pk f' r' b) < 0 := by
  simp only [cmpPf, pk]
  rcases h with h | ⟨rfl, h⟩
  · have : cmpI f f' = -1 := by rw [cmpI, if_pos h]
    rw [this, orI_nz (by decide)]; decide
  · have : cmpI (r : Int) r' = -1 := by rw [cmpI, if_pos (by omega)]
    rw [cmpI_self, orI_zero, this, orI_nz (by decide)]; decide
end Go.Am

/-
  Plain laws of a trie's roots: trees by families and distinguishers, in order.
-/
namespace Go.Am

set_option maxRecDepth 100000
structure Rt where
  fam : Int
  rd : Nat
  t : T Int
def rlow (f : Int) (d : Nat) (r : Rt) : Bool := decide (r.fam < f) || (decide (r.fam = f) && decide (r.rd < d))
def req (f : Int) (d : Nat) (r : Rt) : Bool := decide (r.fam = f) && decide (r.rd = d)
def rgr (f : Int) (d : Nat) (r : Rt) : Bool := decide (f < r.fam) || (decide (r.fam = f) && decide (d < r.rd))
def rix (f : Int) (d : Nat) (rs : List Rt) : Nat := (rs.takeWhile (rlow f d)).length
def rhas (f : Int) (d : Nat) (rs : List Rt) : Bool := match rs.dropWhile (rlow f d) with
  | r :: _ => req f d r
  | [] => false
def treeOf (f : Int) (d : Nat) (rs : List Rt) : T Int := match rs.dropWhile (rlow f d) with
  | r :: _ => if req f d r = true then r.t else .nil
  | [] => .nil
def rput (f : Int) (d : Nat) (t : T Int) (rs : List Rt) : List Rt := rs.takeWhile (rlow f d) ++ ⟨f, d, t⟩ :: (if rhas f d rs = true then (rs.dropWhile (rlow f d)).tail else rs.dropWhile (rlow f d))
theorem req_iff {f : Int} {d : Nat} {r : Rt} : req f d r = true ↔ r.fam = f ∧ r.rd = d := by simp [req]
theorem rlow_iff {f : Int} {d : Nat} {r : Rt} : rlow f d r = true ↔ r.fam < f ∨ (r.fam = f ∧ r.rd < d) := by simp [rlow]
theorem rgr_iff {f : Int} {d : Nat} {r : Rt} : rgr f d r = true ↔ f < r.fam ∨ (r.fam = f ∧ d < r.rd) := by simp [rgr]
theorem three {f : Int} {d : Nat} (r : Rt) : rlow f d r = true ∨ req f d r = true ∨ rgr f d r = true := by
  simp only [req_iff, rlow_iff, rgr_iff]; omega
/-- May a root be? -/
structure RtOk (r : Rt) : Prop where
  size : sizeN r.fam ≠ 0
  apart : r.rd = 0 ∨ apartF r.fam = true
  ok : r.t.Ok (mx r.fam) []
/-- Roots in order. -/
structure RsOk (rs : List Rt) : Prop where
  all : ∀ r ∈ rs, RtOk r
  sorted : rs.Pairwise fun a b => rlow b.fam b.rd a = true
theorem take_low {f : Int} {d : Nat} {rs : List Rt} : ∀ r ∈ rs.takeWhile (rlow f d), rlow f d r = true := fun r hr => by
  have := List.all_takeWhile (l := rs) (p := rlow f d)
  exact List.all_eq_true.1 this r hr
theorem drop_head {f : Int} {d : Nat} : ∀ {rs : List Rt} {r : Rt} {b : List Rt}, rs.dropWhile (rlow f d) = r :: b → rlow f d r = false
  | [], r, b, e => by simp at e
  | x :: rs, r, b, e => by
    rw [List.dropWhile_cons] at e
    split at e
    · exact drop_head e
    · rename_i h; cases e; simpa using h
theorem rs_split (f : Int) (d : Nat) (rs : List Rt) : rs = rs.takeWhile (rlow f d) ++ rs.dropWhile (rlow f d) := (List.takeWhile_append_dropWhile).symm
/-- Behind the place all are greater, but the one that stands there. -/
theorem rest_gr {f : Int} {d : Nat} {rs : List Rt} (o : RsOk rs) : ∀ r ∈ (if rhas f d rs = true then (rs.dropWhile (rlow f d)).tail else rs.dropWhile (rlow f d)), rgr f d r = true := by
  have hs := o.sorted
  rw [rs_split f d rs] at hs
  have hd := (List.pairwise_append.1 hs).2.1
  unfold rhas
  cases e : rs.dropWhile (rlow f d) with
  | nil => simp
  | cons x b =>
    rw [e] at hd
    have hx := drop_head e
    have hb := (List.pairwise_cons.1 hd).1
    simp only
    by_cases hq : req f d x = true
    · rw [if_pos hq]
      intro r hr
      have := hb r hr
      simp only [req_iff, rlow_iff, rgr_iff] at *
      omega
    · rw [if_neg hq]
      intro r hr
      have hg : rgr f d x = true := by
        rcases three (f := f) (d := d) x with h | h | h
        · rw [h] at hx; cases hx
        · exact absurd h hq
        · exact h
      rcases List.mem_cons.1 hr with rfl | hr
      · exact hg
      · have := hb r hr
        simp only [rlow_iff, rgr_iff] at *
        omega
theorem in_take {f : Int} {d : Nat} {rs : List Rt} {r : Rt} (h : r ∈ rs.takeWhile (rlow f d)) : r ∈ rs := (List.takeWhile_prefix _).subset h
theorem in_drop {f : Int} {d : Nat} {rs : List Rt} {r : Rt} (h : r ∈ rs.dropWhile (rlow f d)) : r ∈ rs := (List.dropWhile_suffix _).subset h
theorem rput_ok {f : Int} {d : Nat} {t : T Int} {rs : List Rt} (o : RsOk rs) (h0 : sizeN f ≠ 0) (hr : d = 0 ∨ apartF f = true) (ht : t.Ok (mx f) []) : RsOk (rput f d t rs) := by
  have hg := rest_gr (f := f) (d := d) o
  have hs := o.sorted
  rw [rs_split f d rs] at hs
  obtain ⟨p1, p2, p3⟩ := List.pairwise_append.1 hs
  have sub : ∀ r ∈ (if rhas f d rs = true then (rs.dropWhile (rlow f d)).tail else rs.dropWhile (rlow f d)), r ∈ rs.dropWhile (rlow f d) := fun r hr => by
    split at hr
    · exact List.mem_of_mem_tail hr
    · exact hr
  refine ⟨fun r hr => ?_, ?_⟩
  · simp only [rput, List.mem_append, List.mem_cons] at hr
    rcases hr with hr | rfl | hr
    · exact o.all r (in_take hr)
    · exact ⟨h0, hr, ht⟩
    · exact o.all r (in_drop (sub r hr))
  · refine List.pairwise_append.2 ⟨p1, List.pairwise_cons.2 ⟨fun r hr => ?_, ?_⟩, fun a ha b hb => ?_⟩
    · have := hg r hr
      simp only [rlow_iff, rgr_iff] at *
      omega
    · split
      · exact p2.tail
      · exact p2
    · rcases List.mem_cons.1 hb with rfl | hb
      · exact take_low a ha
      · exact p3 a ha b (sub b hb)
/-- A tree, found by its family and distinguisher. -/
theorem treeOf_iff {rs : List Rt} (o : RsOk rs) {f : Int} {d : Nat} {t : T Int} : (∃ r ∈ rs, r.fam = f ∧ r.rd = d ∧ r.t = t) ↔ rhas f d rs = true ∧ treeOf f d rs = t := by
  have hg := rest_gr (f := f) (d := d) o
  unfold rhas treeOf at *
  constructor
  · rintro ⟨r, hr, rfl, rfl, rfl⟩
    rw [rs_split r.fam r.rd rs] at hr
    rcases List.mem_append.1 hr with hr | hr
    · have := take_low r hr
      simp only [rlow_iff] at this; omega
    · cases e : rs.dropWhile (rlow r.fam r.rd) with
      | nil => rw [e] at hr; simp at hr
      | cons x b =>
        rw [e] at hr hg
        simp only at hg
        rcases List.mem_cons.1 hr with rfl | hr
        · simp [req]
        · exfalso
          have : rgr r.fam r.rd r = true := hg r (by split; exact hr; simp [hr])
          simp only [rgr_iff] at this; omega
  · rintro ⟨h1, h2⟩
    cases e : rs.dropWhile (rlow f d) with
    | nil => rw [e] at h1; simp at h1
    | cons x b =>
      rw [e] at h1 h2
      simp only at h1 h2
      rw [if_pos h1] at h2
      refine ⟨x, by rw [rs_split f d rs, e]; simp, ?_⟩
      obtain ⟨a, b⟩ := req_iff.1 h1
      exact ⟨a, b, h2⟩
theorem treeOf_none {rs : List Rt} {f : Int} {d : Nat} (h : rhas f d rs = false) : treeOf f d rs = .nil := by
  unfold rhas treeOf at *
  split <;> simp_all
theorem treeOf_ok {rs : List Rt} (o : RsOk rs) (f : Int) (d : Nat) : (treeOf f d rs).Ok (mx f) [] := by
  cases h : rhas f d rs with
  | false => rw [treeOf_none h]; trivial
  | true =>
    obtain ⟨r, hr, rfl, rfl, e⟩ := (treeOf_iff o (t := treeOf f d rs)).2 ⟨h, rfl⟩
    rw [← e]; exact (o.all r hr).ok
theorem rput_self {rs : List Rt} (o : RsOk rs) {f : Int} {d : Nat} (t : T Int) (h0 : sizeN f ≠ 0) (hr : d = 0 ∨ apartF f = true) (ht : t.Ok (mx f) []) : treeOf f d (rput f d t rs) = t ∧ rhas f d (rput f d t rs) = true := by
  have := (treeOf_iff (rput_ok o h0 hr ht) (f := f) (d := d) (t := t)).1 ⟨⟨f, d, t⟩, by simp [rput], rfl, rfl, rfl⟩
  exact ⟨this.2, this.1⟩
theorem rput_mem {rs : List Rt} (o : RsOk rs) {f : Int} {d : Nat} {t : T Int} (r : Rt) : r ∈ rput f d t rs ↔ r = ⟨f, d, t⟩ ∨ (r ∈ rs ∧ ¬ (r.fam = f ∧ r.rd = d)) := by
  have hg := rest_gr (f := f) (d := d) o
  simp only [rput, List.mem_append, List.mem_cons]
  constructor
  · rintro (h | h | h)
    · have := take_low r h
      refine .inr ⟨in_take h, ?_⟩
      simp only [rlow_iff] at this; omega
    · exact .inl h
    · have h2 := hg r h
      refine .inr ⟨?_, by simp only [rgr_iff] at h2; omega⟩
      split at h
      · exact in_drop (List.mem_of_mem_tail h)
      · exact in_drop h
  · rintro (h | ⟨h, hn⟩)
    · exact .inr (.inl h)
    · rw [rs_split f d rs] at h
      rcases List.mem_append.1 h with h | h
      · exact .inl h
      · right; right
        unfold rhas
        cases e : rs.dropWhile (rlow f d) with
        | nil => rw [e] at h; simp at h
        | cons x b =>
          rw [e] at h
          simp only
          split
          · rename_i hq
            rcases List.mem_cons.1 h with rfl | h
            · exact absurd (req_iff.1 hq) hn
            · exact h
          · exact h

/-! ### All pairs -/
def rtPairs (r : Rt) : List (Pfx × Int) := r.t.pairs.map fun x => (pk r.fam r.rd x.1, x.2)
def rsPairs (rs : List Rt) : List (Pfx × Int) := rs.flatMap rtPairs
theorem mem_rt {r : Rt} (o : RtOk r) {q : Pfx} {y : Int} : (q, y) ∈ rtPairs r ↔ q.fam = r.fam ∧ q.rd = r.rd ∧ mayP q = true ∧ (kOf q, y) ∈ r.t.pairs := by
  simp only [rtPairs, List.mem_map, Prod.mk.injEq]
  constructor
  · rintro ⟨⟨k, z⟩, h1, rfl, rfl⟩
    have hk := (o.ok.keys _ h1).2
    exact ⟨rfl, rfl, pk_may o.size o.apart hk, by rw [kOf_pk hk]; exact h1⟩
  · rintro ⟨h1, h2, h3, h4⟩
    refine ⟨(kOf q, y), h4, ?_, rfl⟩
    rw [← h1, ← h2]
    exact (may_pk h3).1.symm
theorem mem_rs {rs : List Rt} (o : RsOk rs) {q : Pfx} {y : Int} : (q, y) ∈ rsPairs rs ↔ mayP q = true ∧ (kOf q, y) ∈ (treeOf q.fam q.rd rs).pairs := by
  simp only [rsPairs, List.mem_flatMap]
  constructor
  · rintro ⟨r, hr, h⟩
    obtain ⟨h1, h2, h3, h4⟩ := (mem_rt (o.all r hr)).1 h
    have := (treeOf_iff o (f := q.fam) (d := q.rd) (t := r.t)).1 ⟨r, hr, h1.symm, h2.symm, rfl⟩
    exact ⟨h3, by rw [this.2]; exact h4⟩
  · rintro ⟨h1, h2⟩
    have hh : rhas q.fam q.rd rs = true := by
      cases h : rhas q.fam q.rd rs with
      | true => rfl
      | false => rw [treeOf_none h] at h2; simp [T.pairs] at h2
    obtain ⟨r, hr, e1, e2, e3⟩ := (treeOf_iff o).2 ⟨hh, rfl⟩
    exact ⟨r, hr, (mem_rt (o.all r hr)).2 ⟨e1.symm, e2.symm, h1, by rw [e3]; exact h2⟩⟩
/-- Pairs that rise. -/
def PSorted (l : List (Pfx × Int)) : Prop := l.Pairwise fun a b => cmpPf a.1 b.1 < 0
theorem rt_sorted {r : Rt} (o : RtOk r) : PSorted (rtPairs r) := by
  unfold PSorted rtPairs
  rw [List.pairwise_map]
  refine List.Pairwise.imp_of_mem ?_ o.ok.sorted
  intro a b ha hb h
  exact pk_lt (o.ok.keys a ha).2 (o.ok.keys b hb).2 h
theorem rs_sorted : ∀ {rs : List Rt}, RsOk rs → PSorted (rsPairs rs)
  | [], _ => List.Pairwise.nil
  | r :: rs, o => by
    have hs := List.pairwise_cons.1 o.sorted
    have o2 : RsOk rs := ⟨fun x hx => o.all x (by simp [hx]), hs.2⟩
    unfold PSorted rsPairs
    rw [List.flatMap_cons]
    refine List.pairwise_append.2 ⟨rt_sorted (o.all r (by simp)), rs_sorted o2, fun a ha b hb => ?_⟩
    obtain ⟨r', hr', hb⟩ := List.mem_flatMap.1 hb
    have := hs.1 r' hr'
    obtain ⟨x, _, rfl⟩ := List.mem_map.1 ha
    obtain ⟨y, _, rfl⟩ := List.mem_map.1 hb
    exact pk_lt_root (rlow_iff.1 this)
theorem cmp_irr (a : Pfx) : ¬ cmpPf a a < 0 := by rw [ordr_pf.self a]; omega
/-- Two that rise and have the same members are the same. -/
theorem psorted_eq : ∀ {a b : List (Pfx × Int)}, PSorted a → PSorted b → (∀ x, x ∈ a ↔ x ∈ b) → a = b
  | [], [], _, _, _ => rfl
  | [], y :: b, _, _, h => by have := (h y).2 (by simp); simp at this
  | x :: a, [], _, _, h => by have := (h x).1 (by simp); simp at this
  | x :: a, y :: b, ha, hb, h => by
    obtain ⟨a1, a2⟩ := List.pairwise_cons.1 ha
    obtain ⟨b1, b2⟩ := List.pairwise_cons.1 hb
    have exy : x = y := by
      have hx := (h x).1 (by simp)
      have hy := (h y).2 (by simp)
      rcases List.mem_cons.1 hx with e | hx
      · exact e
      · rcases List.mem_cons.1 hy with e | hy
        · exact e.symm
        · have p := a1 y hy
          have q := b1 x hx
          exact absurd (ordr_pf.down _ _ _ p q) (cmp_irr _)
    subst exy
    congr 1
    refine psorted_eq a2 b2 fun z => ?_
    constructor
    · intro hz
      rcases List.mem_cons.1 ((h z).1 (by simp [hz])) with rfl | h
      · exact absurd (a1 _ hz) (cmp_irr _)
      · exact h
    · intro hz
      rcases List.mem_cons.1 ((h z).2 (by simp [hz])) with rfl | h
      · exact absurd (b1 _ hz) (cmp_irr _)
      · exact h
end Go.Am
