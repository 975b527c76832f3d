/-
  Contracts: a capability, put into an open.
-/
import Derived.Test.YtapokdcbhpdceaaW3
import Derived.Test.YtapokdcbhpdceaaL1
namespace Go.Am
open Go.Proofs

set_option maxRecDepth 100000
def withB (l : List Int) (f : Int) : List Int := (fr 5).filter fun x => x == f || l.contains x
def FamOk (l : List Int) : Prop := l.Pairwise (· < ·) ∧ ∀ x ∈ l, 1 ≤ x ∧ x ≤ 5
theorem withB_ok (l : List Int) (f : Int) : FamOk (withB l f) := ⟨(fr_pair 5).filter _, fun x hx => by
  have := (List.mem_filter.1 hx).1; have := mem_fr.1 this; omega⟩
theorem withB_has {l : List Int} (h : FamOk l) {f : Int} (hf : l.contains f = true) : withB l f = l := by
  refine pair_ext _ _ ((fr_pair 5).filter _) h.1 fun x => ?_
  simp only [withB, List.mem_filter, mem_fr, Bool.or_eq_true, beq_iff_eq, List.contains_iff_mem] at hf ⊢
  constructor
  · rintro ⟨_, rfl | hx⟩
    · exact hf
    · exact hx
  · intro hx
    have := h.2 x hx
    exact ⟨⟨by omega, by omega⟩, .inr hx⟩
theorem withB_sort {l : List Int} (h : FamOk l) {f : Int} (h1 : 1 ≤ f) (h5 : f ≤ 5) (hf : l.contains f = false) {l' : List Int} (hp : l'.Perm (l ++ [f])) (hs : l'.Pairwise (· ≤ ·)) : l' = withB l f := by
  have hn : f ∉ l := by simpa using hf
  have nd : l'.Nodup := by
    refine hp.nodup_iff.2 ?_
    rw [List.nodup_append]
    refine ⟨h.1.imp (fun {a b} hab => by omega), by simp, fun a ha b hb e => ?_⟩
    simp at hb; subst hb; subst e; exact hn ha
  refine pair_ext _ _ ?_ ((fr_pair 5).filter _) fun x => ?_
  · exact (List.pairwise_and_iff.2 ⟨hs, nd⟩).imp fun {a b} ⟨h1, h2⟩ => by omega
  · rw [hp.mem_iff]
    simp only [withB, List.mem_filter, mem_fr, Bool.or_eq_true, beq_iff_eq, List.contains_iff_mem, List.mem_append, List.mem_singleton]
    constructor
    · rintro (hx | rfl)
      · have := h.2 x hx; exact ⟨⟨by omega, by omega⟩, .inr hx⟩
      · exact ⟨⟨by omega, by omega⟩, .inl rfl⟩
    · rintro ⟨_, rfl | hx⟩
      · exact .inr rfl
      · exact .inl hx
theorem FamOk.len {l : List Int} (h : FamOk l) : l.length ≤ 5 := by
  have e : l = (fr 5).filter (fun x => l.contains x) := by
    refine pair_ext _ _ h.1 ((fr_pair 5).filter _) fun x => ?_
    simp only [List.mem_filter, mem_fr, List.contains_iff_mem]
    constructor
    · intro hx; have := h.2 x hx; exact ⟨⟨by omega, by omega⟩, hx⟩
    · exact fun hx => hx.2
  rw [e]
  exact Nat.le_trans (List.length_filter_le _ _) (by simp [fr])

/-- Six numbers, of the entries. -/
def arrB (w : Nat → Option Nat) (es : List (Int × Nat)) : List Nat := es.foldl (fun ks x => match w x.2 with | some v => ks.set x.1.toNat v | none => ks) [0, 0, 0, 0, 0, 0]
def w64 (b : Nat) : Option Nat := some (1 + b / 128)
def w69 (b : Nat) : Option Nat := if 1 ≤ b ∧ b ≤ 3 then some b else none
def keptOf (ks : List Nat) (n : Nat) : List Rest := (List.range n).filterMap fun i => if 0 < ks.getD i 0 then some ⟨(i : Int), ks.getD i 0 == 2⟩ else none
def addsOf (ks : List Nat) (n : Nat) : List Add := (List.range n).filterMap fun i => if 0 < ks.getD i 0 then some ⟨(i : Int), ks.getD i 0 &&& 2 != 0, ks.getD i 0 &&& 1 != 0⟩ else none
def capS (o : Opn) (code : Nat) (s : List UInt8) : Except Nat Opn :=
  if code = 1 then
    if s.length = 4 then .ok (if 0 < fam3 (s.take 2 ++ s.drop 3) then { o with fams := withB o.fams (fam3 (s.take 2 ++ s.drop 3)) } else o) else .error 0
  else if code = 2 then .ok { o with refresh := true }
  else if code = 64 then
    if s.length < 2 ∨ s.length % 4 ≠ 2 then .error 0
    else .ok { o with hasgr := true, again := decide (32768 ≤ val (s.take 2)), time := ((val (s.take 2) % 4096 : Nat) : Int), kept := keptOf (arrB w64 (ents (s.drop 2))) 6 }
  else if code = 65 then
    if s.length = 4 then (if val s = 0 then .error 2 else .ok { o with four := true, asn := (val s : Nat) }) else .error 0
  else if code = 69 then
    if s.length % 4 = 0 then .ok { o with adds := addsOf (arrB w69 (ents s)) 6 } else .error 0
  else .ok o

def oR (o : Opn) : List V → List V
  | [f, a, k] => opnC o f a k
  | _ => []
def oL (o : Opn) (f a k : V) : List (Nat × V × List (List V)) := [(1, f, o.fams.map fun x => [.int .i64 x]), (3, a, o.adds.map addC), (2, k, o.kept.map restC)]
def fineV : V := .agg [.int .i64 0, .int .u8 0, .int .u8 0]
def badV (e : Nat) : V := .agg [.int .i64 3, .int .u8 2, .int .u8 (e : Nat)]
/-- What a call may turn. -/
structure Keeps (h h' : H) (own own' : Nat → Prop) : Prop where
  wf : h'.WF
  next : h.next ≤ h'.next
  old : ∀ j, j < h.next → ¬ own j → h'.get j = h.get j
  own : ∀ j, own' j → own j ∨ h.next ≤ j
def owns (q : Nat) (f a k : V) (j : Nat) : Prop := j = q ∨ j ∈ f.ids ∨ j ∈ a.ids ∨ j ∈ k.ids
theorem Rws.put {base h : H} {s lo : Nat} {r r' : List V → List V} {ls ls' : List (Nat × V × List (List V))} (X : Rws base h s lo r ls) (hs : s < lo) (hlo : lo = base.next) (gl : ∀ x ∈ ls', Gl h lo x.1 x.2.1 x.2.2) (dj : ls'.Pairwise fun a b => ∀ j ∈ a.2.1.ids, j ∉ b.2.1.ids) :
    Rws base (h.set s (.row (r' (ls'.map fun x => x.2.1)))) s lo r' ls' := by
  have hn := X.ge.1
  simp only [H.next_set] at hn
  exact ⟨X.ge.set_same, X.wf.set (by omega) _, fun x hx => (gl x hx).keep (by simp) (fun j hj => by rw [H.get_set, if_neg (by have := ((gl x hx).lo j hj).1; omega)]), dj⟩
theorem Rws.gl3 {base h : H} {q lo : Nat} {r : List V → List V} {o : Opn} {f a k : V} (X : Rws base h q lo r (oL o f a k)) : Gl h lo 1 f (o.fams.map fun x => [.int .i64 x]) ∧ Gl h lo 3 a (o.adds.map addC) ∧ Gl h lo 2 k (o.kept.map restC) ∧ (∀ j ∈ f.ids, j ∉ a.ids) ∧ (∀ j ∈ f.ids, j ∉ k.ids) ∧ (∀ j ∈ a.ids, j ∉ k.ids) := by
  have d := X.dj
  simp only [oL, List.pairwise_cons, List.mem_cons, List.not_mem_nil, or_false, forall_eq_or_imp, forall_eq] at d
  exact ⟨X.gl (1, f, _) (by simp [oL]), X.gl (3, a, _) (by simp [oL]), X.gl (2, k, _) (by simp [oL]), d.1.1, d.1.2, d.2.1⟩
theorem Rws.mk3 {base h : H} {q lo : Nat} {o : Opn} {f a k : V} (ge : Ge (base.set q (.row (opnC o f a k))) h) (wf : h.WF) (g1 : Gl h lo 1 f (o.fams.map fun x => [.int .i64 x])) (g2 : Gl h lo 3 a (o.adds.map addC)) (g3 : Gl h lo 2 k (o.kept.map restC))
    (d1 : ∀ j ∈ f.ids, j ∉ a.ids) (d2 : ∀ j ∈ f.ids, j ∉ k.ids) (d3 : ∀ j ∈ a.ids, j ∉ k.ids) : Rws base h q lo (oR o) (oL o f a k) := by
  refine ⟨ge, wf, fun x hx => ?_, ?_⟩
  · simp only [oL, List.mem_cons, List.not_mem_nil, or_false] at hx
    rcases hx with rfl | rfl | rfl
    · exact g1
    · exact g2
    · exact g3
  · simp only [oL, List.pairwise_cons, List.mem_cons, List.not_mem_nil, or_false, forall_eq_or_imp, forall_eq]
    exact ⟨⟨d1, d2⟩, d3, fun _ h => absurd h (by simp), List.Pairwise.nil⟩
/-- The open's object. -/
theorem Rws.at3 {base h : H} {q lo : Nat} {o : Opn} {f a k : V} (X : Rws base h q lo (oR o) (oL o f a k)) (hq : q < base.next) : h.get q = some (.row (opnC o f a k)) := X.ge.get_set hq

/-- Another object is turned. -/
theorem Rws.turn {base h : H} {s lo : Nat} {r : List V → List V} {ls : List (Nat × V × List (List V))} (X : Rws base h s lo r ls) {i : Nat} (h1 : base.next ≤ i) (h2 : i < h.next) (h3 : i ≠ s) (h4 : ∀ x ∈ ls, i ∉ x.2.1.ids) (ob : O) : Rws base (h.set i ob) s lo r ls :=
  ⟨X.ge.set (by simpa using h1) ob, X.wf.set h2 _, fun x hx => (X.gl x hx).keep (by simp) (fun j hj => by rw [H.get_set, if_neg (fun e => h4 x hx (by rw [← e]; exact hj))]), X.dj⟩
/-- A list of it is sorted. -/
theorem Rws.sorted {base h : H} {q lo : Nat} {o : Opn} {f a k : V} {F l' : List Int} (X : Rws base h q lo (oR o) [(1, f, F.map fun x => [.int .i64 x]), (3, a, o.adds.map addC), (2, k, o.kept.map restC)]) (hq : q < lo) (hlo : lo = base.next) (hp : l'.Perm F) (hF : F ≠ []) :
    ∃ j, f = .sl j F.length 0 F.length none ∧ h.get j = some (.grow 1 (F.map (.int .i64))) ∧ lo ≤ j ∧ j < h.next ∧ Rws base (h.set j (.grow 1 (l'.map (.int .i64)))) q lo (oR { o with fams := l' }) (oL { o with fams := l' } f a k) := by
  have Y : Rws base h q lo (oR { o with fams := F }) (oL { o with fams := F } f a k) := X
  obtain ⟨g1, g2, g3, d1, d2, d3⟩ := Y.gl3
  rcases g1 with ⟨e, _⟩ | ⟨hne, j, b1, b2, rfl, b3⟩
  · exact absurd (by simpa using e) hF
  · have hl := hp.length_eq
    rw [flat_ints] at b3
    refine ⟨j, by simp [flat_ints], b3, b1, b2, Rws.mk3 ?_ (X.wf.set b2 _) (.inr ⟨?_, j, b1, by simpa using b2, by simp [flat_ints, hl], by simp [flat_ints]⟩) (g2.keep (by simp) (fun i hi => ?_)) (g3.keep (by simp) (fun i hi => ?_)) d1 d2 d3⟩
    · have : Ge (base.set q (.row (opnC o (.sl j (F.map fun x => [V.int .i64 x]).flatten.length 0 (F.map fun x => [V.int .i64 x]).length none) a k))) h := X.ge
      refine ⟨by simpa using this.1, fun i hi => ?_⟩
      simp only [H.next_set] at hi
      rw [H.get_set, if_neg (by omega)]
      exact this.2 i hi
    · intro e
      have : l' = [] := by simpa using e
      rw [this] at hl
      exact hF (List.length_eq_zero_iff.1 hl.symm)
    · rw [H.get_set, if_neg (fun e => d1 j (by simp [V.ids]) (by rw [← e]; exact hi))]
    · rw [H.get_set, if_neg (fun e => d2 j (by simp [V.ids]) (by rw [← e]; exact hi))]
theorem not_owns {base h : H} {q lo : Nat} {r : List V → List V} {o : Opn} {f a k : V} (X : Rws base h q lo r (oL o f a k)) (hq : q < h.next) {i : Nat} (hi : h.next ≤ i) : ¬ owns q f a k i := by
  obtain ⟨g1, g2, g3, _⟩ := X.gl3
  rintro (rfl | h | h | h)
  · omega
  · have := (g1.lo i h).2; omega
  · have := (g2.lo i h).2; omega
  · have := (g3.lo i h).2; omega
theorem oL_ids {o : Opn} {f a k : V} {q i : Nat} (h : ¬ owns q f a k i) : ∀ x ∈ oL o f a k, i ∉ x.2.1.ids := by
  intro x hx hi
  simp only [oL, List.mem_cons, List.not_mem_nil, or_false] at hx
  rcases hx with rfl | rfl | rfl
  · exact h (.inr (.inl hi))
  · exact h (.inr (.inr (.inl hi)))
  · exact h (.inr (.inr (.inr hi)))
theorem and_15 {n : Nat} (h : n < 65536) : intV .and .u64 (n : Int) 32768 = some (.int .u64 (if 32768 ≤ n then 32768 else 0)) := by
  show some (V.int .u64 (IntKind.u64.wrap ((BitVec.ofInt 64 (n : Int) &&& BitVec.ofInt 64 32768).toNat : Int))) = _
  have h1 : (BitVec.ofInt 64 (n : Int)).toNat = n := by simp; omega
  have h2 : (BitVec.ofInt 64 32768).toNat = 2 ^ 15 := by decide
  have tb : n.testBit 15 = decide (32768 ≤ n) := by
    rw [Nat.testBit_eq_decide_div_mod_eq]
    by_cases e : 32768 ≤ n
    · have : n / 2 ^ 15 % 2 = 1 := by omega
      simp [this, e]
    · have : n / 2 ^ 15 % 2 = 0 := by omega
      simp [this, e]
  have key : n &&& 2 ^ 15 = if 32768 ≤ n then 2 ^ 15 else 0 := by
    apply Nat.eq_of_testBit_eq
    intro i
    rw [Nat.testBit_and, Nat.testBit_two_pow]
    by_cases hi : 15 = i
    · subst hi
      rw [tb]
      split
      · rename_i e; rw [Nat.testBit_two_pow]; simp [e]
      · rename_i e; simp [e]
    · split
      · rw [Nat.testBit_two_pow]; simp [hi]
      · simp [hi]
  rw [BitVec.toNat_and, h1, h2, key]
  split
  · rw [u64_id (by decide)]; rfl
  · rw [u64_id (by decide)]; rfl
theorem and_12 {n : Nat} (h : n < 65536) : intV .and .u64 (n : Int) 4095 = some (.int .u64 ((n % 4096 : Nat) : Int)) := by
  show some (V.int .u64 (IntKind.u64.wrap ((BitVec.ofInt 64 (n : Int) &&& BitVec.ofInt 64 4095).toNat : Int))) = _
  have h1 : (BitVec.ofInt 64 (n : Int)).toNat = n := by simp; omega
  have h2 : (BitVec.ofInt 64 4095).toNat = 2 ^ 12 - 1 := by decide
  rw [BitVec.toNat_and, h1, h2, Nat.and_two_pow_sub_one_eq_mod, u64_id (by omega)]
theorem fold64 : ∀ (es : List (Int × Nat)) (ks : List Nat), es.foldl (fun cs x => step64 cs x.1 x.2) (ks.map fun v => V.int .i64 (v : Nat)) = (es.foldl (fun ks x => match w64 x.2 with | some v => ks.set x.1.toNat v | none => ks) ks).map fun v => V.int .i64 (v : Nat)
  | [], _ => rfl
  | x :: es, ks => by
    rw [List.foldl_cons, List.foldl_cons, ← fold64 es]
    congr 1
    simp [step64, w64, List.map_set]
theorem fold69 : ∀ (es : List (Int × Nat)) (ks : List Nat), es.foldl (fun cs x => step69 cs x.1 x.2) (ks.map fun v => V.int .u64 (v : Nat)) = (es.foldl (fun ks x => match w69 x.2 with | some v => ks.set x.1.toNat v | none => ks) ks).map fun v => V.int .u64 (v : Nat)
  | [], _ => rfl
  | x :: es, ks => by
    rw [List.foldl_cons, List.foldl_cons, ← fold69 es]
    congr 1
    unfold step69 w69
    split <;> simp [List.map_set]
theorem arr_len (w : Nat → Option Nat) (es : List (Int × Nat)) : (arrB w es).length = 6 := by
  have : ∀ (es : List (Int × Nat)) (ks : List Nat), (es.foldl (fun ks x => match w x.2 with | some v => ks.set x.1.toNat v | none => ks) ks).length = ks.length := by
    intro es
    induction es with
    | nil => intro ks; rfl
    | cons x es ih => intro ks; rw [List.foldl_cons, ih]; split <;> simp
  exact this es _
theorem arr_le (w : Nat → Option Nat) (m : Nat) (hw : ∀ b v, w b = some v → b < 256 → v ≤ m) : ∀ (es : List (Int × Nat)) (ks : List Nat), (∀ x ∈ es, x.2 < 256) → (∀ k ∈ ks, k ≤ m) → ∀ k ∈ es.foldl (fun ks x => match w x.2 with | some v => ks.set x.1.toNat v | none => ks) ks, k ≤ m
  | [], ks, _, h => h
  | x :: es, ks, he, h => by
    rw [List.foldl_cons]
    refine arr_le w m hw es _ (fun y hy => he y (by simp [hy])) ?_
    split
    · rename_i v hv
      intro k hk
      rcases List.mem_or_eq_of_mem_set hk with h1 | rfl
      · exact h k h1
      · exact hw _ _ hv (he x (by simp))
    · exact h
theorem ents_lt : ∀ (l : List UInt8), ∀ x ∈ ents l, x.2 < 256 ∧ 1 ≤ x.1 ∧ x.1 ≤ 5
  | a :: b :: c :: d :: l, x, hx => by
    have bd := famB_bd (val ([a, b, c].take 2)) (val (([a, b, c].drop 2).take 1))
    simp only [ents] at hx
    split at hx
    · rename_i h
      rcases List.mem_cons.1 hx with rfl | hx
      · refine ⟨d.toNat_lt, ?_, ?_⟩
        · simp only; omega
        · simp only; unfold fam3; omega
      · exact ents_lt l x hx
    · exact ents_lt l x hx
  | [], x, hx => by simp [ents] at hx
  | [_], x, hx => by simp [ents] at hx
  | [_, _], x, hx => by simp [ents] at hx
  | [_, _, _], x, hx => by simp [ents] at hx
theorem keptOf_succ (ks : List Nat) (i : Nat) : keptOf ks (i + 1) = if 0 < ks.getD i 0 then keptOf ks i ++ [⟨(i : Int), ks.getD i 0 == 2⟩] else keptOf ks i := by
  unfold keptOf
  rw [List.range_succ, List.filterMap_append]
  split <;> rename_i h <;> simp only [List.filterMap_cons, List.filterMap_nil, h] <;> simp
theorem addsOf_succ (ks : List Nat) (i : Nat) : addsOf ks (i + 1) = if 0 < ks.getD i 0 then addsOf ks i ++ [⟨(i : Int), ks.getD i 0 &&& 2 != 0, ks.getD i 0 &&& 1 != 0⟩] else addsOf ks i := by
  unfold addsOf
  rw [List.range_succ, List.filterMap_append]
  split <;> rename_i h <;> simp only [List.filterMap_cons, List.filterMap_nil, h] <;> simp
theorem keptOf_len (ks : List Nat) (i : Nat) : (keptOf ks i).length ≤ i := by
  have := List.length_filterMap_le (fun i => if 0 < ks.getD i 0 then some (Rest.mk (i : Int) (ks.getD i 0 == 2)) else none) (List.range i)
  simpa [keptOf] using this
theorem addsOf_len (ks : List Nat) (i : Nat) : (addsOf ks i).length ≤ i := by
  have := List.length_filterMap_le (fun i => if 0 < ks.getD i 0 then some (Add.mk (i : Int) (ks.getD i 0 &&& 2 != 0) (ks.getD i 0 &&& 1 != 0)) else none) (List.range i)
  simpa [addsOf] using this
theorem and_2 {n : Nat} (h : n < 256) : intV .and .u64 (n : Int) 2 = some (.int .u64 ((n &&& 2 : Nat) : Int)) := by
  show some (V.int .u64 (IntKind.u64.wrap ((BitVec.ofInt 64 (n : Int) &&& BitVec.ofInt 64 2).toNat : Int))) = _
  have h1 : (BitVec.ofInt 64 (n : Int)).toNat = n := by simp; omega
  have h2 : (BitVec.ofInt 64 2).toNat = 2 := by decide
  have h3 : n &&& 2 ≤ n := Nat.and_le_left
  rw [BitVec.toNat_and, h1, h2, u64_id (by omega)]
theorem and_1 {n : Nat} (h : n < 256) : intV .and .u64 (n : Int) 1 = some (.int .u64 ((n &&& 1 : Nat) : Int)) := by
  show some (V.int .u64 (IntKind.u64.wrap ((BitVec.ofInt 64 (n : Int) &&& BitVec.ofInt 64 1).toNat : Int))) = _
  have h1 : (BitVec.ofInt 64 (n : Int)).toNat = n := by simp; omega
  have h2 : (BitVec.ofInt 64 1).toNat = 1 := by decide
  have h3 : n &&& 1 ≤ n := Nat.and_le_left
  rw [BitVec.toNat_and, h1, h2, u64_id (by omega)]
theorem cap_ct {base h : H} {q lo : Nat} {o : Opn} {f a k : V} (X : Rws base h q lo (oR o) (oL o f a k)) (hq : q < lo) (hlo : lo = base.next) (hF : FamOk o.fams) {code : Nat} (hcode : code < 256) {s : List UInt8} (hs : s.length < 256) {Q : V → H → Prop}
    (qe : ∀ e, capS o code s = .error e → ∀ h', Ge h h' → h'.WF → Q (badV e) h')
    (qo : ∀ o', capS o code s = .ok o' → ∀ f' a' k' h', Rws base h' q lo (oR o') (oL o' f' a' k') → Keeps h h' (owns q f a k) (owns q f' a' k') → Q fineV h') : Acalls Try.prog 62 [.ptr q 11 0, .int .u64 code, .str s] h Q := by
  refine acalls_to Try.func62 S.open_capability_code S.open_capability_enter (Nat.le_of_ble_eq_true rfl) fun wf => ?_; simp only [S.open_capability]
  have hn := X.ge.1
  simp only [H.next_set] at hn
  have hqn : q < h.next := by omega
  have xq := X.at3 (by omega)
  simp
  refine new_ct ?_
  simp
  obtain ⟨h1, hh1⟩ : ∃ h1, h1 = (h.push (.row [.int .i64 0, .int .u8 0, .int .u8 0])).push (rdr s) := ⟨_, rfl⟩
  have g1 : Ge h h1 := by rw [hh1]; exact ((Ge.refl _).push _).push _
  have w1 : h1.WF := by rw [hh1]; exact (wf.push _).push _
  have n1 : h1.next = h.next + 2 := by rw [hh1]; rfl
  have xr : h1.get h.next = some (.row [.int .i64 0, .int .u8 0, .int .u8 0]) := by rw [hh1]; simp
  have xd : h1.get (h.next + 1) = some (rdr s) := by rw [hh1]; simp
  rw [← hh1]
  have X1 := X.step g1 w1
  have kpg : ∀ {h2 : H}, Ge h h2 → h2.WF → Keeps h h2 (owns q f a k) (owns q f a k) := fun g w => ⟨w, g.1, fun j hj _ => g.2 j hj, fun j hj => .inl hj⟩
  have no : ¬ owns q f a k h.next := not_owns X hqn (Nat.le_refl _)
  have no1 : ¬ owns q f a k (h.next + 1) := not_owns X hqn (by omega)
  have fin : ∀ o' f' a' k' h2, capS o code s = .ok o' → Rws base h2 q lo (oR o') (oL o' f' a' k') → Keeps h h2 (owns q f a k) (owns q f' a' k') → ¬ owns q f' a' k' h.next → h.next < h2.next → Q fineV (h2.set h.next (.row [.int .i64 0, .int .u8 0, .int .u8 0])) := by
    intro o' f' a' k' h2 hc X2 kp no' hn2
    refine qo o' hc f' a' k' _ (X2.turn (by omega) (by omega) (by omega) (oL_ids no') _) ⟨kp.wf.set (by omega) _, by simp; omega, fun j hj hno => ?_, kp.own⟩
    rw [H.get_set, if_neg (by omega), kp.old j hj hno]
  by_cases e1 : code = 1
  · subst e1
    simp
    cases hL : ((s.length : Int) != 4) with
    | true =>
      simp
      refine reset_ct _ ?_
      simp [xr]
      refine qe 0 ?_ _ (g1.set (by omega) _) (w1.set (by omega) _)
      have : ¬ s.length = 4 := by intro e; simp [e] at hL
      simp [capS, this]
    | false =>
      have hl4 : s.length = 4 := by simp at hL; omega
      obtain ⟨a0, b0, c0, d0, rfl⟩ : ∃ a b c d, s = [a, b, c, d] := by
        match s, hl4 with
        | [a, b, c, d], _ => exact ⟨a, b, c, d, rfl⟩
      have hcap : capS o 1 [a0, b0, c0, d0] = .ok (if 0 < fam3 [a0, b0, d0] then { o with fams := withB o.fams (fam3 [a0, b0, d0]) } else o) := rfl
      obtain ⟨fm, hfm⟩ : ∃ fm, fm = fam3 [a0, b0, d0] := ⟨_, rfl⟩
      have fbd : 0 ≤ fm ∧ fm ≤ 5 := by rw [hfm]; exact famB_bd _ _
      rw [← hfm] at hcap
      simp
      refine dreg_of ?_
      simp
      refine scall_of (fun Q q => new_ct q) ?_
      simp
      refine scall_of (fun Q q => famOf_ct (l := [a0, b0, d0]) (by simp) (by simp) q) ?_
      rw [← hfm]
      simp
      obtain ⟨h2, hh2⟩ : ∃ h2, h2 = (h1.push (rdr [a0, b0, d0])).set h1.next (rdr []) := ⟨_, rfl⟩
      have g2 : Ge h1 h2 := by rw [hh2]; exact ((Ge.refl _).push _).set (Nat.le_refl _) _
      have w2 : h2.WF := by rw [hh2]; exact (w1.push _).set (by simp) _
      rw [← hh2]
      have X2 := X1.step g2 w2
      have xr2 : h2.get h.next = some (.row [.int .i64 0, .int .u8 0, .int .u8 0]) := by rw [g2.2 _ (by omega), xr]
      have x2 := X2.at3 (by omega)
      have c2 : cellsAt h2.get q 11 = some (opnC o f a k) := by rw [cellsAt_of x2 (by simp [opnC])]; rfl
      by_cases hf : 0 < fm
      · rw [if_pos hf] at hcap
        obtain ⟨gf, ga, gk, d1, d2, d3⟩ := X2.gl3
        simp only [opnC] at c2
        simp [hf, c2]
        have hl5 := hF.len
        refine contains_ct (gf.sls (by simp) (by simp; omega)) rfl _ ?_
        simp
        cases hc : decide (fm ∈ o.fams) with
        | true =>
          have hcon : o.fams.contains fm = true := by simpa using hc
          rw [withB_has hF hcon] at hcap
          simp [xr2]
          exact fin o f a k h2 hcap X2 (kpg (g1.trans g2) w2) no (by have := g2.1; omega)
        | false =>
          have hcon : o.fams.contains fm = false := by simpa using hc
          obtain ⟨v2, d, ea, v2o, x4, X3, fr3, id3⟩ := X2.addF (bytes := 8) hq hlo 0 (show (oL o f a k)[0]? = some (1, f, o.fams.map fun x => [.int .i64 x]) from rfl) (e := [.int .i64 fm]) rfl rfl (by simp) (by simp) (by simp; omega) (by simp; omega)
          simp only [oL, List.map_cons, List.map_nil, oR, opnC] at x4
          simp [c2]
          rw [ea]
          simp [x4, cells_of_one v2o, solid_of_one v2o]
          obtain ⟨h3, hh3⟩ : ∃ h3, h3 = ((h2.push (.row [.int .i64 fm])).app d).set q (.row (opnC o v2 a k)) := ⟨_, rfl⟩
          simp only [oL, List.set_cons_zero, List.map_cons, List.map_nil, oR] at X3 fr3
          rw [← hh3] at X3 fr3
          simp only [opnC] at hh3
          rw [← hh3]
          have X3' : Rws base h3 q lo (oR o) [(1, v2, (o.fams ++ [fm]).map fun x => [.int .i64 x]), (3, a, o.adds.map addC), (2, k, o.kept.map restC)] := by
            rw [List.map_append]; exact X3
          have n23 : h2.next ≤ h3.next := by
            rw [hh3]; simp only [H.next_set]
            have : (h2.push (.row [.int .i64 fm])).next ≤ ((h2.push (.row [.int .i64 fm])).app d).next := by
              cases d <;> simp
            simp at this; omega
          obtain ⟨j, ev, gj, j1, j2, _⟩ := X3'.sorted hq hlo (List.Perm.refl _) (by simp)
          rw [ev]
          refine sort_ct gj rfl (by simp; omega) fun l' hp hs' => ?_
          obtain ⟨j', ev', _, _, _, X4⟩ := X3'.sorted hq hlo hp (by simp)
          have ejj : j' = j := by rw [ev] at ev'; injection ev' with e1; exact e1.symm
          subst ejj
          have hl' := withB_sort hF (by omega) fbd.2 hcon hp hs'
          subst hl'
          simp
          have gg := g1.trans g2
          have gn := gg.1
          have idf : ∀ i ∈ v2.ids, i ∈ f.ids ∨ h2.next ≤ i := id3
          have hne : ¬ h.next = j' := by
            intro e
            rcases idf j' (by rw [ev]; simp [V.ids]) with hh | hh
            · have := (X.gl3.1.lo j' hh).2; omega
            · have := g2.1; omega
          have no' : ¬ owns q v2 a k h.next := by
            rintro (e | h | h | h)
            · omega
            · rcases idf _ h with h | h
              · exact no (.inr (.inl h))
              · have := g2.1; omega
            · exact no (.inr (.inr (.inl h)))
            · exact no (.inr (.inr (.inr h)))
          have kp4 : Keeps h (h3.set j' (.grow 1 ((withB o.fams fm).map (.int .i64)))) (owns q f a k) (owns q v2 a k) := by
            refine ⟨X4.wf, by simp; omega, fun i hi hno => ?_, fun i hi => ?_⟩
            · have hij : i ≠ j' := by
                intro e; subst e
                rcases idf i (by rw [ev]; simp [V.ids]) with h | h
                · exact hno (.inr (.inl h))
                · omega
              rw [H.get_set, if_neg hij, fr3 i (by omega) (fun e => hno (.inl e)) (fun e => hno (.inr (.inl e))), gg.2 i hi]
            · rcases hi with rfl | h | h | h
              · exact .inl (.inl rfl)
              · rcases idf i h with h | h
                · exact .inl (.inr (.inl h))
                · exact .inr (by omega)
              · exact .inl (.inr (.inr (.inl h)))
              · exact .inl (.inr (.inr (.inr h)))
          have xr3 : h3.get h.next = some (.row [.int .i64 0, .int .u8 0, .int .u8 0]) := by
            rw [fr3 _ (by have := g2.1; omega) (by omega) (fun hh => no (.inr (.inl hh))), xr2]
          simp [hne, xr3]
          exact fin _ _ _ _ _ hcap X4 kp4 no' (by simp; have := g2.1; omega)
      · rw [if_neg hf] at hcap
        simp [hf, xr2]
        exact fin o f a k h2 hcap X2 (kpg (g1.trans g2) w2) no (by have := g2.1; omega)
  by_cases e2 : code = 65
  · subst e2
    simp
    cases hL : ((s.length : Int) != 4) with
    | true =>
      simp
      refine reset_ct _ ?_
      simp [xr]
      refine qe 0 ?_ _ (g1.set (by omega) _) (w1.set (by omega) _)
      have : ¬ s.length = 4 := by intro e; simp [e] at hL
      simp [capS, this]
    | false =>
      have hl4 : s.length = 4 := by simp at hL; omega
      simp
      refine number_yes xd 4 rfl (by omega) (by omega) ?_
      have hv4 := val_lt4 (l := s.take 4) (by simp; omega)
      rw [List.take_of_length_le (by omega)] at hv4 ⊢
      obtain ⟨h2, hh2⟩ : ∃ h2, h2 = h1.set (h.next + 1) (rdr (s.drop 4)) := ⟨_, rfl⟩
      have g2 : Ge h h2 := by rw [hh2]; exact g1.set (by omega) _
      have w2 : h2.WF := by rw [hh2]; exact w1.set (by omega) _
      have X2 : Rws base h2 q lo (oR o) (oL o f a k) := by
        rw [hh2]; exact X1.turn (by omega) (by omega) (by omega) (oL_ids (not_owns X hqn (by omega))) _
      have x2 := X2.at3 (by omega)
      have xr2 : h2.get h.next = some (.row [.int .i64 0, .int .u8 0, .int .u8 0]) := by rw [hh2, H.get_set, if_neg (by omega), xr]
      rw [← hh2]
      simp
      by_cases hv : val s = 0
      · simp [hv]
        refine reset_ct _ ?_
        simp [xr2]
        exact qe 2 (by simp [capS, hl4, hv]) _ (g2.set (by omega) _) (w2.set (by rw [hh2]; simp; omega) _)
      · have hcap : capS o 65 s = .ok { o with four := true, asn := (val s : Nat) } := by simp [capS, hl4, hv]
        have hv0 : ((val s : Int) == 0) = false := by simp; omega
        have w4 := u32_id hv4
        simp only [opnC] at x2
        simp [hv0, x2, w4]
        have X3 := X2.put (r' := oR { o with four := true, asn := (val s : Nat) }) (ls' := oL { o with four := true, asn := (val s : Nat) } f a k) hq hlo X2.gl X2.dj
        have kp3 : Keeps h (h2.set q (.row (opnC { o with four := true, asn := (val s : Nat) } f a k))) (owns q f a k) (owns q f a k) := by
          refine ⟨X3.wf, by simp; exact g2.1, fun j hj hno => ?_, fun j hj => .inl hj⟩
          rw [H.get_set, if_neg (fun e => hno (.inl e)), g2.2 j hj]
        have hne : ¬ h.next = q := by omega
        simp [hne, xr2]
        exact fin _ _ _ _ _ hcap X3 kp3 no (by rw [hh2]; simp; omega)
  have rem4 : ∀ n : Nat, intV .rem .i64 (n : Int) 4 = some (.int .i64 ((n % 4 : Nat) : Int)) := fun n => by
    show (if (4 : Int) = 0 then none else some (V.int .i64 ((n : Int).tmod 4))) = _
    rw [if_neg (by decide), Int.tmod_eq_emod_of_nonneg (by omega)]; rfl
  have r5 : intV .rem .i64 5 3 = some (.int .i64 2) := rfl
  have r0 : intV .rem .i64 0 3 = some (.int .i64 0) := rfl
  have i5 : IntKind.i64.wrap 5 = 5 := by decide
  have u5 : IntKind.u64.wrap 5 = 5 := by decide
  have i0 : IntKind.i64.wrap 0 = 0 := by decide
  have u0 : IntKind.u64.wrap 0 = 0 := by decide
  by_cases e3 : code = 64
  · subst e3
    simp
    cases hL : decide ((s.length : Int) < 2) with
    | true =>
      simp
      refine reset_ct _ ?_
      simp [xr]
      refine qe 0 ?_ _ (g1.set (by omega) _) (w1.set (by omega) _)
      have : s.length < 2 := by simp at hL; omega
      simp [capS, this]
    | false =>
      have hl2 : ¬ s.length < 2 := by simp at hL; omega
      simp [rem4, r5, i5, u5]
      cases hM : ((s.length : Int) % 4 != 2) with
      | true =>
        simp
        refine reset_ct _ ?_
        simp [xr]
        refine qe 0 ?_ _ (g1.set (by omega) _) (w1.set (by omega) _)
        have : ¬ s.length % 4 = 2 := by simp at hM; omega
        simp [capS, this]
      | false =>
        have hm2 : s.length % 4 = 2 := by simp at hM; omega
        have hcap : capS o 64 s = .ok { o with hasgr := true, again := decide (32768 ≤ val (s.take 2)), time := ((val (s.take 2) % 4096 : Nat) : Int), kept := keptOf (arrB w64 (ents (s.drop 2))) 6 } := by simp [capS, hl2, hm2]
        simp
        refine number_yes xd 2 rfl (by omega) (by omega) ?_
        obtain ⟨nv, hnv⟩ : ∃ n, n = val (s.take 2) := ⟨_, rfl⟩
        have hn2 : nv < 65536 := by rw [hnv]; exact val_lt2 (by simp; omega)
        rw [← hnv] at hcap ⊢
        simp
        obtain ⟨h3, hh3⟩ : ∃ h3, h3 = (h1.set (h.next + 1) (rdr (s.drop 2))).push (.row [.int .i64 0, .int .i64 0, .int .i64 0, .int .i64 0, .int .i64 0, .int .i64 0]) := ⟨_, rfl⟩
        have x31 : h3.get (h.next + 1) = some (rdr (s.drop 2)) := by rw [hh3]; simp [n1]
        have x32 : h3.get h1.next = some (.row [.int .i64 0, .int .i64 0, .int .i64 0, .int .i64 0, .int .i64 0, .int .i64 0]) := by rw [hh3]; simp
        rw [← hh3]
        have zs : ([0, 0, 0, 0, 0, 0] : List Nat).map (fun v => V.int .i64 (v : Nat)) = [.int .i64 0, .int .i64 0, .int .i64 0, .int .i64 0, .int .i64 0, .int .i64 0] := rfl
        refine entries_ct x31 x32 (by omega) rfl (fun cs f b => by simp [step64]) (tells64 _) (by simp; omega) ?_
        rw [← zs, fold64]
        have har : (ents (s.drop 2)).foldl (fun ks x => match w64 x.2 with | some v => ks.set x.1.toNat v | none => ks) [0, 0, 0, 0, 0, 0] = arrB w64 (ents (s.drop 2)) := rfl
        rw [har]
        obtain ⟨ks, hks⟩ : ∃ ks, ks = arrB w64 (ents (s.drop 2)) := ⟨_, rfl⟩
        have ksl : ks.length = 6 := by rw [hks]; exact arr_len _ _
        rw [← hks] at hcap ⊢
        obtain ⟨h4, hh4⟩ : ∃ h4, h4 = (h3.set (h.next + 1) (rdr [])).set h1.next (.row (ks.map fun v => .int .i64 (v : Nat))) := ⟨_, rfl⟩
        rw [← hh4]
        have g4 : Ge h h4 := by rw [hh4, hh3]; exact (((g1.set (by omega) _).push _).set (by omega) _).set (by omega) _
        have n4 : h4.next = h.next + 3 := by rw [hh4, hh3]; simp; omega
        have w4 : h4.WF := by
          rw [hh4, hh3]
          exact (((w1.set (by omega) _).push _).set (by simp; omega) _).set (by simp) _
        have X4 : Rws base h4 q lo (oR o) (oL o f a k) := X.step g4 w4
        have x4 := X4.at3 (by omega)
        have xr4 : h4.get h.next = some (.row [.int .i64 0, .int .u8 0, .int .u8 0]) := by
          rw [hh4, hh3]; simp [xr, show ¬ h.next = h1.next by omega]
        have xa4 : h4.get h1.next = some (.row (ks.map fun v => .int .i64 (v : Nat))) := by rw [hh4]; simp
        have hq1 : ¬ h1.next = q := by omega
        have tm : IntKind.i64.wrap ((nv % 4096 : Nat) : Int) = ((nv % 4096 : Nat) : Int) := wrap_nat (by omega)
        simp only [opnC] at x4
        have ca4 : cellsAt h4.get h1.next 6 = some (ks.map fun v => .int .i64 (v : Nat)) := by rw [cellsAt_of xa4 (by simp [ksl])]; rfl
        have tk6 : (ks.map fun v => V.int .i64 (v : Nat)).take 6 = ks.map fun v => V.int .i64 (v : Nat) := List.take_of_length_le (by simp [ksl])
        have tm2 : IntKind.i64.wrap ((nv : Int) % 4096) = (nv : Int) % 4096 := wrap_i64_id (by omega) (by omega)
        have hag : ((if 32768 ≤ nv then (32768 : Int) else 0) != 0) = decide (32768 ≤ nv) := by split <;> simp_all
        obtain ⟨ksc, hksc⟩ : ∃ l : List V, l = ks.map fun v => .int .i64 (v : Nat) := ⟨_, rfl⟩
        have kcl : ksc.length = 6 := by rw [hksc]; simp [ksl]
        rw [← hksc] at ca4 tk6
        simp [and_15 hn2, and_12 hn2, x4, ca4, hq1, kcl, tk6, tm2, hag]
        obtain ⟨o2, ho2⟩ : ∃ o2 : Opn, o2 = { o with hasgr := true, again := decide (32768 ≤ nv), time := ((nv % 4096 : Nat) : Int), kept := [] } := ⟨_, rfl⟩
        obtain ⟨gf4, ga4, gk4, d1, d2, d3⟩ := X4.gl3
        obtain ⟨h5, hh5⟩ : ∃ h5, h5 = h4.set q (.row (opnC o2 f a .nilsl)) := ⟨_, rfl⟩
        have X5 : Rws base h5 q lo (oR o2) (oL o2 f a .nilsl) := by
          rw [hh5]
          refine X4.put (r' := oR o2) (ls' := oL o2 f a .nilsl) hq hlo (fun x hx => ?_) ?_
          · simp only [oL, List.mem_cons, List.not_mem_nil, or_false] at hx
            rcases hx with rfl | rfl | rfl
            · rw [ho2]; exact gf4
            · rw [ho2]; exact ga4
            · rw [ho2]; exact Gl.nil _ _ _
          · simp only [oL, List.pairwise_cons, List.mem_cons, List.not_mem_nil, or_false, forall_eq_or_imp, forall_eq]
            exact ⟨⟨d1, by simp [V.ids]⟩, by simp [V.ids], fun _ h => absurd h (by simp), List.Pairwise.nil⟩
        have hh5' : h5 = h4.set q (.row [.int .u32 o.asn, .int .i64 o.hold, .int .u32 o.id, f, .bool o.four, .bool o.refresh, a, .bool true, .bool (decide (32768 ≤ nv)), .int .i64 ((nv : Int) % 4096), .nilsl]) := by
          rw [hh5, ho2]; simp [opnC]
        have n5 : h5.next = h.next + 3 := by rw [hh5]; simp [n4]
        have w5 : h5.WF := X5.wf
        have g45 : ∀ j, j ≠ q → h5.get j = h4.get j := fun j hj => by rw [hh5, H.get_set, if_neg hj]
        have x5 : h5.get q = some (.row (opnC o2 f a .nilsl)) := by rw [hh5]; simp
        have fo := gf4.one
        have ao := ga4.one
        rw [← hh5']
        have rk : ∃ r : List V → List V, ∀ kv, r [kv] = opnC o2 f a kv := ⟨fun l => opnC o2 f a (l.headD .nilsl), fun _ => rfl⟩
        obtain ⟨r, hr⟩ := rk
        have hself : h5.set q (.row (opnC o2 f a .nilsl)) = h5 := H.ext' rfl fun j => by
          rw [H.get_set]; split
          · rename_i e; rw [e, x5]
          · rfl
        refine loop_up (fun i t h' => ∃ kv : V, (t 0 = .ptr q 11 0 ∧ t 6 = .ptr h.next 3 0 ∧ t 119 = .agg ksc ∧ t 120 = .int .i64 i) ∧ Rws h5 h' q h5.next r [(2, kv, (keptOf ks i).map restC)]) 6 ⟨.nilsl, by simp, ⟨by simp [hr, hself], w5, fun x hx => ?_, by simp⟩⟩ ?_
        · simp only [keptOf, List.range_zero, List.filterMap_nil, List.map_nil, List.mem_cons, List.not_mem_nil, or_false] at hx
          subst hx; exact Gl.nil _ _ _
        rintro i t h6 hi ⟨kv, ⟨t0, t6, t119, t120⟩, Y⟩ K hK
        by_cases hlt : i < 6
        · have hlt' : (i : Int) < 6 := by omega
          have hw := wrap_succ hlt (by omega)
          have hki : ksc[i]? = some (.int .i64 (ks.getD i 0 : Nat)) := by
            rw [hksc, List.getElem?_map, List.getD_eq_getElem?_getD, List.getElem?_eq_getElem (by omega)]; rfl
          obtain ⟨kn, hkn⟩ : ∃ kn : Nat, kn = ks.getD i 0 := ⟨_, rfl⟩
          rw [← hkn] at hki
          have hke : ((kn : Int) == 2) = (kn == 2) := by
            cases h : (kn == 2) <;> simp_all <;> omega
          have xk := Y.ge.get_set (by omega : q < h5.next)
          simp only [List.map_cons, List.map_nil, hr] at xk
          have ck : cellsAt h6.get q 11 = some (opnC o2 f a kv) := by rw [cellsAt_of xk (by simp [opnC])]; rfl
          have lk := keptOf_len ks i
          simp [t119, t120, hlt', hki]
          by_cases hk0 : 0 < kn
          · obtain ⟨v2, d, ea, v2o, y4, Y2, _, _⟩ := Y.addF (bytes := 16) (by omega) rfl 0 (show [(2, kv, (keptOf ks i).map restC)][0]? = some (2, kv, (keptOf ks i).map restC) from rfl) (e := restC ⟨(i : Int), kn == 2⟩) rfl rfl (by simp) (fun x hx => by obtain ⟨y, _, rfl⟩ := List.mem_map.1 hx; rfl) (by rw [List.length_map]; omega) (by rw [List.length_map]; omega)
            simp only [List.map_cons, List.map_nil, hr, opnC, restC] at y4
            simp only [opnC] at ck
            simp only [restC] at ea
            have hk0' : (0 : Int) < kn := by omega
            simp [hk0, t0, ck, hke]
            rw [ea]
            simp [y4, cells_of_one v2o, solid_of_one v2o, t120, hw]
            refine hK _ _ hlt ⟨v2, by simp [t0, t6, t119], ?_⟩
            simp only [List.set_cons_zero, List.map_cons, List.map_nil, hr, opnC, restC] at Y2
            rw [keptOf_succ, ← hkn, if_pos hk0, List.map_append]
            simpa using Y2
          · have hk0' : ¬ (0 : Int) < kn := by omega
            simp [hk0, t120, hw]
            refine hK _ _ hlt ⟨kv, by simp [t0, t6, t119], ?_⟩
            rw [keptOf_succ, ← hkn, if_neg hk0]
            exact Y
        · have h6i : i = 6 := by omega
          subst h6i
          have xk := Y.ge.get_set (by omega : q < h5.next)
          simp only [List.map_cons, List.map_nil, hr] at xk
          have n6 := Y.ge.1
          simp only [H.next_set] at n6
          have gkv : Gl h6 h5.next 2 kv ((keptOf ks 6).map restC) := Y.gl (2, kv, _) (by simp)
          obtain ⟨gf5, ga5, _, _, _, _⟩ := X5.gl3
          have k56 : ∀ j, j < h5.next → j ≠ q → h6.get j = h5.get j := fun j hj hne => Y.ge.get_ne hj hne
          obtain ⟨o3, ho3⟩ : ∃ o3 : Opn, o3 = { o with hasgr := true, again := decide (32768 ≤ nv), time := ((nv % 4096 : Nat) : Int), kept := keptOf ks 6 } := ⟨_, rfl⟩
          have eo : ∀ kv, opnC o3 f a kv = opnC o2 f a kv := fun kv => by rw [ho3, ho2]; rfl
          have X6 : Rws base h6 q lo (oR o3) (oL o3 f a kv) := by
            refine Rws.mk3 ⟨by simp; omega, fun j hj => ?_⟩ Y.wf ?_ ?_ ?_ d1 (fun j h1 h2 => ?_) (fun j h1 h2 => ?_)
            · simp only [H.next_set] at hj
              rw [H.get_set]
              split
              · rename_i e; rw [e, xk, eo]
              · rename_i e; rw [k56 j (by omega) e, X5.ge.get_ne hj e]
            · rw [ho3]; rw [ho2] at gf5
              exact gf5.keep n6 (fun j hj => k56 j (gf5.lo j hj).2 (by have := (gf5.lo j hj).1; omega))
            · rw [ho3]; rw [ho2] at ga5
              exact ga5.keep n6 (fun j hj => k56 j (ga5.lo j hj).2 (by have := (ga5.lo j hj).1; omega))
            · rw [ho3]; exact gkv.lower (by omega)
            · have := (gf5.lo j h1).2; have := (gkv.lo j h2).1; omega
            · have := (ga5.lo j h1).2; have := (gkv.lo j h2).1; omega
          have own : ∀ j, owns q f a kv j → owns q f a k j ∨ h5.next ≤ j := fun j hj => by
            rcases hj with h | h | h | h
            · exact .inl (.inl h)
            · exact .inl (.inr (.inl h))
            · exact .inl (.inr (.inr (.inl h)))
            · exact .inr (gkv.lo j h).1
          rw [← ho3] at hcap
          have xr6 : h6.get h.next = some (.row [.int .i64 0, .int .u8 0, .int .u8 0]) := by rw [k56 _ (by omega) (by omega), g45 _ (by omega), xr4]
          simp [t120, t6, xr6]
          refine fin _ _ _ _ _ hcap X6 ⟨Y.wf, by omega, fun j hj hno => ?_, fun j hj => (own j hj).imp id (fun h => by omega)⟩ (fun hh => (own _ hh).elim no (fun h => by omega)) (by omega)
          rw [k56 j (by omega) (fun e => hno (.inl e)), g45 j (fun e => hno (.inl e)), g4.2 j hj]
  by_cases e4 : code = 69
  · subst e4
    simp [rem4, r0, i0, u0]
    cases hM : ((s.length : Int) % 4 != 0) with
    | true =>
      simp
      refine reset_ct _ ?_
      simp [xr]
      refine qe 0 ?_ _ (g1.set (by omega) _) (w1.set (by omega) _)
      have : ¬ s.length % 4 = 0 := by simp at hM; omega
      simp [capS, this]
    | false =>
      have hm0 : s.length % 4 = 0 := by simp at hM; omega
      have hcap : capS o 69 s = .ok { o with adds := addsOf (arrB w69 (ents s)) 6 } := by simp [capS, hm0]
      simp
      obtain ⟨h3, hh3⟩ : ∃ h3, h3 = h1.push (.row [.int .u64 0, .int .u64 0, .int .u64 0, .int .u64 0, .int .u64 0, .int .u64 0]) := ⟨_, rfl⟩
      have x31 : h3.get (h.next + 1) = some (rdr s) := by rw [hh3]; simp [n1, xd]
      have x32 : h3.get h1.next = some (.row [.int .u64 0, .int .u64 0, .int .u64 0, .int .u64 0, .int .u64 0, .int .u64 0]) := by rw [hh3]; simp
      rw [← hh3]
      have zs : ([0, 0, 0, 0, 0, 0] : List Nat).map (fun v => V.int .u64 (v : Nat)) = [.int .u64 0, .int .u64 0, .int .u64 0, .int .u64 0, .int .u64 0, .int .u64 0] := rfl
      refine entries_ct x31 x32 (by omega) rfl (fun cs f b => by unfold step69; split <;> simp) (tells69 _) hm0 ?_
      rw [← zs, fold69]
      have har : (ents s).foldl (fun ks x => match w69 x.2 with | some v => ks.set x.1.toNat v | none => ks) [0, 0, 0, 0, 0, 0] = arrB w69 (ents s) := rfl
      rw [har]
      obtain ⟨ks, hks⟩ : ∃ ks, ks = arrB w69 (ents s) := ⟨_, rfl⟩
      have ksl : ks.length = 6 := by rw [hks]; exact arr_len _ _
      rw [← hks] at hcap ⊢
      obtain ⟨h4, hh4⟩ : ∃ h4, h4 = (h3.set (h.next + 1) (rdr [])).set h1.next (.row (ks.map fun v => .int .u64 (v : Nat))) := ⟨_, rfl⟩
      rw [← hh4]
      have g4 : Ge h h4 := by rw [hh4, hh3]; exact ((g1.push _).set (by omega) _).set (by omega) _
      have n4 : h4.next = h.next + 3 := by rw [hh4, hh3]; simp; omega
      have w4 : h4.WF := by
        rw [hh4, hh3]
        exact ((w1.push _).set (by simp; omega) _).set (by simp) _
      have X4 : Rws base h4 q lo (oR o) (oL o f a k) := X.step g4 w4
      have x4 := X4.at3 (by omega)
      have xr4 : h4.get h.next = some (.row [.int .i64 0, .int .u8 0, .int .u8 0]) := by
        rw [hh4, hh3]; simp [xr, show ¬ h.next = h1.next by omega]
      have xa4 : h4.get h1.next = some (.row (ks.map fun v => .int .u64 (v : Nat))) := by rw [hh4]; simp
      have hq1 : ¬ h1.next = q := by omega
      simp only [opnC] at x4
      have ca4 : cellsAt h4.get h1.next 6 = some (ks.map fun v => .int .u64 (v : Nat)) := by rw [cellsAt_of xa4 (by simp [ksl])]; rfl
      have tk6 : (ks.map fun v => V.int .u64 (v : Nat)).take 6 = ks.map fun v => V.int .u64 (v : Nat) := List.take_of_length_le (by simp [ksl])
      have kle : ∀ i, ks.getD i 0 ≤ 3 := fun i => by
        rw [List.getD_eq_getElem?_getD]
        rcases Nat.lt_or_ge i ks.length with h | h
        · rw [List.getElem?_eq_getElem h]
          have := arr_le w69 3 (fun b v hv _ => by unfold w69 at hv; split at hv <;> simp at hv; omega) (ents s) [0, 0, 0, 0, 0, 0] (fun x hx => (ents_lt s x hx).1) (by simp) ks[i] (by rw [har, ← hks]; exact List.getElem_mem h)
          simpa using this
        · rw [List.getElem?_eq_none h]; simp
      obtain ⟨ksc, hksc⟩ : ∃ l : List V, l = ks.map fun v => .int .u64 (v : Nat) := ⟨_, rfl⟩
      have kcl : ksc.length = 6 := by rw [hksc]; simp [ksl]
      rw [← hksc] at ca4 tk6
      simp [x4, ca4, hq1, kcl, tk6]
      obtain ⟨o2, ho2⟩ : ∃ o2 : Opn, o2 = { o with adds := [] } := ⟨_, rfl⟩
      obtain ⟨gf4, ga4, gk4, d1, d2, d3⟩ := X4.gl3
      obtain ⟨h5, hh5⟩ : ∃ h5, h5 = h4.set q (.row (opnC o2 f .nilsl k)) := ⟨_, rfl⟩
      have X5 : Rws base h5 q lo (oR o2) (oL o2 f .nilsl k) := by
        rw [hh5]
        refine X4.put (r' := oR o2) (ls' := oL o2 f .nilsl k) hq hlo (fun x hx => ?_) ?_
        · simp only [oL, List.mem_cons, List.not_mem_nil, or_false] at hx
          rcases hx with rfl | rfl | rfl
          · rw [ho2]; exact gf4
          · rw [ho2]; exact Gl.nil _ _ _
          · rw [ho2]; exact gk4
        · simp only [oL, List.pairwise_cons, List.mem_cons, List.not_mem_nil, or_false, forall_eq_or_imp, forall_eq]
          exact ⟨⟨by simp [V.ids], d2⟩, by simp [V.ids], fun _ h => absurd h (by simp), List.Pairwise.nil⟩
      have hh5' : h5 = h4.set q (.row [.int .u32 o.asn, .int .i64 o.hold, .int .u32 o.id, f, .bool o.four, .bool o.refresh, .nilsl, .bool o.hasgr, .bool o.again, .int .i64 o.time, k]) := by
        rw [hh5, ho2]; simp [opnC]
      have n5 : h5.next = h.next + 3 := by rw [hh5]; simp [n4]
      have w5 : h5.WF := X5.wf
      have g45 : ∀ j, j ≠ q → h5.get j = h4.get j := fun j hj => by rw [hh5, H.get_set, if_neg hj]
      have x5 : h5.get q = some (.row (opnC o2 f .nilsl k)) := by rw [hh5]; simp
      have fo := gf4.one
      have ao := gk4.one
      rw [← hh5']
      have rk : ∃ r : List V → List V, ∀ kv, r [kv] = opnC o2 f kv k := ⟨fun l => opnC o2 f (l.headD .nilsl) k, fun _ => rfl⟩
      obtain ⟨r, hr⟩ := rk
      have hself : h5.set q (.row (opnC o2 f .nilsl k)) = h5 := H.ext' rfl fun j => by
        rw [H.get_set]; split
        · rename_i e; rw [e, x5]
        · rfl
      refine loop_up (fun i t h' => ∃ kv : V, (t 0 = .ptr q 11 0 ∧ t 6 = .ptr h.next 3 0 ∧ t 166 = .agg ksc ∧ t 167 = .int .i64 i) ∧ Rws h5 h' q h5.next r [(3, kv, (addsOf ks i).map addC)]) 6 ⟨.nilsl, by simp, ⟨by simp [hr, hself], w5, fun x hx => ?_, by simp⟩⟩ ?_
      · simp only [addsOf, List.range_zero, List.filterMap_nil, List.map_nil, List.mem_cons, List.not_mem_nil, or_false] at hx
        subst hx; exact Gl.nil _ _ _
      rintro i t h6 hi ⟨kv, ⟨t0, t6, t166, t167⟩, Y⟩ K hK
      by_cases hlt : i < 6
      · have hlt' : (i : Int) < 6 := by omega
        have hw := wrap_succ hlt (by omega)
        have hki : ksc[i]? = some (.int .u64 (ks.getD i 0 : Nat)) := by
          rw [hksc, List.getElem?_map, List.getD_eq_getElem?_getD, List.getElem?_eq_getElem (by omega)]; rfl
        obtain ⟨kn, hkn⟩ : ∃ kn : Nat, kn = ks.getD i 0 := ⟨_, rfl⟩
        rw [← hkn] at hki
        have hk3 : kn ≤ 3 := by rw [hkn]; exact kle i
        have kcs : kn = 0 ∨ kn = 1 ∨ kn = 2 ∨ kn = 3 := by omega
        obtain ⟨b2, hb2⟩ : ∃ b, b = (kn &&& 2 != 0) := ⟨_, rfl⟩
        obtain ⟨b1, hb1⟩ : ∃ b, b = (kn &&& 1 != 0) := ⟨_, rfl⟩
        have hk2 : (((kn &&& 2 : Nat) : Int) != 0) = b2 := by rw [hb2]; rcases kcs with e | e | e | e <;> rw [e] <;> rfl
        have hk1 : ((kn : Int) % 2 != 0) = b1 := by rw [hb1]; rcases kcs with e | e | e | e <;> rw [e] <;> rfl
        have xk := Y.ge.get_set (by omega : q < h5.next)
        simp only [List.map_cons, List.map_nil, hr] at xk
        have ck : cellsAt h6.get q 11 = some (opnC o2 f kv k) := by rw [cellsAt_of xk (by simp [opnC])]; rfl
        have lk := addsOf_len ks i
        simp [t166, t167, hlt', hki]
        by_cases hk0 : 0 < kn
        · obtain ⟨v2, d, ea, v2o, y4, Y2, _, _⟩ := Y.addF (bytes := 16) (by omega) rfl 0 (show [(3, kv, (addsOf ks i).map addC)][0]? = some (3, kv, (addsOf ks i).map addC) from rfl) (e := addC ⟨(i : Int), b2, b1⟩) rfl rfl (by simp) (fun x hx => by obtain ⟨y, _, rfl⟩ := List.mem_map.1 hx; rfl) (by rw [List.length_map]; omega) (by rw [List.length_map]; omega)
          simp only [List.map_cons, List.map_nil, hr, opnC, addC] at y4
          simp only [opnC] at ck
          simp only [addC] at ea
          have hk0' : (0 : Int) < kn := by omega
          simp [hk0, t0, ck, and_2 (show kn < 256 by omega), and_1 (show kn < 256 by omega)]
          simp only [hk2, hk1]
          rw [ea]
          simp [y4, cells_of_one v2o, solid_of_one v2o, t167, hw]
          refine hK _ _ hlt ⟨v2, by simp [t0, t6, t166], ?_⟩
          simp only [List.set_cons_zero, List.map_cons, List.map_nil, hr, opnC, addC] at Y2
          rw [addsOf_succ, ← hkn, ← hb2, ← hb1, if_pos hk0, List.map_append]
          simpa using Y2
        · have hk0' : ¬ (0 : Int) < kn := by omega
          simp [hk0, t167, hw]
          refine hK _ _ hlt ⟨kv, by simp [t0, t6, t166], ?_⟩
          rw [addsOf_succ, ← hkn, if_neg hk0]
          exact Y
      · have h6i : i = 6 := by omega
        subst h6i
        have xk := Y.ge.get_set (by omega : q < h5.next)
        simp only [List.map_cons, List.map_nil, hr] at xk
        have n6 := Y.ge.1
        simp only [H.next_set] at n6
        have gkv : Gl h6 h5.next 3 kv ((addsOf ks 6).map addC) := Y.gl (3, kv, _) (by simp)
        obtain ⟨gf5, _, ga5, _, _, _⟩ := X5.gl3
        have k56 : ∀ j, j < h5.next → j ≠ q → h6.get j = h5.get j := fun j hj hne => Y.ge.get_ne hj hne
        obtain ⟨o3, ho3⟩ : ∃ o3 : Opn, o3 = { o with adds := addsOf ks 6 } := ⟨_, rfl⟩
        have eo : ∀ kv, opnC o3 f kv k = opnC o2 f kv k := fun kv => by rw [ho3, ho2]; rfl
        have X6 : Rws base h6 q lo (oR o3) (oL o3 f kv k) := by
          refine Rws.mk3 ⟨by simp; omega, fun j hj => ?_⟩ Y.wf ?_ ?_ ?_ (fun j h1 h2 => ?_) d2 (fun j h1 h2 => ?_)
          · simp only [H.next_set] at hj
            rw [H.get_set]
            split
            · rename_i e; rw [e, xk, eo]
            · rename_i e; rw [k56 j (by omega) e, X5.ge.get_ne hj e]
          · rw [ho3]; rw [ho2] at gf5
            exact gf5.keep n6 (fun j hj => k56 j (gf5.lo j hj).2 (by have := (gf5.lo j hj).1; omega))
          · rw [ho3]; exact gkv.lower (by omega)
          · rw [ho3]; rw [ho2] at ga5
            exact ga5.keep n6 (fun j hj => k56 j (ga5.lo j hj).2 (by have := (ga5.lo j hj).1; omega))
          · have := (gf5.lo j h1).2; have := (gkv.lo j h2).1; omega
          · have := (ga5.lo j h2).2; have := (gkv.lo j h1).1; omega
        have own : ∀ j, owns q f kv k j → owns q f a k j ∨ h5.next ≤ j := fun j hj => by
          rcases hj with h | h | h | h
          · exact .inl (.inl h)
          · exact .inl (.inr (.inl h))
          · exact .inr (gkv.lo j h).1
          · exact .inl (.inr (.inr (.inr h)))
        rw [← ho3] at hcap
        have xr6 : h6.get h.next = some (.row [.int .i64 0, .int .u8 0, .int .u8 0]) := by rw [k56 _ (by omega) (by omega), g45 _ (by omega), xr4]
        simp [t167, t6, xr6]
        refine fin _ _ _ _ _ hcap X6 ⟨Y.wf, by omega, fun j hj hno => ?_, fun j hj => (own j hj).imp id (fun h => by omega)⟩ (fun hh => (own _ hh).elim no (fun h => by omega)) (by omega)
        rw [k56 j (by omega) (fun e => hno (.inl e)), g45 j (fun e => hno (.inl e)), g4.2 j hj]
  by_cases e5 : code = 2
  · subst e5
    have hcap : capS o 2 s = .ok { o with refresh := true } := by simp [capS]
    have x1 := X1.at3 (by omega)
    have X3 := X1.put (r' := oR { o with refresh := true }) (ls' := oL { o with refresh := true } f a k) hq hlo X1.gl X1.dj
    have hne : ¬ h.next = q := by omega
    simp only [opnC] at x1
    simp [x1, hne, xr]
    refine fin _ _ _ _ _ hcap X3 ⟨X3.wf, by simp; exact g1.1, fun j hj hno => ?_, fun j hj => .inl hj⟩ no (by simp; omega)
    rw [H.get_set, if_neg (fun e => hno (.inl e)), g1.2 j hj]
  have hcap : capS o code s = .ok o := by simp [capS, e1, e2, e3, e4, e5]
  have c1 : ((code : Int) == 1) = false := by simp; omega
  have c2 : ((code : Int) == 65) = false := by simp; omega
  have c3 : ((code : Int) == 64) = false := by simp; omega
  have c4 : ((code : Int) == 69) = false := by simp; omega
  have c5 : ((code : Int) == 2) = false := by simp; omega
  simp [c1, c2, c3, c4, c5, xr]
  exact fin o f a k h1 hcap X1 (kpg g1 w1) no (by omega)
end Go.Am
