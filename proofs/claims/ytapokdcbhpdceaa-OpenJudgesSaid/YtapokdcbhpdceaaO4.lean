/-
  Contracts: pairs, capabilities, laid bytes.
-/
import Derived.Test.YtapokdcbhpdceaaO2
import Derived.Test.YtapokdcbhpdceaaO3
namespace Go.Am
open Go.Proofs

def afi : Int → Nat × Nat
  | 1 => (1, 1) | 2 => (2, 1) | 3 => (1, 4) | 4 => (1, 128) | _ => (2, 128)
def fam5 (f : Int) : Prop := f = 1 ∨ f = 2 ∨ f = 3 ∨ f = 4 ∨ f = 5
theorem afi_lt (f : Int) : (afi f).1 < 65536 ∧ (afi f).2 < 256 := by
  unfold afi; split <;> decide

def rowsC : List V := [.int .u16 0, .int .u8 0, .int .i64 0, .int .i64 0, .int .u16 1, .int .u8 1, .int .i64 0, .int .i64 4, .int .u16 2, .int .u8 1, .int .i64 0, .int .i64 16, .int .u16 1, .int .u8 4, .int .i64 0, .int .i64 4, .int .u16 1, .int .u8 128, .int .i64 8, .int .i64 4, .int .u16 2, .int .u8 128, .int .i64 8, .int .i64 16]
theorem rows_ct {h : H} : Pure Try.prog 100 [] h (.agg rowsC) := by
  refine pure_to Try.func100 S.reach_rows_code S.reach_rows_enter rfl (Nat.le_of_ble_eq_true rfl) fun wf => ?_; simp only [S.reach_rows]
  simp [rowsC]
def rowC : Int → List V
  | 1 => [.int .u16 1, .int .u8 1, .int .i64 0, .int .i64 4] | 2 => [.int .u16 2, .int .u8 1, .int .i64 0, .int .i64 16] | 3 => [.int .u16 1, .int .u8 4, .int .i64 0, .int .i64 4]
  | 4 => [.int .u16 1, .int .u8 128, .int .i64 8, .int .i64 4] | _ => [.int .u16 2, .int .u8 128, .int .i64 8, .int .i64 16]
theorem rowOf_ct {h : H} {f : Int} (hf : fam5 f) : Pure Try.prog 89 [.int .i64 f] h (.tup [.agg (rowC f), .bool true]) := by
  refine pure_to Try.func89 S.reach_rowOf_code S.reach_rowOf_enter (by rcases hf with rfl | rfl | rfl | rfl | rfl <;> rfl) (Nat.le_of_ble_eq_true rfl) fun wf => ?_; simp only [S.reach_rowOf]
  rcases hf with rfl | rfl | rfl | rfl | rfl <;> simp <;> refine rows_ct _ ?_ <;> simp [rowsC, rowC]
theorem afi_ct {h : H} {f : Int} (hf : fam5 f) : Pure Try.prog 73 [.int .i64 f] h (.tup [.int .u16 (afi f).1, .int .u8 (afi f).2, .bool true]) := by
  refine pure_to Try.func73 S.reach_Afi_code S.reach_Afi_enter rfl (Nat.le_of_ble_eq_true rfl) fun wf => ?_; simp only [S.reach_Afi]
  simp
  refine rowOf_ct hf _ ?_
  rcases hf with rfl | rfl | rfl | rfl | rfl <;> simp [rowC] <;> refine dreg_of ?_ <;> simp [afi]
theorem rafi_ct {h : H} {f : Int} (hf : fam5 f) : Pure Try.prog 75 [.int .i64 f] h (.tup [.int .u16 (afi f).1, .int .u8 (afi f).2, .bool true]) := by
  refine pure_to Try.func75 S.Href08_Afi_code S.Href08_Afi_enter rfl (Nat.le_of_ble_eq_true rfl) fun wf => ?_; simp only [S.Href08_Afi]
  rcases hf with rfl | rfl | rfl | rfl | rfl <;> simp [afi]

/-! ### The reference's -/
theorem num_ct {h : H} {vz sz : Int} (v size : Nat) (ev : vz = v) (es : sz = size) (hv : v < 256 ^ size) (hs : 1 ≤ size ∧ size ≤ 7) : Pure Try.prog 44 [.int .i64 vz, .int .i64 sz] h (.str (be size v)) := by
  subst ev es
  obtain ⟨hs, hs2⟩ := hs
  refine pure_to Try.func44 S.Href10_num_code S.Href10_num_enter rfl (Nat.le_of_ble_eq_true rfl) fun wf => ?_; simp only [S.Href10_num]
  have hpow : 256 ^ size ≤ 256 ^ 7 := Nat.pow_le_pow_right (by omega) hs2
  have w : IntKind.u64.wrap (v : Int) = v := by simp [IntKind.wrap, IntKind.bits, IntKind.signed]; omega
  simp [w]
  refine rput_ct (b := []) hs (by omega) hv (by simp) _ ?_
  simp
def pairB (f : Int) (mid back : List UInt8) : List UInt8 := be 2 (afi f).1 ++ mid ++ be 1 (afi f).2 ++ back
theorem pairB_len (f : Int) (mid back : List UInt8) : (pairB f mid back).length = 3 + mid.length + back.length := by simp [pairB, be_len]; omega
theorem rpair_ct {h : H} {f : Int} (hf : fam5 f) {mid back : List UInt8} (hm : mid.length ≤ 1000) (hb : back.length ≤ 1000) : Pure Try.prog 43 [.int .i64 f, .str mid, .str back] h (.str (pairB f mid back)) := by
  obtain ⟨a1, a2⟩ := afi_lt f
  refine pure_to Try.func43 S.Href10_pair_code S.Href10_pair_enter rfl (Nat.le_of_ble_eq_true rfl) fun wf => ?_; simp only [S.Href10_pair]
  simp
  refine rafi_ct hf _ ?_
  have w1 : IntKind.i64.wrap ((afi f).1 : Int) = (afi f).1 := wrap_nat (by omega)
  have w2 : IntKind.i64.wrap ((afi f).2 : Int) = (afi f).2 := wrap_nat (by omega)
  simp [w1]
  refine num_ct _ 2 rfl rfl (by omega) (by omega) _ ?_
  have l1 : (be 2 (afi f).1).length + mid.length ≤ 9223372036854775807 := by rw [be_len]; omega
  have l2 : (be 2 (afi f).1).length + (mid.length + (be 1 (afi f).2).length) ≤ 9223372036854775807 := by rw [be_len, be_len]; omega
  have l3 : (be 2 (afi f).1).length + (mid.length + ((be 1 (afi f).2).length + back.length)) ≤ 9223372036854775807 := by rw [be_len, be_len]; omega
  simp [w2, l1]
  refine num_ct _ 1 rfl rfl (by omega) (by omega) _ ?_
  simp [l2, Nat.add_assoc, l3, pairB]
def capB (code : Nat) (s : List UInt8) : List UInt8 := be 1 code ++ be 1 s.length ++ s
theorem rcap_ct {h : H} {code : Nat} {s : List UInt8} (hc : code < 256) (hs : s.length < 256) : Pure Try.prog 42 [.int .i64 code, .str s] h (.str (capB code s)) := by
  refine pure_to Try.func42 S.Href10_capability_code S.Href10_capability_enter rfl (Nat.le_of_ble_eq_true rfl) fun wf => ?_; simp only [S.Href10_capability]
  have l0 : s.length ≤ 9223372036854775807 := by omega
  have l1 : (be 1 code).length + (be 1 s.length).length ≤ 9223372036854775807 := by rw [be_len, be_len]; omega
  have l2 : (be 1 code).length + ((be 1 s.length).length + s.length) ≤ 9223372036854775807 := by rw [be_len, be_len]; omega
  simp
  refine num_ct _ 1 rfl rfl (by omega) (by omega) _ ?_
  simp
  refine num_ct s.length 1 rfl rfl (by omega) (by omega) _ ?_
  simp [l1, l2, Nat.add_assoc, capB]

/-! ### The program's laid bytes -/
/-- A piece of laid bytes. -/
abbrev Laid (h : H) (i : Nat) (b : List UInt8) : Prop := h.get i = some (.row [.str b])
theorem laid_set {h : H} {i : Nat} {b : List UInt8} : Laid (h.set i (.row [.str b])) i b := by simp [Laid]
theorem lput_ct {h : H} {i : Nat} {b : List UInt8} (hi : Laid h i b) {vz sz : Int} (v size : Nat) (ev : vz = v) (es : sz = size) (hv : v < 256 ^ size) (hs : 1 ≤ size ∧ size ≤ 8) (hb : b.length ≤ 100000) {Q : V → H → Prop} (q : Q (.tup []) (h.set i (.row [.str (b ++ be size v)]))) :
    Acalls Try.prog 39 [.ptr i 1 0, .int .u64 vz, .int .i64 sz] h Q := by
  subst ev es
  refine acalls_to Try.func39 S.open_laid_put_code S.open_laid_put_enter (Nat.le_of_ble_eq_true rfl) fun wf => ?_; simp only [S.open_laid_put]
  simp [cellsAt, hi]
  refine put_ct hs.1 hs.2 hv (by omega) _ ?_
  simp [hi]
  exact q
theorem lpair_ct {h : H} {i : Nat} {b : List UInt8} (hi : Laid h i b) {f : Int} (hf : fam5 f) (mid : Bool) (hb : b.length ≤ 10000) {Q : V → H → Prop} (q : Q (.tup []) (h.set i (.row [.str (b ++ pairB f (if mid then [0] else []) [])]))) :
    Acalls Try.prog 36 [.ptr i 1 0, .int .i64 f, .bool mid] h Q := by
  obtain ⟨a1, a2⟩ := afi_lt f
  refine acalls_to Try.func36 S.open_laid_pair_code S.open_laid_pair_enter (Nat.le_of_ble_eq_true rfl) fun wf => ?_; simp only [S.open_laid_pair]
  have w1 : IntKind.u64.wrap ((afi f).1 : Int) = (afi f).1 := by simp [IntKind.wrap, IntKind.bits, IntKind.signed]; omega
  have w2 : IntKind.u64.wrap ((afi f).2 : Int) = (afi f).2 := by simp [IntKind.wrap, IntKind.bits, IntKind.signed]; omega
  have e0 : be 1 0 = [0] := rfl
  simp
  refine afi_ct hf _ ?_
  simp [w1]
  refine lput_ct hi _ 2 rfl rfl (by omega) (by omega) (by omega) ?_
  simp
  cases mid
  · simp [w2]
    refine lput_ct laid_set _ 1 rfl rfl (by omega) (by omega) (by simp [be_len]; omega) ?_
    simpa [pairB] using q
  · simp
    refine lput_ct laid_set 0 1 rfl rfl (by omega) (by omega) (by simp [be_len]; omega) ?_
    simp [w2]
    refine lput_ct laid_set _ 1 rfl rfl (by omega) (by omega) (by simp [be_len]; omega) ?_
    simpa [pairB, e0] using q
/-- What fills laid bytes. -/
def Fills (h : H) (fv : V) (body : List UInt8) : Prop := ∀ h1 j, Ge h h1 → h.next ≤ j → j < h1.next → Laid h1 j [] → ∀ Q : V → H → Prop, (∀ h2, Ge (h1.set j (.row [.str body])) h2 → Q (.tup []) h2) → callK Try.prog fv [.ptr j 1 0] h1 Q
theorem lcap_ct {h : H} {i : Nat} {b : List UInt8} (hi : Laid h i b) {cz : Int} (code : Nat) (ec : cz = code) (hc : code < 256) {fv : V} {body : List UInt8} (hf : Fills h fv body) (hl : body.length < 256) (hb : b.length ≤ 10000) {Q : V → H → Prop}
    (q : ∀ h2, Ge (h.set i (.row [.str (b ++ capB code body)])) h2 → Q (.tup []) h2) : Acalls Try.prog 34 [.ptr i 1 0, .int .u64 cz, fv] h Q := by
  subst ec
  refine acalls_to Try.func34 S.open_laid_capability_code S.open_laid_capability_enter (Nat.le_of_ble_eq_true rfl) fun wf => ?_; simp only [S.open_laid_capability]
  have hlt := wf.lt hi
  have w : IntKind.u64.wrap (body.length : Int) = body.length := by simp [IntKind.wrap, IntKind.bits, IntKind.signed]; omega
  simp
  refine hf _ h.next ((Ge.refl h).push _) (Nat.le_refl _) (by simp) (by simp [Laid]) _ fun h2 g2 => ?_
  have n2 := g2.1
  simp at n2
  have i2 : Laid h2 i b := by rw [Laid, g2.get_ne (by simp; omega) (by omega)]; simp [show i ≠ h.next by omega]; exact hi
  have j2 : Laid h2 h.next body := g2.get_set (by simp)
  have c2 : ∀ o, cellsAt (h2.set i o).get h.next 1 = some [.str body] := fun o => by
    rw [cellsAt_set, if_neg (by omega), cellsAt_of j2 (by simp)]; rfl
  simp
  refine lput_ct i2 _ 1 rfl rfl (by omega) (by omega) (by omega) ?_
  simp [c2, w]
  refine lput_ct laid_set _ 1 rfl rfl (by omega) (by omega) (by simp [be_len]; omega) ?_
  have ln : (b ++ (be 1 code ++ be 1 body.length)).length + body.length ≤ 9223372036854775807 := by simp [be_len]; omega
  simp
  refine dreg_of ?_
  simp at ln
  simp [c2, ln]
  refine q _ ?_
  refine ⟨by simp; omega, fun k hk => ?_⟩
  simp at hk
  simp only [H.get_set]
  split
  · simp [capB]
  · rw [g2.get_ne (by simp; omega) (by omega)]; simp [show k ≠ h.next by omega]

/-! ### The closures -/
theorem fill1 {h : H} {q : Nat} {f : Int} (hf : fam5 f) (hq : h.get q = some (.row [.int .i64 f])) (hl : q < h.next) : Fills h (.func (.func 35) [] [.ptr q 1 0]) (pairB f [0] []) := by
  intro h1 j g hj hj1 hc Q k
  simp
  refine acalls_to Try.func35 S.open_Encode_1_code S.open_Encode_1_enter (Nat.le_of_ble_eq_true rfl) fun wf => ?_; simp only [S.open_Encode_1]
  have hq1 : cellsAt h1.get q 1 = some [.int .i64 f] := by rw [g.cells hl, cellsAt_of hq (by simp)]; rfl
  simp [hq1]
  refine lpair_ct hc hf true (by simp) ?_
  simp
  exact k _ (by simp)
theorem fill2 {h : H} : Fills h (.func (.func 37) [] []) [] := by
  intro h1 j g hj hj1 hc Q k
  simp
  refine acalls_to Try.func37 S.open_Encode_2_code S.open_Encode_2_enter (Nat.le_of_ble_eq_true rfl) fun wf => ?_; simp only [S.open_Encode_2]
  simp
  refine k _ ⟨Nat.le_refl _, fun i hi => ?_⟩
  simp only [H.get_set]
  split
  · rename_i e; rw [e]; exact hc
  · rfl
theorem fill4 {h : H} {q : Nat} {o : Opn} {f a k : V} (hq : h.get q = some (.row (opnC o f a k))) (hl : q < h.next) (asn : Nat) (ha : o.asn = asn) (hr : asn < 4294967296) : Fills h (.func (.func 40) [] [.ptr q 11 0]) (be 4 asn) := by
  intro h1 j g hj hj1 hc Q kk
  simp
  refine acalls_to Try.func40 S.open_Encode_4_code S.open_Encode_4_enter (Nat.le_of_ble_eq_true rfl) fun wf => ?_; simp only [S.open_Encode_4]
  have hq1 : cellsAt h1.get q 11 = some (opnC o f a k) := by rw [g.cells hl, cellsAt_of hq (by simp [opnC])]; rfl
  have w : IntKind.u64.wrap (asn : Int) = asn := by simp [IntKind.wrap, IntKind.bits, IntKind.signed]; omega
  simp [hq1, opnC, ha, w]
  refine lput_ct hc asn 4 rfl rfl (by omega) (by omega) (by simp) ?_
  simp
  exact kk _ (by simp)
def keptB : List Rest → List UInt8
  | [] => []
  | x :: l => pairB x.fam [] (if x.kept then [128] else [0]) ++ keptB l
def addsB : List Add → List UInt8
  | [] => []
  | x :: l => pairB x.fam [] (be 1 ((if x.take then 1 else 0) + (if x.send then 2 else 0))) ++ addsB l

theorem or_32768 : ∀ x : Nat, x < 4096 → (BitVec.ofInt 64 (x : Int) ||| BitVec.ofInt 64 32768).toNat = x + 32768 := by
  intro x hx
  have h1 : (BitVec.ofInt 64 (x : Int)).toNat = x := by simp; omega
  have h2 : (BitVec.ofInt 64 32768).toNat = 2 ^ 15 * 1 := by decide
  rw [BitVec.toNat_or, h1, h2, Nat.or_comm, ← Nat.two_pow_add_eq_or_of_lt (by omega)]; omega
theorem fill3 {h : H} (wf0 : h.WF) {q : Nat} {o : Opn} {f a k : V} (hq : h.get q = some (.row (opnC o f a k))) (hl : q < h.next) (hk : Rests h.get k o.kept) (time : Nat) (ht : o.time = time) (hr : time < 4096) (h5 : o.kept.length ≤ 5) (hf : ∀ x ∈ o.kept, fam5 x.fam) :
    Fills h (.func (.func 38) [] [.ptr q 11 0]) (be 2 (time + if o.again then 32768 else 0) ++ keptB o.kept) := by
  intro h1 j g hj hj1 hc Q kk
  simp
  refine acalls_to Try.func38 S.open_Encode_3_code S.open_Encode_3_enter (Nat.le_of_ble_eq_true rfl) fun wf => ?_; simp only [S.open_Encode_3]
  have hq1 : ∀ b, Ge h b → cellsAt b.get q 11 = some (opnC o f a k) := fun b gb => by rw [gb.cells hl, cellsAt_of hq (by simp [opnC])]; rfl
  have w : IntKind.u64.wrap (time : Int) = time := by simp [IntKind.wrap, IntKind.bits, IntKind.signed]; omega
  have gs : ∀ x, Ge h (h1.set j x) := fun x => g.set hj _
  have lk := hk.lenG wf0 (n := o.kept.length) (by simp)
  have b3 := hk.bound
  have orb : intV .or .u64 (time : Int) 32768 = some (.int .u64 ((time + 32768 : Nat) : Int)) := by
    show some (V.int .u64 (IntKind.u64.wrap ((BitVec.ofInt 64 (time : Int) ||| BitVec.ofInt 64 32768).toNat : Int))) = _
    rw [or_32768 time hr]
    simp [IntKind.wrap, IntKind.bits, IntKind.signed]; omega
  obtain ⟨body, hbody⟩ : ∃ b, b = be 2 (time + if o.again then 32768 else 0) ++ keptB o.kept := ⟨_, rfl⟩
  rw [← hbody] at kk
  simp [hq1, g, opnC, ht, w]
  cases ha : o.again <;> rw [ha] at hbody <;> simp [orb]
  all_goals
    first | refine lput_ct hc time 2 rfl rfl (by omega) (by omega) (by simp) ?_ | refine lput_ct hc (time + 32768) 2 (by simp) rfl (by omega) (by omega) (by simp) ?_
    simp [hq1, gs, opnC, lk]
    refine loop_up (fun i t h' => ∃ acc : List UInt8, (t 0 = .ptr j 1 0 ∧ t 17 = k ∧ t 18 = .int .i64 o.kept.length ∧ t 19 = .int .i64 i) ∧ Ge (h1.set j (.row [.str acc])) h' ∧ acc.length ≤ 2 + 4 * i ∧ acc ++ keptB (o.kept.drop i) = body) o.kept.length ⟨_, by simp, Ge.refl _, by simp [be_len], by rw [hbody]; simp⟩ ?_
    rintro i t h' hi ⟨acc, ⟨h0, h17, h18, h19⟩, hg, hal, hacc⟩ K hK
    have hG : Ge h h' := (gs _).trans hg
    have hn := hg.1
    simp at hn
    by_cases hlt : i < o.kept.length
    · obtain ⟨p, q2, po, cs, e1, hp, e2, e3, e4, _⟩ := hk.atG wf0 (k := i) (by simpa using hlt)
      have e2 := e2 _ hG
      have hw := wrap_succ hlt (by simpa using b3)
      have hfi := hf o.kept[i] (List.getElem_mem hlt)
      have hc' : Laid h' j acc := hg.get_set hj1
      rw [List.drop_eq_getElem_cons hlt, keptB] at hacc
      have hne : ¬ h'.next = j := by omega
      have hne' : ¬ j = h'.next := by omega
      simp [h0, h17, h18, h19, hlt, e1, e2, e3, e4]
      refine lpair_ct (b := acc) (by simp [Laid, hne']; exact hc') hfi false (by omega) ?_
      simp [hne]
      obtain ⟨B, hB⟩ : ∃ B, B = (if o.kept[i].kept then ([128] : List UInt8) else [0]) := ⟨_, rfl⟩
      have nx : ∀ t' h2, (t' 0 = .ptr j 1 0 ∧ t' 17 = k ∧ t' 18 = .int .i64 o.kept.length ∧ t' 19 = .int .i64 ((i : Int) + 1)) → h2 = ((h'.push (.row [.int .i64 0, .bool false])).set h'.next (.row [.int .i64 o.kept[i].fam, .bool o.kept[i].kept])).set j (.row [.str (acc ++ pairB o.kept[i].fam [] [] ++ B)]) → K t' h2 := by
        rintro t' h2 ht rfl
        refine hK _ _ hlt ⟨acc ++ pairB o.kept[i].fam [] [] ++ B, by simpa using ht, Ge.set_same ((hg.push _).set (by simp; omega) _), ?_, ?_⟩
        · have : B.length = 1 := by rw [hB]; split <;> rfl
          simp [pairB_len, this]; omega
        · rw [← hacc, ← hB]; simp [pairB]
      (first | refine guard_split ?_ ?_ | refine cond_split ?_ ?_ | refine sguard_split ?_ ?_) <;> intro e <;> (try simp only [Bool.not_true, Bool.not_false] at e) <;> simp [e, h0]
      · refine lput_ct laid_set 128 1 rfl rfl (by omega) (by omega) (by simp [pairB_len]; omega) ?_
        simp [h19, hw]
        refine nx _ _ (by simp [h0, h17, h18]) ?_
        simp [hB, e]; rfl
      · refine lput_ct laid_set 0 1 rfl rfl (by omega) (by omega) (by simp [pairB_len]; omega) ?_
        simp [h19, hw]
        refine nx _ _ (by simp [h0, h17, h18]) ?_
        simp [hB, e]; rfl
    · simp [h18, h19, hlt]
      refine kk _ ?_
      have : acc = body := by rw [← hacc, List.drop_of_length_le (by omega)]; simp [keptB]
      rw [← this]; exact hg

theorem fill5 {h : H} (wf0 : h.WF) {q : Nat} {o : Opn} {f a k : V} (hq : h.get q = some (.row (opnC o f a k))) (hl : q < h.next) (hk : Adds h.get a o.adds) (h5 : o.adds.length ≤ 5) (hf : ∀ x ∈ o.adds, fam5 x.fam) :
    Fills h (.func (.func 41) [] [.ptr q 11 0]) (addsB o.adds) := by
  intro h1 j g hj hj1 hc Q kk
  simp
  refine acalls_to Try.func41 S.open_Encode_5_code S.open_Encode_5_enter (Nat.le_of_ble_eq_true rfl) fun wf => ?_; simp only [S.open_Encode_5]
  have hq1 : ∀ b, Ge h b → cellsAt b.get q 11 = some (opnC o f a k) := fun b gb => by rw [gb.cells hl, cellsAt_of hq (by simp [opnC])]; rfl
  have gs : ∀ x, Ge h (h1.set j x) := fun x => g.set hj _
  have g0 : Ge (h1.set j (.row [.str []])) h1 := ⟨Nat.le_refl _, fun i hi => by
    rw [H.get_set]; split
    · rename_i e; rw [e]; exact hc
    · rfl⟩
  have lk := hk.lenG wf0 (n := o.adds.length) (by simp)
  have b3 := hk.bound
  obtain ⟨body, hbody⟩ : ∃ b, b = addsB o.adds := ⟨_, rfl⟩
  rw [← hbody] at kk
  simp [hq1, g, opnC, lk]
  refine loop_up (fun i t h' => ∃ acc : List UInt8, (t 0 = .ptr j 1 0 ∧ t 7 = a ∧ t 8 = .int .i64 o.adds.length ∧ t 9 = .int .i64 i) ∧ Ge (h1.set j (.row [.str acc])) h' ∧ acc.length ≤ 4 * i ∧ acc ++ addsB (o.adds.drop i) = body) o.adds.length ⟨[], by simp, g0, by simp, by rw [hbody]; simp⟩ ?_
  rintro i t h' hi ⟨acc, ⟨h0, h17, h18, h19⟩, hg, hal, hacc⟩ K hK
  have hG : Ge h h' := (gs _).trans hg
  have hn := hg.1
  simp at hn
  by_cases hlt : i < o.adds.length
  · obtain ⟨p, q2, po, cs, e1, hp, e2, e3, e4, _⟩ := hk.atG wf0 (k := i) (by simpa using hlt)
    have e2 := e2 _ hG
    have hw := wrap_succ hlt (by simpa using b3)
    have hfi := hf o.adds[i] (List.getElem_mem hlt)
    have hc' : Laid h' j acc := hg.get_set hj1
    rw [List.drop_eq_getElem_cons hlt, addsB] at hacc
    have hne : ¬ h'.next = j := by omega
    have hne' : ¬ j = h'.next := by omega
    simp [h0, h17, h18, h19, hlt, e1, e2, e3, e4]
    refine lpair_ct (b := acc) (by simp [Laid, hne']; exact hc') hfi false (by omega) ?_
    simp [hne]
    obtain ⟨N, hN⟩ : ∃ N, N = ((if o.adds[i].take then 1 else 0) + (if o.adds[i].send then 2 else 0)) := ⟨_, rfl⟩
    rw [← hN] at hacc
    have nx : ∀ t' h2, (t' 0 = .ptr j 1 0 ∧ t' 7 = a ∧ t' 8 = .int .i64 o.adds.length ∧ t' 9 = .int .i64 ((i : Int) + 1)) → h2 = ((h'.push (.row [.int .i64 0, .bool false, .bool false])).set h'.next (.row [.int .i64 o.adds[i].fam, .bool o.adds[i].send, .bool o.adds[i].take])).set j (.row [.str (acc ++ pairB o.adds[i].fam [] [] ++ be 1 N)]) → K t' h2 := by
      rintro t' h2 ht rfl
      refine hK _ _ hlt ⟨acc ++ pairB o.adds[i].fam [] [] ++ be 1 N, by simpa using ht, Ge.set_same ((hg.push _).set (by simp; omega) _), ?_, ?_⟩
      · simp [pairB_len, be_len]; omega
      · rw [← hacc]; simp [pairB]
    have w2 : IntKind.u64.wrap 2 = 2 := by decide
    have w3 : IntKind.u64.wrap 3 = 3 := by decide
    cases ht : o.adds[i].take <;> cases hs : o.adds[i].send <;> rw [ht, hs] at nx hN <;> simp [w2, w3, hne, h0] at hN ⊢
    all_goals
      refine lput_ct laid_set N 1 (by simp [hN]) rfl (by omega) (by omega) (by simp [pairB_len]; omega) ?_
      simp [h19, hw]
      exact nx _ _ (by simp [h0, h17, h18]) (by simp)
  · simp [h18, h19, hlt]
    refine kk _ ?_
    have : acc = body := by rw [← hacc, List.drop_of_length_le (by omega)]; simp [addsB]
    rw [← this]; exact hg
end Go.Am
