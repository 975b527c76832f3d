/-
 AM, PART 5. Equality as an operation; places, slices, new blocks, append, copy.
-/
import Derived.Test.YtpgcodeckphanaaGreatDoorIAm4
namespace Go.Am

variable {P : Program} {W0 : World} {μ : Nat -> Pl} {h : H} {w : World}

theorem za0 {neg : Bool} {t : TypeId} {c1 c2 : Value} {b : Bool} (h1 : ∀ k k' a b, c1 = .int k a -> c2 ≠ .int k' b) (h2 : ∀ a b, c1 = .string a -> c2 ≠ .string b)
  (h3 : ∀ k a, c1 ≠ .float k a) (h4 : ∀ k a b, c1 ≠ .complex k a b) (he : (Op.equalIn 10000 t c1 c2).run P w = .ok b w) :
  (binOp (if neg then .neq else .eql) t c1 c2).run P w = .ok (.bool (if neg then !b else b)) w := by
 have e1 : binOp .eql t c1 c2 = (do pure (.bool (<- Op.equal t c1 c2))) := by
  unfold binOp
  split <;> first | rfl | (rename_i h; cases h; done) | (exfalso; first | exact h1 _ _ _ _ rfl rfl | exact h2 _ _ rfl rfl | exact h3 _ _ rfl | exact h4 _ _ _ rfl) | skip
  all_goals simp_all
 have e2 : binOp .neq t c1 c2 = (do pure (.bool (!(<- Op.equal t c1 c2)))) := by
  unfold binOp
  split <;> first | rfl | (rename_i h; cases h; done) | (exfalso; first | exact h1 _ _ _ _ rfl rfl | exact h2 _ _ rfl rfl | exact h3 _ _ rfl | exact h4 _ _ _ rfl) | skip
  all_goals simp_all
 cases neg
 ·simp [e1, Op.equal, Op.maxDepth, he]
 ·simp [e2, Op.equal, Op.maxDepth, he]

theorem zhg {t : Nat} (h : (intCmp P).contains t = true) : (∃ k, P.underlying t = some (.int k)) ∧ ∃ i, P.info? t = some i ∧ i.comparable = true := by
 simp only [intCmp, List.contains_eq_mem, List.mem_filter, Bool.and_eq_true, decide_eq_true_eq] at h
 obtain ⟨_, h1, h2⟩ := h
 refine ⟨?_, ?_⟩
 ·split at h1
  ·rename_i k hk; exact ⟨k, hk⟩
  ·cases h1
 ·split at h2
  ·rename_i i hi; exact ⟨i, hi, h2⟩
  ·cases h2
theorem zpW {neg : Bool} {t : TypeId} {ms : Array (String × TypeId)} (hu : P.underlying t = some (.interface ms)) {x y : Operand} {u1 u2 : V} {c1 c2 : Value} (v1 : VR μ h u1 c1) (v2 : VR μ h u2 c2) {r : Bool} (he : eqV (.ifc (intCmp P)) u1 u2 = some r) :
  (eqGuard (if neg then .neq else .eql) t x y c1 c2).run P w = .ok () w ∧ (binOp (if neg then .neq else .eql) t c1 c2).run P w = .ok (.bool (if neg then !r else r)) w := by
 unfold eqV at he
 split at he
 case h_24 =>
  cases he
  simp only [VR] at v1
  obtain ⟨_, rfl, _⟩ := v2
  subst v1
  exact ⟨by cases neg <;> rfl, za0 (by simp) (by simp) (by simp) (by simp) ((show ∀ d : Nat, (Op.equalIn (d + 2) t .nilIface (.iface _ _)).run P w = .ok false w from fun d => by simp [Op.equalIn, run_underlying hu]) 9998)⟩
 case h_25 =>
  cases he
  simp only [VR] at v2
  obtain ⟨_, rfl, _⟩ := v1
  subst v2
  exact ⟨by cases neg <;> rfl, za0 (by simp) (by simp) (by simp) (by simp) ((show ∀ d : Nat, (Op.equalIn (d + 2) t (.iface _ _) .nilIface).run P w = .ok false w from fun d => by simp [Op.equalIn, run_underlying hu]) 9998)⟩
 case h_26 l t1 k a t2 k' b hl =>
  cases hl
  obtain ⟨_, rfl, hv⟩ := v1
  obtain ⟨_, rfl, hv'⟩ := v2
  simp only [VR] at hv hv'
  subst hv hv'
  refine ⟨by cases neg <;> rfl, za0 (by simp) (by simp) (by simp) (by simp) ?_⟩
  split at he
  ·rename_i e
   subst e
   split at he
   ·rename_i hc
    obtain ⟨⟨q, hq⟩, i, hi, hcc⟩ := zhg hc
    split at he
    ·rename_i hk
     subst hk
     cases he
     exact (show ∀ d : Nat, (Op.equalIn (d + 2) t (.iface t1 (.int k a)) (.iface t1 (.int k b))).run P w = .ok (a == b) w from fun d => by simp [Op.equalIn, run_underlying hu, run_underlying hq, typeInfo, hi, hcc]) 9998
    ·cases he
   ·cases he
  ·rename_i e
   cases he
   exact (show ∀ d : Nat, (Op.equalIn (d + 1) t (.iface t1 (.int k a)) (.iface t2 (.int k' b))).run P w = .ok false w from fun d => by unfold Op.equalIn; simp [run_underlying hu, e]) 9999
 all_goals first | (rename_i hl; cases hl; done) | (cases he; done) | contradiction
theorem zns {neg : Bool} {t : TypeId} {x y : Operand} {i : I} {ts : TS} {a b : A} (hc : zck P neg t x y = some i) (hi : i = .eq neg ts a b) {u1 u2 : V} {c1 c2 : Value}
  (v1 : VR μ h u1 c1) (v2 : VR μ h u2 c2) {r : Bool} (he : eqV ts u1 u2 = some r) :
  (eqGuard (if neg then .neq else .eql) t x y c1 c2).run P w = .ok () w ∧ (binOp (if neg then .neq else .eql) t c1 c2).run P w = .ok (.bool (if neg then !r else r)) w := by
 subst hi
 simp only [zck, Option.bind_eq_bind, Option.pure_def] at hc
 cases ht : tsOf P 20 t with
 | none => simp [ht] at hc
 | some ts' =>
  cases hax : zag x with
  | none => simp [ht, hax] at hc
  | some a' =>
   cases hay : zag y with
   | none => simp [ht, hax, hay] at hc
   | some b' =>
    simp only [ht, hax, hay, Option.bind_some] at hc
    by_cases hifc : ts' = .iface ∧ (zbm x || zbm y) = false
    ·obtain ⟨rfl, hcn⟩ := hifc
     simp only [hcn, Bool.false_eq_true, if_false, Option.some.injEq, I.eq.injEq, true_and] at hc
     obtain ⟨rfl, _⟩ := hc
     obtain ⟨ms, hu⟩ := zeK ht
     exact zpW hu v1 v2 he
    have hcn : ts' = .iface -> (zbm x || zbm y) = true := fun e => by
     cases hh : (zbm x || zbm y) with
     | true => rfl
     | false => exact absurd ⟨e, hh⟩ hifc
    have hts : ts' = ts ∧ ts ≠ .int ∧ ts ≠ .str ∧ (ts = .iface -> (zbm x || zbm y) = true) := by
     cases ts' <;> (first | (simp at hc; obtain ⟨rfl, _⟩ := hc; simp; done) | (have hh := hcn rfl; rw [hh] at hc; simp at hc; obtain ⟨rfl, _⟩ := hc; exact ⟨rfl, by simp, by simp, fun _ => hh⟩) | (simp at hc; done))
    obtain ⟨rfl, hn1, hn2, hif⟩ := hts
    have heq := zmH (P := P) (w := w) 20 t ts' u1 u2 c1 c2 r 10000 (by omega) ht v1 v2 he
    have hinv := zeK ht
    unfold eqV at he
    split at he
    case h_2 => exact absurd rfl hn1
    case h_3 => exact absurd rfl hn2
    case h_24 => exact hinv.elim
    case h_25 => exact hinv.elim
    case h_26 => exact hinv.elim
    case h_27 => cases he
    case h_23 tf xs ys =>
     obtain ⟨fs, hu, hg, hgd, hf⟩ := hinv
     obtain ⟨cx, rfl, hx⟩ := v1
     obtain ⟨cy, rfl, hy⟩ := v2
     exact ⟨run_eqGuard_agg w _ t x y _ _ hgd, za0 (by simp) (by simp) (by simp) (by simp) heq⟩
    case h_20 =>
     simp only [VR] at v1 v2; subst v1 v2
     refine ⟨?_, za0 (by simp) (by simp) (by simp) (by simp) heq⟩
     have h0 := hif rfl
     cases neg <;> cases x <;> cases y <;> simp [zbm] at h0 <;> simp [eqGuard]
    all_goals (simp only [VR] at v1 v2)
    all_goals first
     | (subst v1; subst v2; exact ⟨by cases neg <;> rfl, za0 (by simp) (by simp) (by simp) (by simp) heq⟩)
     | (subst v1; obtain ⟨_, rfl, _⟩ := v2; exact ⟨by cases neg <;> rfl, za0 (by simp) (by simp) (by simp) (by simp) heq⟩)
     | (subst v2; obtain ⟨_, rfl, _⟩ := v1; exact ⟨by cases neg <;> rfl, za0 (by simp) (by simp) (by simp) (by simp) heq⟩)
     | (subst v1; obtain ⟨_, _, rfl, _⟩ := v2; exact ⟨by cases neg <;> rfl, za0 (by simp) (by simp) (by simp) (by simp) heq⟩)
     | (subst v2; obtain ⟨_, _, rfl, _⟩ := v1; exact ⟨by cases neg <;> rfl, za0 (by simp) (by simp) (by simp) (by simp) heq⟩)
     | (subst v1; obtain ⟨_, _, _, rfl, _⟩ := v2; exact ⟨by cases neg <;> rfl, za0 (by simp) (by simp) (by simp) (by simp) heq⟩)
     | (subst v2; obtain ⟨_, _, _, rfl, _⟩ := v1; exact ⟨by cases neg <;> rfl, za0 (by simp) (by simp) (by simp) (by simp) heq⟩)

theorem ziQ {u v : V} {c : Value} (hv : VR μ h u c) (e : zcN u = some v) : v = u ∧ ((∃ a, c = .pointer (some a)) ∨ (∃ g a b, c = .func (.func g) a b) ∨ ∃ t x, c = .iface t x) := by
 unfold zcN at e
 split at e <;> simp at e <;> subst e
 ·obtain ⟨pl, rfl, _⟩ := hv; exact ⟨rfl, .inl ⟨_, rfl⟩⟩
 ·simp only [VR] at hv; subst hv; exact ⟨rfl, .inl ⟨_, rfl⟩⟩
 ·obtain ⟨_, _, rfl, _⟩ := hv; exact ⟨rfl, .inr (.inl ⟨_, _, _, rfl⟩)⟩
 ·obtain ⟨_, rfl, _⟩ := hv; exact ⟨rfl, .inr (.inr ⟨_, _, rfl⟩)⟩

theorem zg1 {t e : TypeId} {sz : Nat} (hu : P.underlying t = some (.slice e)) (hs : szOf P e = some sz) {x i v : V} {cx ci : Value} (hx : VR μ h x cx) (hi : VR μ h i ci)
  (he : zaA sz x i = some v) : ∃ c, (Instr.indexAt t cx ci).run P w = .ok c w ∧ VR μ h v c := by
 unfold zaA at he
 split at he
 ·rename_i i n off len cap k m
  obtain ⟨pl, ccap, rfl, _, _, _, rf, _⟩ := hx
  simp only [VR] at hi; subst hi
  split at he
  ·rename_i hm
   simp at he; subst he
   refine ⟨.pointer (some ⟨pl.blk, pl.base + (off + m.toNat * sz), none⟩), ?_, pl, rfl, rf⟩
   simp [Instr.indexAt, run_underlying hu, asIntOf, hm.1, hm.2, zau hs, Addr.add_off, Nat.add_assoc]
  ·cases he
 ·cases he
theorem zeT {t e : TypeId} {len sz : Nat} (hu : P.underlying t = some (.array len e)) (hs : szOf P e = some sz) {x i v : V} {cx ci : Value} (hx : VR μ h x cx) (hi : VR μ h i ci)
  (he : za4 len sz x i = some v) : ∃ c, (Instr.indexAt t cx ci).run P w = .ok c w ∧ VR μ h v c := by
 unfold za4 at he
 split at he
 ·rename_i i n off k m
  obtain ⟨pl, rfl, rf⟩ := hx
  simp only [VR] at hi; subst hi
  split at he
  ·rename_i hm
   simp at he; subst he
   refine ⟨.pointer (some ⟨pl.blk, pl.base + (off + m.toNat * sz), none⟩), ?_, pl, rfl, rf⟩
   simp [Instr.indexAt, run_underlying hu, asIntOf, Instr.sureAddr, hm.1, hm.2, zau hs, Addr.add_off, Nat.add_assoc]
  ·cases he
 ·rename_i g off k m
  simp only [VR] at hx hi; subst hx hi
  split at he
  ·rename_i hm
   simp at he; subst he
   refine ⟨.pointer (some ⟨g, off + m.toNat * sz, none⟩), ?_, rfl⟩
   simp [Instr.indexAt, run_underlying hu, asIntOf, Instr.sureAddr, hm.1, hm.2, zau hs, Addr.add_off]
  ·cases he
 ·cases he
theorem zhD {t : TypeId} (hu : P.underlying t = some .string) {x i v : V} {cx ci : Value} (hx : VR μ h x cx) (hi : VR μ h i ci)
  (he : zbZ x i = some v) : ∃ c, (Instr.index t cx ci).run P w = .ok c w ∧ VR μ h v c := by
 unfold zbZ at he
 split at he
 ·rename_i s k m
  simp only [VR] at hx hi; subst hx hi
  split at he
  ·rename_i hm
   cases hb : s[m.toNat]? with
   | none => simp [hb] at he
   | some b =>
    simp [hb] at he; subst he
    refine ⟨.int .u8 b.toNat, ?_, rfl⟩
    have hlt : m.toNat < s.length := (List.getElem?_eq_some_iff.1 hb).1
    have hg : (ByteArray.mk s.toArray)[m.toNat]? = some b := by
     rw [getElem?_pos (ByteArray.mk s.toArray) m.toNat (by rw [zdy]; exact hlt)]
     have := (List.getElem?_eq_some_iff.1 hb).2
     simp only [Option.some.injEq]
     rw [<- this]
     rfl
    simp [Instr.index, run_underlying hu, asIntOf, hm, hg]
  ·cases he
 ·cases he
theorem zht {t e : TypeId} {agg : Bool} {len sz : Nat} (hu : P.underlying t = some (.array len e)) (ha : zcD P e = some agg) (hs : szOf P e = some sz) {x i v : V} {cx ci : Value} (hx : VR μ h x cx) (hi : VR μ h i ci)
  (he : zc1 agg len sz x i = some v) : ∃ c, (Instr.index t cx ci).run P w = .ok c w ∧ VR μ h v c := by
 unfold zc1 at he
 split at he
 ·rename_i cs k m
  obtain ⟨cc, rfl, hx⟩ := hx
  simp only [VR] at hi; subst hi
  split at he
  ·rename_i hm
   obtain ⟨c, hc, hv⟩ := zdZ (P := P) (w := w) ha hs hx he
   exact ⟨c, by simp [Instr.index, run_underlying hu, asIntOf, hm.1, hm.2, zau hs, hc], hv⟩
  ·cases he
 ·cases he
theorem zgv {s : TypeId} {fs : Array Field} {f : Nat} {fd : Field} {n : Nat} (hu : P.underlying s = some (.struct fs)) (hf : fs[f]? = some fd) (hs : szOf P fd.type = some n) (hn : n ≠ 0) {i m o : Nat} {cx : Value} (hx : VR μ h (.ptr i m o) cx) :
  ∃ c, (Instr.fieldAt s cx f).run P w = .ok c w ∧ VR μ h (.ptr i m (o + fd.offset)) c := by
 obtain ⟨pl, rfl, rf⟩ := hx
 refine ⟨.pointer (some ⟨pl.blk, pl.base + (o + fd.offset), none⟩), ?_, pl, rfl, rf⟩
 simp [Instr.fieldAt, run_underlying hu, hf, Instr.sureAddr, fieldPlace, zau hs, hn, Addr.add_off, Nat.add_assoc]
theorem zfZ {s : TypeId} {fs : Array Field} {f : Nat} {fd : Field} {n : Nat} (hu : P.underlying s = some (.struct fs)) (hf : fs[f]? = some fd) (hs : szOf P fd.type = some n) (hn : n ≠ 0) {g o : Nat} {cx : Value} (hx : VR μ h (.gp g o) cx) :
  ∃ c, (Instr.fieldAt s cx f).run P w = .ok c w ∧ VR μ h (.gp g (o + fd.offset)) c := by
 simp only [VR] at hx
 subst hx
 refine ⟨.pointer (some ⟨g, o + fd.offset, none⟩), ?_, rfl⟩
 simp [Instr.fieldAt, run_underlying hu, hf, Instr.sureAddr, fieldPlace, zau hs, hn, Addr.add_off]
theorem zlr {s : TypeId} {fs : Array Field} {f : Nat} {fd : Field} {agg : Bool} {n : Nat} (hu : P.underlying s = some (.struct fs)) (hf : fs[f]? = some fd) (ha : zcD P fd.type = some agg) (hs : szOf P fd.type = some n) {cs : List V} {cx : Value} (hx : VR μ h (.agg cs) cx) {v : V}
  (he : zb0 agg fd.offset n cs = some v) : ∃ c, (Instr.field s cx f).run P w = .ok c w ∧ VR μ h v c := by
 obtain ⟨cc, rfl, hx⟩ := hx
 obtain ⟨c, hc, hv⟩ := zdZ (P := P) (w := w) ha hs hx he
 exact ⟨c, by simp [Instr.field, run_underlying hu, hf, asAgg, hc], hv⟩

theorem zfO {d y n : Nat} {x : Option V} {cx : Option Value} (hx : match x, cx with | none, none => True | some v, some c => VR μ h v c | _, _ => False) (e : zan d y x = some n) (code : BoundsCode) :
  (match cx with | some v => Instr.sliceBound v y code | none => pure d).run P w = .ok n w ∧ (x ≠ none -> n ≤ y) ∧ (x = none -> n = d) := by
 unfold zan at e
 split at e
 ·simp at e; subst e
  cases cx with
  | none => exact ⟨rfl, by simp, by simp⟩
  | some c => simp at hx
 ·rename_i k m
  cases cx with
  | none => simp at hx
  | some c =>
   simp only [VR] at hx; subst hx
   split at e
   ·rename_i hm
    simp at e; subst e
    exact ⟨by simp [Instr.sliceBound, asIntOf, hm.1, hm.2], fun _ => by omega, by simp⟩
   ·cases e
 ·cases e

def zet (μ : Nat -> Pl) (h : H) : Option V -> Option Value -> Prop
 | none, none => True
 | some v, some c => VR μ h v c
 | _, _ => False

theorem zdG {isSlice : Bool} {len cap : Nat} {lo hi mx : Option V} {cl ch cm : Option Value} (hl : zet μ h lo cl) (hh : zet μ h hi ch) (hm : zet μ h mx cm) (h3 : mx ≠ none -> hi ≠ none) {l hN m : Nat}
  (em : zan cap cap mx = some m) (eh : zan len m hi = some hN) (el : zan 0 hN lo = some l) :
  (Instr.sliceBounds isSlice len cap cl ch cm).run P w = .ok (l, hN, m) w := by
 have bl : ∀ code, (match cl with | some v => Instr.sliceBound v hN code | none => pure 0).run P w = .ok l w := fun code => (zfO (μ := μ) (h := h) (cx := cl) hl el code).1
 have bm : ∀ code, (match cm with | some v => Instr.sliceBound v cap code | none => pure cap).run P w = .ok m w := fun code => (zfO (μ := μ) (h := h) (cx := cm) hm em code).1
 have bh : ∀ code, (match ch with | some v => Instr.sliceBound v m code | none => pure len).run P w = .ok hN w := fun code => (zfO (μ := μ) (h := h) (cx := ch) hh eh code).1
 unfold Instr.sliceBounds
 cases cm with
 | none =>
  have hmx : cap = m := by simpa using bm .index
  subst hmx
  cases ch with
  | none =>
   have := bh .index; simp at this; subst this
   cases cl with
   | none => have := bl .index; simp at this; subst this; simp
   | some v => have := fun c => bl c; simp only [] at this; simp [this]
  | some u =>
   have hb := fun c => bh c; simp only [] at hb
   cases cl with
   | none => have := bl .index; simp at this; subst this; simp [hb]
   | some v => have := fun c => bl c; simp only [] at this; simp [hb, this]
 | some z =>
  have hmx : mx ≠ none := by intro e; subst e; simp [zet] at hm
  have hhi := h3 hmx
  cases ch with
  | none => exfalso; cases hi with
   | none => exact hhi rfl
   | some _ => simp [zet] at hh
  | some u =>
   have hb := fun c => bh c; simp only [] at hb
   have hb2 := fun c => bm c; simp only [] at hb2
   cases cl with
   | none => have := bl .index; simp at this; subst this; simp [hb, hb2]
   | some v => have := fun c => bl c; simp only [] at this; simp [hb, hb2, this]

theorem zhH {t : TypeId} (hu : P.underlying t = some .string) {x v : V} {cx : Value} {lo hi : Option V} {cl ch : Option Value} (hx : VR μ h x cx) (hl : zet μ h lo cl) (hh : zet μ h hi ch)
  (he : zbW lo hi x = some v) : ∃ c, (Instr.sliceAt t cx cl ch none).run P w = .ok c w ∧ VR μ h v c := by
 unfold zbW at he
 split at he
 ·rename_i s
  simp only [VR] at hx; subst hx
  split at he
  ·rename_i hN eh
   split at he
   ·rename_i l el
    simp at he; subst he
    have hb := zdG (P := P) (w := w) (isSlice := false) (mx := none) (cm := none) (cap := s.length) hl hh trivial (by simp) (m := s.length) rfl eh el
    refine ⟨.string ((ByteArray.mk s.toArray).extract l hN), ?_, ?_⟩
    ·simp [Instr.sliceAt, Instr.slice, run_underlying hu, zdy, hb]
    ·simp only [VR]
     congr 1
     apply ByteArray.ext
     simp [List.extract_toArray, List.extract_eq_take_drop, List.drop_take]
   ·cases he
  ·cases he
 ·cases he

theorem zaW {d y n : Nat} {x : Option V} (hd : d ≤ y) (e : zan d y x = some n) : n ≤ y := by
 unfold zan at e
 split at e
 ·simp at e; omega
 ·split at e
  ·simp at e; omega
  ·cases e
 ·cases e

theorem zfx {t e : TypeId} {sz : Nat} (hu : P.underlying t = some (.slice e)) (hs : szOf P e = some sz) (hs0 : sz ≠ 0) {x v : V} {cx : Value} {lo hi mx : Option V} {cl ch cm : Option Value} (hx : VR μ h x cx)
  (hl : zet μ h lo cl) (hh : zet μ h hi ch) (hm : zet μ h mx cm) (h3 : mx ≠ none -> hi ≠ none) (he : zay sz lo hi mx x = some v) :
  ∃ c, (Instr.sliceAt t cx cl ch cm).run P w = .ok c w ∧ VR μ h v c := by
 have key : ∀ (a : Option Addr) (len cap l hN m : Nat), zan cap cap mx = some m -> zan len m hi = some hN -> zan 0 hN lo = some l ->
   (Instr.sliceAt t (.slice a len cap) cl ch cm).run P w = .ok (.slice (if m = l then a else a.map (·.add (l * sz))) (hN - l) (m - l)) w := by
  intro a len cap l hN m em eh el
  have hb := zdG (P := P) (w := w) (isSlice := true) hl hh hm h3 em eh el
  simp [Instr.sliceAt, Instr.slice, run_underlying hu, hb, zau hs]
 unfold zay at he
 split at he
 ·-- nil
  simp only [VR] at hx; subst hx
  split at he
  ·rename_i m hN l em eh el
   simp at he; subst he
   have hm0 : m = 0 := by have := zaW (Nat.le_refl _) em; omega
   subst hm0
   have hh0 : hN = 0 := by have := zaW (Nat.le_refl _) eh; omega
   subst hh0
   have hl0 : l = 0 := by have := zaW (Nat.le_refl _) el; omega
   subst hl0
   exact ⟨_, key none 0 0 0 0 0 em eh el, by simp [VR]⟩
  ·cases he
 ·-- the empty slice
  obtain ⟨a0, ccap, rfl, hcap⟩ := hx
  split at he
  ·split at he
   ·rename_i hN l eh el
    simp at he; subst he
    have hh0 : hN = 0 := by have := zaW (Nat.le_refl _) eh; omega
    subst hh0
    have hl0 : l = 0 := by have := zaW (Nat.le_refl _) el; omega
    subst hl0
    have eh' : zan 0 ccap hi = some 0 := by
     unfold zan at eh ⊢
     split at eh
     ·rfl
     ·split at eh
      ·rename_i hh2; rw [if_pos (by omega)]; exact eh
      ·cases eh
     ·cases eh
    have cm0 : cm = none := by cases cm with
     | none => rfl
     | some _ => simp [zet] at hm
    refine ⟨_, key (some a0) 0 ccap 0 0 ccap rfl eh' el, ?_⟩
    refine ⟨a0, ccap, ?_, hcap⟩
    simp [Addr.add]
   ·cases he
  ·cases he
 ·-- capacity known
  rename_i i n off len c
  obtain ⟨pl, ccap, rfl, l1, l2, hc, rf, _⟩ := hx
  obtain rfl := hc c rfl
  split at he
  ·rename_i m em
   split at he
   ·rename_i hN eh
    split at he
    ·rename_i l el
     split at he
     ·rename_i hle
      simp at he; subst he
      refine ⟨_, key _ len ccap l hN m em eh el, ?_⟩
      have hlh : l ≤ hN := zaW (Nat.zero_le _) el
      have hmc : m ≤ ccap := zaW (Nat.le_refl _) em
      refine ⟨pl, m - l, ?_, by omega, by omega, by simp, rf, by simp⟩
      split
      ·simp
      ·simp [Addr.add_off, Nat.add_assoc]
     ·cases he
    ·cases he
   ·cases he
  ·cases he
 ·-- capacity open
  rename_i i n off len
  obtain ⟨pl, ccap, rfl, l1, l2, _, rf, ht⟩ := hx
  split at he
  ·split at he
   ·rename_i hN eh
    have hNl : hN ≤ len := zaW (Nat.le_refl _) eh
    have eh' : zan len ccap hi = some hN := by
     unfold zan at eh ⊢
     split at eh
     ·exact eh
     ·split at eh
      ·rename_i hh2; rw [if_pos (by omega)]; exact eh
      ·cases eh
     ·cases eh
    split at he
    ·rename_i l el
     have hlh : l ≤ hN := zaW (Nat.zero_le _) el
     have hk := key (some ⟨pl.blk, pl.base + off, none⟩) len ccap l hN ccap rfl eh' el
     split at he
     ·rename_i hll
      simp at he; subst he
      refine ⟨_, hk, pl, ccap - l, ?_, by omega, by omega, by simp, rf, ?_⟩
      ·rw [if_neg (by omega)]; simp [Addr.add_off, Nat.add_assoc]
      ·intro _ h00 o ho hn hsz
       have hl0 : l = 0 := by
        rcases Nat.eq_zero_or_pos l with e | e
        ·exact e
        ·have := Nat.mul_pos e (Nat.pos_of_ne_zero hs0); omega
       subst hl0
       simpa using ht rfl (by omega) o ho hn hsz
     ·simp at he; subst he
      have hl' : hN - l = 0 := by omega
      refine ⟨_, hk, ?_⟩
      rw [hl']
      split
      ·exact ⟨_, _, rfl, by omega⟩
      ·exact ⟨⟨pl.blk, pl.base + off + l * sz, none⟩, ccap - l, by simp [Addr.add_off], by omega⟩
    ·cases he
   ·cases he
  ·rename_i mv
   split at he
   ·rename_i m em
    have hml : m ≤ len := zaW (Nat.le_refl _) em
    have em' : zan ccap ccap (some mv) = some m := by
     unfold zan at em ⊢
     split at em
     ·rename_i heq; cases heq
     ·rename_i heq; cases heq
      split at em
      ·rename_i hh2; rw [if_pos (by omega)]; exact em
      ·cases em
     ·cases em
    split at he
    ·rename_i hN eh
     split at he
     ·rename_i l el
      have hlh : l ≤ hN := zaW (Nat.zero_le _) el
      split at he
      ·rename_i hle
       simp at he; subst he
       refine ⟨_, key _ len ccap l hN m em' eh el, pl, m - l, ?_, by omega, by omega, by simp, rf, by simp⟩
       split
       ·simp
       ·simp [Addr.add_off, Nat.add_assoc]
      ·cases he
     ·cases he
    ·cases he
   ·cases he
 ·cases he
theorem znc (hr : Rel W0 μ h w) {t e : TypeId} {sz : Nat} (hu : P.underlying t = some (.slice e)) (hs : szOf P e = some sz) (hs0 : sz ≠ 0) {x y v : V} {cx cy : Value} (hx : VR μ h x cx) (hy : VR μ h y cy)
  (he : (zay sz none (some y) none x).or (zi7 h.get sz y x) = some v) : ∃ c, (Instr.sliceAt t cx none (some cy) none).run P w = .ok c w ∧ VR μ h v c := by
 cases e1 : zay sz none (some y) none x with
 | some v' =>
  rw [e1, Option.some_or] at he
  cases he
  exact zfx (lo := none) (hi := some y) (mx := none) (cl := none) (ch := some cy) (cm := none) hu hs hs0 hx trivial hy trivial (fun h => absurd rfl h) e1
 | none =>
  rw [e1, Option.none_or] at he
  unfold zi7 at he
  split at he
  ·rename_i i n off len
   split at he
   ·rename_i kk k sz' cs ho
    split at he
    ·rename_i hc
     obtain ⟨⟨rfl, rfl, hn⟩, hk0, hkn⟩ := hc
     cases he
     obtain ⟨pl, ccap, rfl, l1, l2, _, rf, ht⟩ := hx
     have hy' : cy = .int kk k := hy
     subst hy'
     have htot := ht rfl rfl _ ho hn hs0
     simp only [O.sz] at htot
     obtain ⟨o', ho', hle, hpl⟩ := rf
     have hoo : o' = .grow sz' cs := Option.some.inj (ho'.symm.trans ho)
     subst hoo
     have hpl' : μ i = pl := hpl (by simpa [O.len, O.cells] using hn)
     obtain ⟨_, _, cur, _, _, _, hvs, hsz, _⟩ := hr.obj i _ ho
     have hcl := hvs.length
     rw [List.length_take] at hcl
     have hct : cur.toList.length = ccap * sz' := by rw [Array.length_toList, hsz, hpl', htot]
     rw [hct] at hcl
     have hle2 : cs.length ≤ ccap * sz' := by omega
     have hkc : k.toNat ≤ ccap := Nat.le_of_mul_le_mul_right (Nat.le_trans hkn (by rw [<- hn]; exact hle2)) (Nat.pos_of_ne_zero hs0)
     have eh : zan len ccap (some (.int kk k)) = some k.toNat := by
      simp only [zan]
      rw [if_pos (by omega)]
     have hb := zdG (P := P) (w := w) (isSlice := true) (lo := none) (hi := some (.int kk k)) (mx := none) (cl := none) (ch := some (.int kk k)) (cm := none) (μ := μ) (h := h) trivial rfl trivial (fun h => absurd rfl h) (show zan ccap ccap none = some ccap from rfl) eh (show zan 0 k.toNat none = some 0 from rfl)
     refine ⟨.slice (some ⟨pl.blk, pl.base + 0, none⟩) k.toNat ccap, ?_, pl, ccap, rfl, hkc, l2, by simp, ⟨_, ho, hle, hpl⟩, fun _ _ => ht rfl rfl⟩
     simp [Instr.sliceAt, Instr.slice, run_underlying hu, hb, zau hs, Addr.add_off]
    ·cases he
   ·cases he
  ·cases he
end Go.Am
