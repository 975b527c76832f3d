/-
 AM, PART 4. The operations that do not zbD the heap, or lay a new block, one by one.
-/
import Derived.Test.YtpgcodeckphanaaGreatDoorIAm3
import Derived.WalkLawsBesides
namespace Go.Am

variable {P : Program} {W0 : World} {μ : Nat -> Pl} {h : H} {w : World}

structure Env (μ : Nat -> Pl) (h : H) (tm : Nat -> V) (ρ : Operand -> Value) : Prop where
 t : ∀ k, VR μ h (tm k) (ρ (.tmp k))
 c : ∀ v, ρ (.const v) = v
 f : ∀ g, ρ (.func g) = .func (.func g) #[] #[]
 g : ∀ g, ρ (.global g) = .pointer (some ⟨g, 0, none⟩)

theorem Env.arg {tm : Nat -> V} {ρ : Operand -> Value} (E : Env μ h tm ρ) {x : Operand} {a : A} (e : zag x = some a) : VR μ h (a.ev tm) (ρ x) := by
 cases x with
 | tmp t => simp [zag] at e; subst e; exact E.t t
 | const v =>
  simp only [zag] at e
  cases hv : zeQ v with
  | none => simp [hv] at e
  | some u => simp [hv] at e; subst e; rw [E.c]; exact zfD hv
 | func f => simp [zag] at e; subst e; rw [E.f]; exact ⟨[], [], rfl, VRs.nil, VRs.nil⟩
 | global g => simp [zag] at e; subst e; rw [E.g]; rfl
theorem Env.args {tm : Nat -> V} {ρ : Operand -> Value} (E : Env μ h tm ρ) : ∀ {xs : List Operand} {as : List A}, xs.mapM zag = some as -> VRs μ h (as.map (·.ev tm)) (xs.map ρ)
 | [], as, e => by simp at e; subst e; exact VRs.nil
 | x :: xs, as, e => by
  simp only [List.mapM_cons, Option.bind_eq_bind, Option.pure_def] at e
  cases h1 : zag x with
  | none => simp [h1] at e
  | some a =>
   cases h2 : xs.mapM zag with
   | none => simp [h1, h2] at e
   | some as' => simp [h1, h2] at e; subst e; exact .cons (E.arg h1) (E.args h2)

theorem zlN {op : BinOp} {k k' : IntKind} {a b : Int} {v : V} (e : zcT op k a b = some v) : ∃ c, (Op.shift op k a k' b).run P w = .ok c w ∧ VR μ h v c := by
 unfold zcT at e
 split at e
 ·cases e
 ·rename_i hb
  simp only [Op.shift, hb, if_false]
  split at e <;> simp at e <;> subst e <;> exact ⟨_, rfl, rfl⟩
theorem zeP {op : BinOp} {k : IntKind} {a b n : Int} (e : zep op k a b = some n) : (Op.intBits op k a b).run P w = .ok (.int k n) w := by
 unfold zep at e
 split at e <;> first | (simp only [Option.some.injEq] at e; subst e; rfl) | cases e
theorem zo8 {t : TypeId} {op : BinOp} {k : IntKind} {a b : Int} {v : V} (hs : zc2 op = false) (e : intV op k a b = some v) : ∃ c, (binOp op t (.int k a) (.int k b)).run P w = .ok c w ∧ VR μ h v c := by
 cases op <;> simp only [zc2, Bool.true_eq_false] at hs <;> simp only [intV] at e
 case add => simp at e; subst e; exact ⟨_, by simp [binOp, Op.intArith], rfl⟩
 case sub => simp at e; subst e; exact ⟨_, by simp [binOp, Op.intArith], rfl⟩
 case mul => simp at e; subst e; exact ⟨_, by simp [binOp, Op.intArith], rfl⟩
 case quo =>
  split at e
  ·cases e
  ·rename_i hb; simp at e; subst e; exact ⟨_, by simp [binOp, Op.intDiv, hb], rfl⟩
 case rem =>
  split at e
  ·cases e
  ·rename_i hb; simp at e; subst e; exact ⟨_, by simp [binOp, Op.intDiv, hb], rfl⟩
 case and =>
  cases hb : zep .and k a b with
  | none => simp [hb] at e
  | some n => simp [hb] at e; subst e; exact ⟨_, by simp [binOp, zeP hb], rfl⟩
 case or =>
  cases hb : zep .or k a b with
  | none => simp [hb] at e
  | some n => simp [hb] at e; subst e; exact ⟨_, by simp [binOp, zeP hb], rfl⟩
 case xor =>
  cases hb : zep .xor k a b with
  | none => simp [hb] at e
  | some n => simp [hb] at e; subst e; exact ⟨_, by simp [binOp, zeP hb], rfl⟩
 case andNot =>
  cases hb : zep .andNot k a b with
  | none => simp [hb] at e
  | some n => simp [hb] at e; subst e; exact ⟨_, by simp [binOp, zeP hb], rfl⟩
 case eql => simp at e; subst e; exact ⟨_, by simp [binOp, Op.intCmp], rfl⟩
 case neq => simp at e; subst e; exact ⟨_, by simp [binOp, Op.intCmp], rfl⟩
 case lss => simp only [Option.some.injEq] at e; subst e; exact ⟨.bool (decide (a < b)), by simp [binOp, Op.intCmp], rfl⟩
 case leq => simp only [Option.some.injEq] at e; subst e; exact ⟨.bool (decide (a ≤ b)), by simp [binOp, Op.intCmp], rfl⟩
 case gtr => simp only [Option.some.injEq] at e; subst e; exact ⟨.bool (decide (b < a)), by simp [binOp, Op.intCmp], rfl⟩
 case geq => simp only [Option.some.injEq] at e; subst e; exact ⟨.bool (decide (b ≤ a)), by simp [binOp, Op.intCmp], rfl⟩

theorem zdy (l : List UInt8) : (ByteArray.mk l.toArray).size = l.length := by simp [ByteArray.size]
theorem zkc (a b : List UInt8) : ByteArray.mk a.toArray ++ ByteArray.mk b.toArray = ByteArray.mk (a ++ b).toArray := by
 apply ByteArray.ext
 simp

theorem zp6 {t : TypeId} {op : BinOp} {a b : List UInt8} {v : V} (e : strV op a b = some v) : ∃ c, (binOp op t (.string ⟨a.toArray⟩) (.string ⟨b.toArray⟩)).run P w = .ok c w ∧ VR μ h v c := by
 have hb : ∀ op', op' = op -> (binOp op' t (.string ⟨a.toArray⟩) (.string ⟨b.toArray⟩)) = Op.stringOp op' ⟨a.toArray⟩ ⟨b.toArray⟩ := by
  intro op' _; cases op' <;> rfl
 rw [hb op rfl]
 cases op <;> simp only [strV] at e
 case add =>
  split at e
  ·rename_i hl
   simp at e; subst e
   refine ⟨_, ?_, rfl⟩
   have hm : IntKind.max .i64 = 9223372036854775807 := by rfl
   simp only [Op.stringOp, zdy, Sem.run_ite, hm]
   rw [if_neg (by omega)]
   simp [zkc]
  ·cases e
 all_goals (simp at e)
 all_goals (subst e; exact ⟨_, rfl, by simp [VR, ByteArray.toList_mk]⟩)

theorem zeU {op : BinOp} {t : TypeId} {x y : Operand} {k k' : IntKind} {a b : Int} : (eqGuard op t x y (.int k a) (.int k' b)).run P w = .ok () w := by
 cases op <;> rfl
theorem zhx {op : BinOp} {t : TypeId} {x y : Operand} {a b : ByteArray} : (eqGuard op t x y (.string a) (.string b)).run P w = .ok () w := by
 cases op <;> rfl

theorem zpA {op : BinOp} {t : TypeId} {x y : Operand} {u1 u2 v : V} {c1 c2 : Value} (h1 : VR μ h u1 c1) (h2 : VR μ h u2 c2) (e : binV op u1 u2 = some v) :
  ∃ c, (eqGuard op t x y c1 c2).run P w = .ok () w ∧ (binOp op t c1 c2).run P w = .ok c w ∧ VR μ h v c := by
 unfold binV at e
 split at e
 ·rename_i k a k' b
  simp only [VR] at h1 h2
  subst h1 h2
  split at e
  ·rename_i hs
   obtain ⟨c, hc, hv⟩ := zlN (P := P) (w := w) (μ := μ) (h := h) (k' := k') e
   refine ⟨c, zeU, ?_, hv⟩
   cases op <;> simp [zc2] at hs <;> exact hc
  ·rename_i hs
   split at e
   ·rename_i hk
    subst hk
    obtain ⟨c, hc, hv⟩ := zo8 (P := P) (w := w) (μ := μ) (h := h) (t := t) (by simpa using hs) e
    exact ⟨c, zeU, hc, hv⟩
   ·cases e
 ·rename_i a b
  simp only [VR] at h1 h2
  subst h1 h2
  obtain ⟨c, hc, hv⟩ := zp6 (P := P) (w := w) (μ := μ) (h := h) (t := t) e
  exact ⟨c, zhx, hc, hv⟩
 ·cases e

theorem zrt {op : UnOp} {u v : V} {c : Value} (h1 : VR μ h u c) (e : unV op u = some v) : ∃ c', (Op.unary op c).run P w = .ok c' w ∧ VR μ h v c' := by
 unfold unV at e
 split at e
 ·rename_i k n
  simp only [VR] at h1; subst h1
  split at e
  ·simp only [Option.some.injEq] at e; subst e; exact ⟨_, by simp only [Op.unary, Op.intArith]; rfl, rfl⟩
  ·cases hb : zep .xor k (if k.signed then -1 else k.max) n with
   | none => simp [hb] at e
   | some m => simp [hb] at e; subst e; exact ⟨_, by simp only [Op.unary]; exact zeP hb, rfl⟩
  ·cases e
 ·simp only [VR] at h1; subst h1
  split at e
  ·simp at e; subst e; exact ⟨_, rfl, rfl⟩
  ·cases e
 ·cases e

theorem zdZ {t : TypeId} {agg : Bool} {off sz : Nat} (ha : zcD P t = some agg) (hs : szOf P t = some sz) {xs : List V} {cs : List Value} (hv : VRs μ h xs cs) {v : V} (e : zb0 agg off sz xs = some v) :
  ∃ c, (part t cs.toArray off).run P w = .ok c w ∧ VR μ h v c := by
 unfold zb0 at e
 cases agg with
 | true =>
  simp at e; subst e
  refine ⟨.agg ((cs.drop off).take sz).toArray, ?_, _, rfl, (hv.drop off).take sz⟩
  simp [part, zcm ha, zau hs, List.extract_toArray, List.extract_eq_take_drop]
 | false =>
  simp only [Bool.false_eq_true, if_false] at e
  obtain ⟨c, hc, hr⟩ := hv.get e
  exact ⟨c, by simp [part, zcm ha, hc], hr⟩

theorem ze4 {d : Nat} {xs ys : List V} {cx cy : List Value} (hx : VRs μ h xs cx) (hy : VRs μ h ys cy) (n : Nat)
  (ih : ∀ t ts x y c1 c2 b, tsOf P d t = some ts -> VR μ h x c1 -> VR μ h y c2 -> eqV ts x y = some b -> (Op.equalIn n t c1 c2).run P w = .ok b w) :
  ∀ (fs : List Field) (tf : List (Nat × Nat × Bool × TS)) (b : Bool),
   (fs.mapM fun f => if f.name = "_" then none else do
    let ts <- tsOf P d f.type
    let sz <- szOf P f.type
    let agg <- zcD P f.type
    pure (f.offset, sz, agg, ts)) = some tf -> eqFs tf xs ys = some b -> (Op.eqFields n cx.toArray cy.toArray fs).run P w = .ok b w
 | [], tf, b, e, e2 => by simp at e; subst e; simp [eqFs] at e2; subst e2; simp [Op.eqFields]
 | f :: fs, tf, b, e, e2 => by
  simp only [List.mapM_cons, Option.bind_eq_bind, Option.pure_def] at e
  by_cases hn : f.name = "_"
  ·simp [hn] at e
  ·simp only [hn, if_false] at e
   cases ht : tsOf P d f.type with
   | none => simp [ht] at e
   | some ts =>
    cases hs : szOf P f.type with
    | none => simp [ht, hs] at e
    | some sz =>
     cases ha : zcD P f.type with
     | none => simp [ht, hs, ha] at e
     | some agg =>
      simp only [ht, hs, ha, Option.bind_some] at e
      cases hr : (fs.mapM fun f => if f.name = "_" then none else (tsOf P d f.type).bind fun ts => (szOf P f.type).bind fun sz => (zcD P f.type).bind fun agg => some (f.offset, sz, agg, ts)) with
      | none => simp [hr] at e
      | some tf' =>
       simp [hr] at e
       subst e
       simp only [eqFs] at e2
       split at e2
       ·rename_i x y hpx hpy
        obtain ⟨c1, hc1, v1⟩ := zdZ (P := P) (w := w) ha hs hx hpx
        obtain ⟨c2, hc2, v2⟩ := zdZ (P := P) (w := w) ha hs hy hpy
        simp only [Op.eqFields, ne_eq, hn, not_false_eq_true, if_true, Sem.run_bind, hc1, hc2, Result.andThen_ok]
        split at e2
        ·rename_i he
         have h3 := ih f.type ts x y c1 c2 true ht v1 v2 he
         simp only [h3, Result.andThen_ok, Bool.not_true, Bool.false_eq_true, if_false]
         exact ze4 hx hy n ih fs tf' b (by simpa using hr) e2
        ·rename_i he
         have h3 := ih f.type ts x y c1 c2 false ht v1 v2 he
         simp at e2; subst e2
         simp [h3]
        ·cases e2
       ·cases e2

theorem zeK {d : Nat} {t : TypeId} {ts : TS} (e : tsOf P (d + 1) t = some ts) : match ts with
  | .bool => P.underlying t = some .bool
  | .int => ∃ k, P.underlying t = some (.int k)
  | .str => P.underlying t = some .string
  | .ptr => ∃ a, P.underlying t = some (.pointer a)
  | .sl => ∃ a, P.underlying t = some (.slice a)
  | .map => ∃ a b, P.underlying t = some (.map a b)
  | .func => ∃ a b c, P.underlying t = some (.func a b c)
  | .iface => ∃ a, P.underlying t = some (.interface a)
  | .ifc _ => False
  | .st tf => ∃ fs, P.underlying t = some (.struct fs) ∧ P.stoodInHeld t = false ∧ P.eqGuardType P.depth t = false ∧ (fs.toList.mapM fun f => if f.name = "_" then none else do
    let ts <- tsOf P d f.type
    let sz <- szOf P f.type
    let agg <- zcD P f.type
    pure (f.offset, sz, agg, ts)) = some tf := by
 simp only [tsOf] at e
 split at e
 case h_9 fs hu =>
  split at e
  ·cases e
  ·rename_i hg
   simp only [Bool.or_eq_true, not_or, Bool.not_eq_true] at hg
   cases hf : (fs.toList.mapM fun f => if f.name = "_" then none else do
     let ts <- tsOf P d f.type
     let sz <- szOf P f.type
     let agg <- zcD P f.type
     pure (f.offset, sz, agg, ts)) with
   | none => rw [hf] at e; simp at e
   | some tf =>
    rw [hf] at e
    simp only [Option.map_some, Option.some.injEq] at e
    subst e
    exact ⟨fs, hu, hg.1, hg.2, hf⟩
 all_goals first
  | (cases e; done)
  | (rename_i hu; cases e; first | exact hu | exact ⟨_, hu⟩ | exact ⟨_, _, hu⟩ | exact ⟨_, _, _, hu⟩)

theorem zmH (d : Nat) : ∀ (t : TypeId) (ts : TS) (x y : V) (c1 c2 : Value) (b : Bool) (n : Nat), d ≤ n -> tsOf P d t = some ts -> VR μ h x c1 -> VR μ h y c2 -> eqV ts x y = some b ->
  (Op.equalIn n t c1 c2).run P w = .ok b w := by
 induction d with
 | zero => intro t ts _ _ _ _ _ _ _ e; simp [tsOf] at e
 | succ d ihd =>
  intro t ts x y c1 c2 b n hn e hx hy he
  obtain ⟨m, rfl⟩ : ∃ m, n = m + 1 := ⟨n - 1, by omega⟩
  have hi := zeK e
  unfold eqV at he
  split at he
  case h_23 tf xs ys =>
   obtain ⟨fs, hu, hg, _, hf⟩ := hi
   obtain ⟨cx, rfl, hx⟩ := hx
   obtain ⟨cy, rfl, hy⟩ := hy
   have hfo : P.fieldsOf t = fs := by simp [Program.fieldsOf, hu]
   rw [run_equalIn_struct w m t _ _ (by rw [hfo]; exact hu) hg, hfo]
   exact ze4 hx hy m (fun t' ts' x' y' c1' c2' b' ht' hx' hy' he' => ihd t' ts' x' y' c1' c2' b' m (by omega) ht' hx' hy' he') fs.toList tf b hf he
  case h_2 =>
   obtain ⟨k, hu⟩ := hi
   split at he
   ·rename_i hk; subst hk; cases he; simp only [VR] at hx hy; subst hx hy
    exact run_equalIn_int w m t _ _ _ _ hu
   ·cases he
  case h_24 => exact hi.elim
  case h_25 => exact hi.elim
  case h_26 => exact hi.elim
  case h_27 => cases he
  all_goals (cases he; simp only [VR] at hx hy)
  case h_1 => subst hx hy; exact run_equalIn_bool' w m t _ _ hi
  case h_3 => subst hx hy; rw [run_equalIn_string w m t _ _ hi]; simp [ByteArray.toList_mk]
  case h_4 => obtain ⟨_, hu⟩ := hi; subst hx hy; simp [Op.equalIn, run_underlying hu]
  case h_5 => obtain ⟨_, hu⟩ := hi; obtain ⟨_, rfl, _⟩ := hy; subst hx; simp [Op.equalIn, run_underlying hu]
  case h_6 => obtain ⟨_, hu⟩ := hi; obtain ⟨_, rfl, _⟩ := hx; subst hy; simp [Op.equalIn, run_underlying hu]
  case h_7 => obtain ⟨_, hu⟩ := hi; subst hx hy; simp [Op.equalIn, run_underlying hu]
  case h_8 => obtain ⟨_, hu⟩ := hi; subst hx hy; simp [Op.equalIn, run_underlying hu]
  case h_9 => obtain ⟨_, hu⟩ := hi; subst hx hy; simp [Op.equalIn, run_underlying hu]
  case h_10 => obtain ⟨_, hu⟩ := hi; obtain ⟨_, _, rfl, _⟩ := hy; subst hx; simp [Op.equalIn, run_underlying hu]
  case h_11 => obtain ⟨_, hu⟩ := hi; obtain ⟨_, _, rfl, _⟩ := hy; subst hx; simp [Op.equalIn, run_underlying hu]
  case h_12 => obtain ⟨_, hu⟩ := hi; obtain ⟨_, _, rfl, _⟩ := hx; subst hy; simp [Op.equalIn, run_underlying hu]
  case h_13 => obtain ⟨_, hu⟩ := hi; obtain ⟨_, _, rfl, _⟩ := hx; subst hy; simp [Op.equalIn, run_underlying hu]
  case h_14 => obtain ⟨_, _, hu⟩ := hi; subst hx hy; simp [Op.equalIn, run_underlying hu]
  case h_15 => obtain ⟨_, _, hu⟩ := hi; obtain ⟨_, rfl, _⟩ := hy; subst hx; simp [Op.equalIn, run_underlying hu]
  case h_16 => obtain ⟨_, _, hu⟩ := hi; obtain ⟨_, rfl, _⟩ := hx; subst hy; simp [Op.equalIn, run_underlying hu]
  case h_17 => obtain ⟨_, _, _, hu⟩ := hi; subst hx hy; simp [Op.equalIn, run_underlying hu]
  case h_18 => obtain ⟨_, _, _, hu⟩ := hi; obtain ⟨_, _, rfl, _⟩ := hy; subst hx; simp [Op.equalIn, run_underlying hu]
  case h_19 => obtain ⟨_, _, _, hu⟩ := hi; obtain ⟨_, _, rfl, _⟩ := hx; subst hy; simp [Op.equalIn, run_underlying hu]
  case h_20 => obtain ⟨_, hu⟩ := hi; subst hx hy; simp [Op.equalIn, run_underlying hu]
  case h_21 => obtain ⟨_, hu⟩ := hi; obtain ⟨_, rfl, _⟩ := hy; subst hx; simp [Op.equalIn, run_underlying hu]
  case h_22 => obtain ⟨_, hu⟩ := hi; obtain ⟨_, rfl, _⟩ := hx; subst hy; simp [Op.equalIn, run_underlying hu]
end Go.Am
