/-
 AM, PART 6b. Maps with plain keys; copy; clear.
-/
import Derived.Test.YtpgcodeckphanaaGreatDoorIAm6
import Derived.MapKept
import Derived.WideKeyRuns
namespace Go.Am
open Go.MapKept

variable {P : Program} {W0 : World} {μ : Nat -> Pl} {h : H} {w : World}

theorem zgN {t : TypeId} {kd : KD} (hp : kd.isSt = false) (e : kdOf P t = some kd) : P.underlying t = some kd.desc := by
 unfold kdOf at e
 split at e <;> first | (rename_i hu; cases e; exact hu) | skip
 ·split at e
  ·cases hq : zdE _ with
   | none => rw [hq] at e; cases e
   | some n => rw [hq] at e; cases e; cases hp
  ·cases e
 ·cases e
theorem zjL {t : TypeId} {ts : TS} {n : Nat} (e : kdOf P t = some (.st ts n)) : (∃ fs, P.underlying t = some (.struct fs)) ∧ tsOf P 20 t = some ts ∧ zdE ts = some n := by
 unfold kdOf at e
 split at e <;> try (cases e; done)
 rename_i fs hu
 split at e
 ·rename_i ts' hts
  cases hq : zdE ts' with
  | none => rw [hq] at e; cases e
  | some m =>
   rw [hq] at e
   simp only [Option.map_some, Option.some.injEq, KD.st.injEq] at e
   obtain ⟨rfl, rfl⟩ := e
   exact ⟨⟨fs, hu⟩, hts, hq⟩
 ·cases e
theorem zhm {kd : KD} (hp : kd.isSt = false) {k : V} {c : Value} (e : zbB kd k = true) (v : VR μ h k c) : IsKey kd.desc c := by
 unfold zbB at e
 split at e
 ·simp only [VR] at v; subst v; simpa [IsKey, KD.desc] using e
 ·simp only [VR] at v; subst v; trivial
 ·simp only [VR] at v; subst v; trivial
 ·cases hp
 ·cases e
theorem zfy (a b : List UInt8) : ((⟨a.toArray⟩ : ByteArray) == ⟨b.toArray⟩) = (a == b) := by
 rw [Bool.eq_iff_iff, bytes_beq]
 simp
theorem zje {kd : KD} (hp : kd.isSt = false) {k k' : V} {c c' : Value} (e : zbB kd k = true) (e' : zbB kd k' = true) (v : VR μ h k c) (v' : VR μ h k' c') : Instr.sameNow kd.desc c c' = some (zgU k k') ∧ (zgU k k' = true -> c = c') := by
 unfold zbB at e
 split at e
 ·unfold zbB at e'
  split at e' <;> simp_all [KD.desc, Instr.sameNow, zgU, VR]
 ·unfold zbB at e'
  split at e' <;> simp_all [KD.desc, Instr.sameNow, zgU, VR, zfy]
 ·unfold zbB at e'
  split at e' <;> simp_all [KD.desc, Instr.sameNow, zgU, VR]
 ·cases hp
 ·cases e
theorem zhO {kd : KD} (hp : kd.isSt = false) (k : V) (e : V × V) (es : List (V × V)) (i : Nat) : zb2 kd k (e :: es) i = if zbB kd e.1 then (if zgU k e.1 then some (some (i, e.2)) else zb2 kd k es (i + 1)) else none := by
 cases kd <;> first | rfl | cases hp

theorem zgO {kd : KD} (hp : kd.isSt = false) {k : V} {c : Value} (e : zbB kd k = true) (v : VR μ h k c) : ∀ (es : List (V × V)) (ces : List MapEntry) (i : Nat) (r : Option (Nat × V)), VRs μ h (es.map (·.1)) (ces.map (·.key)) -> VRs μ h (es.map (·.2)) (ces.map (·.val)) -> zb2 kd k es i = some r ->
  (r = none ∧ Instr.findNow kd.desc c ces i = some none) ∨ ∃ j vv ce, r = some (i + j, vv) ∧ Instr.findNow kd.desc c ces i = some (some (i + j, ce.val)) ∧ ces[j]? = some ce ∧ ce.key = c ∧ VR μ h vv ce.val ∧ j < es.length
 | [], ces, i, r, hk, hv, hf => by
  simp only [List.map_nil, VRs, List.map_eq_nil_iff] at hk
  subst hk
  simp only [zb2, Option.some.injEq] at hf; subst hf
  exact .inl ⟨rfl, rfl⟩
 | x :: es, ces, i, r, hk, hv, hf => by
  cases ces with
  | nil => obtain ⟨_, _, h0, _⟩ := hk; cases h0
  | cons ce ces =>
   obtain ⟨ck, cks, h0, hk1, hk2⟩ := hk
   obtain ⟨cv, cvs, h1, hv1, hv2⟩ := hv
   simp only [List.map_cons, List.cons.injEq] at h0 h1
   obtain ⟨rfl, rfl⟩ := h0
   obtain ⟨rfl, rfl⟩ := h1
   rw [zhO hp] at hf
   split at hf
   ·rename_i hko
    obtain ⟨hs, heq⟩ := zje hp e hko v hk1
    split at hf
    ·rename_i hke
     simp only [Option.some.injEq] at hf; subst hf
     rw [hke] at hs
     exact .inr ⟨0, x.2, ce, rfl, by simp [Instr.findNow, hs], rfl, (heq hke).symm, hv1, by simp⟩
    ·rename_i hke
     have hke' : zgU k x.1 = false := by simpa using hke
     rw [hke'] at hs
     rcases zgO hp e v es ces (i + 1) r hk2 hv2 hf with ⟨rfl, h2⟩ | ⟨j, vv, ce', rfl, h2, h3, h4, h5, h6⟩
     ·exact .inl ⟨rfl, by simp [Instr.findNow, hs, h2]⟩
     ·exact .inr ⟨j + 1, vv, ce', by congr 2; omega, by simp [Instr.findNow, hs, h2]; omega, by simpa using h3, h4, h5, by simp; omega⟩
   ·cases hf

theorem zj8 {v : V} {c c' : Value} (hp : v.plain = true) (a : VR μ h v c) (b : VR μ h v c') : c = c' := by
 cases v <;> simp only [V.plain, Bool.false_eq_true] at hp <;> simp only [VR] at a b <;> rw [a, b]
theorem zfv : ∀ {vs : List V} {cs cs' : List Value}, vs.all V.plain = true -> VRs μ h vs cs -> VRs μ h vs cs' -> cs = cs'
 | [], cs, cs', _, a, b => by simp only [VRs] at a b; rw [a, b]
 | v :: vs, cs, cs', hp, a, b => by
  obtain ⟨c, cs1, rfl, a1, a2⟩ := a
  obtain ⟨d, ds1, rfl, b1, b2⟩ := b
  simp only [List.all_cons, Bool.and_eq_true] at hp
  rw [zj8 hp.1 a1 b1, zfv hp.2 a2 b2]
theorem zdb {v : V} {c : Value} (hp : v.plain = true) (a : VR μ h v c) (n : Nat) : Instr.sameBits n c c = true := by
 cases v <;> simp only [V.plain, Bool.false_eq_true] at hp <;> simp only [VR] at a <;> subst a <;> cases n <;> simp [Instr.sameBits, zfy]
theorem zfg : ∀ {vs : List V} {cs : List Value}, vs.all V.plain = true -> VRs μ h vs cs -> ∀ n, ((cs.zip cs).all fun x => Instr.sameBits n x.1 x.2) = true
 | [], cs, _, a, n => by simp only [VRs] at a; subst a; rfl
 | v :: vs, cs, hp, a, n => by
  obtain ⟨c, cs1, rfl, a1, a2⟩ := a
  simp only [List.all_cons, Bool.and_eq_true] at hp
  simp only [List.zip_cons_cons, List.all_cons, zdb hp.1 a1 n, Bool.true_and]
  exact zfg hp.2 a2 n
theorem zgk {ts : TS} {n : Nat} {k : V} (e : zbB (.st ts n) k = true) : ∃ cs, k = .agg cs ∧ zbX ts (.agg cs) = true ∧ cs.all V.plain = true ∧ cs.length = n := by
 cases k <;> simp only [zbB, Bool.and_eq_true, decide_eq_true_eq, Bool.false_eq_true] at e
 exact ⟨_, rfl, e.1.1, e.1.2, e.2⟩
theorem zkv {kd : KD} {k : V} {c : Value} (e : zbB kd k = true) (v : VR μ h k c) : (Instr.keyThatStays c c).run P w = .ok c w := by
 have hs : Instr.sameBits 10000 c c = true := by
  unfold zbB at e
  split at e
  ·exact zdb rfl v _
  ·exact zdb rfl v _
  ·exact zdb rfl v _
  ·simp only [Bool.and_eq_true] at e
   obtain ⟨cs, rfl, hv⟩ := v
   have := zfg e.1.2 hv 9999
   simp only [Instr.sameBits, beq_self_eq_true, Bool.true_and]
   simpa using this
  ·cases e
 simp [Instr.keyThatStays, hs]
theorem zhB (d : Nat) : ∀ (em : Bool) (t : TypeId) (ts : TS) (x : V) (c : Value) (n : Nat), d ≤ n -> tsOf P d t = some ts -> VR μ h x c -> zbX ts x = true -> (Instr.checkKey em n t c).run P w = .ok () w := by
 induction d with
 | zero => intro em t ts _ _ _ _ e; simp [tsOf] at e
 | succ d ihd =>
  intro em t ts x c n hn e hx he
  obtain ⟨m, rfl⟩ : ∃ m, n = m + 1 := ⟨n - 1, by omega⟩
  have hi := zeK e
  unfold zbX at he
  split at he
  ·simp only [VR] at hx; subst hx; simp [Instr.checkKey, run_underlying hi]
  ·obtain ⟨k, hu⟩ := hi; simp only [VR] at hx; subst hx; simp [Instr.checkKey, run_underlying hu]
  ·simp only [VR] at hx; subst hx; simp [Instr.checkKey, run_underlying hi]
  ·obtain ⟨fs, hu, _, _, hf⟩ := hi
   obtain ⟨cx, rfl, hx⟩ := hx
   rw [Instr.checkKey]
   simp only [Sem.run_bind, run_underlying hu, Result.andThen_ok]
   rw [<- Array.forIn_toList]
   have hf' : (fs.toList.mapM fun f => if f.name = "_" then none else (tsOf P d f.type).bind fun ts => (szOf P f.type).bind fun sz => (zcD P f.type).bind fun agg => some (f.offset, sz, agg, ts)) = some _ := hf
   clear hf e
   rename_i tf cs _ _
   generalize fs.toList = L at hf' ⊢
   induction L generalizing tf with
   | nil => simp
   | cons f L ih =>
    simp only [List.mapM_cons, Option.bind_eq_bind, Option.pure_def] at hf'
    by_cases hn : f.name = "_"
    ·simp [hn] at hf'
    ·simp only [hn, if_false] at hf'
     cases ht : tsOf P d f.type with
     | none => simp [ht] at hf'
     | some ts =>
      cases hs : szOf P f.type with
      | none => simp [ht, hs] at hf'
      | some sz =>
       cases ha : zcD P f.type with
       | none => simp [ht, hs, ha] at hf'
       | some agg =>
        simp only [ht, hs, ha, Option.bind_some] at hf'
        cases hr : (L.mapM fun f => if f.name = "_" then none else (tsOf P d f.type).bind fun ts => (szOf P f.type).bind fun sz => (zcD P f.type).bind fun agg => some (f.offset, sz, agg, ts)) with
        | none => simp [hr] at hf'
        | some tf' =>
         simp [hr] at hf'
         subst hf'
         simp only [zd3] at he
         split at he
         ·rename_i x hpx
          simp only [Bool.and_eq_true] at he
          obtain ⟨c1, hc1, v1⟩ := zdZ (P := P) (w := w) ha hs hx hpx
          have h3 := ihd em f.type ts x c1 m (by omega) ht v1 he.1
          simp only [List.forIn_cons, Sem.run_bind, hn, ne_eq, not_false_eq_true, if_true, Result.andThen_ok, hc1, h3, Sem.run_pure]
          exact ih tf' he.2 hr
         ·cases he
  ·cases he
mutual
theorem zij : ∀ (ts : TS) (x y : V) (n : Nat), zdE ts = some n -> zbX ts x = true -> zbX ts y = true -> eqV ts x y = some true -> (∀ xs, x = .agg xs -> xs.length = n) -> (∀ ys, y = .agg ys -> ys.length = n) -> x = y
 | .bool, x, y, n, _, hx, hy, he, _, _ => by cases x <;> cases y <;> simp_all [zbX, eqV]
 | .int, x, y, n, _, hx, hy, he, _, _ => by cases x <;> cases y <;> simp_all [zbX, eqV]
 | .str, x, y, n, _, hx, hy, he, _, _ => by cases x <;> cases y <;> simp_all [zbX, eqV]
 | .ptr, _, _, _, ht, _, _, _, _, _ => by simp [zdE] at ht
 | .sl, _, _, _, ht, _, _, _, _, _ => by simp [zdE] at ht
 | .map, _, _, _, ht, _, _, _, _, _ => by simp [zdE] at ht
 | .func, _, _, _, ht, _, _, _, _, _ => by simp [zdE] at ht
 | .iface, _, _, _, ht, _, _, _, _, _ => by simp [zdE] at ht
 | .ifc _, _, _, _, ht, _, _, _, _, _ => by simp [zdE] at ht
 | .st fs, x, y, n, ht, hx, hy, he, lx, ly => by
  cases x with
  | agg xs =>
   cases y with
   | agg ys =>
    simp only [zdE] at ht
    simp only [zbX] at hx hy
    simp only [eqV] at he
    have h1 := lx xs rfl
    have h2 := ly ys rfl
    obtain ⟨_, h3⟩ := zgr fs xs ys 0 n ht hx hy he (by omega) (by omega)
    simp only [List.drop_zero, Nat.sub_zero] at h3
    rw [List.take_of_length_le (by omega), List.take_of_length_le (by omega)] at h3
    rw [h3]
   | _ => simp [zbX] at hy
  | _ => simp [zbX] at hx
theorem zgr : ∀ (fs : List (Nat × Nat × Bool × TS)) (xs ys : List V) (o n : Nat), zg3 fs o = some n -> zd3 fs xs = true -> zd3 fs ys = true -> eqFs fs xs ys = some true -> n ≤ xs.length -> n ≤ ys.length -> o ≤ n ∧ (xs.drop o).take (n - o) = (ys.drop o).take (n - o)
 | [], xs, ys, o, n, ht, _, _, _, _, _ => by
  simp only [zg3, Option.some.injEq] at ht
  subst ht; simp
 | (off, sz, agg, ts) :: fs, xs, ys, o, n, ht, hx, hy, he, lx, ly => by
  simp only [zg3] at ht
  split at ht
  ·rename_i hc
   obtain ⟨h1, rfl, rfl⟩ := hc
   simp only [zd3] at hx hy
   simp only [eqFs] at he
   split at he
   ·rename_i x y hpx hpy
    rw [hpx] at hx
    rw [hpy] at hy
    simp only [Bool.and_eq_true] at hx hy
    split at he
    ·rename_i hq
     obtain ⟨r1, r2⟩ := zgr fs xs ys (off + sz) n ht hx.2 hy.2 he lx ly
     refine ⟨by omega, ?_⟩
     have hxy : x = y := zij ts x y sz h1 hx.1 hy.1 hq
      (fun zs hz => by
       subst hz
       cases ha : ts.isSt with
       | true => rw [ha] at hpx; simp only [zb0, if_true, Option.some.injEq, V.agg.injEq] at hpx; rw [<- hpx]; simp; omega
       | false => cases ts <;> simp_all [TS.isSt, zbX])
      (fun zs hz => by
       subst hz
       cases ha : ts.isSt with
       | true => rw [ha] at hpy; simp only [zb0, if_true, Option.some.injEq, V.agg.injEq] at hpy; rw [<- hpy]; simp; omega
       | false => cases ts <;> simp_all [TS.isSt, zbX])
     have hz : (xs.drop off).take sz = (ys.drop off).take sz := by
      subst hxy
      cases ha : ts.isSt with
      | true =>
       rw [ha] at hpx hpy
       simp only [zb0, if_true, Option.some.injEq] at hpx hpy
       rw [<- hpy] at hpx
       simpa using hpx
      | false =>
       have hs1 : sz = 1 := by cases ts <;> simp_all [TS.isSt, zdE]
       subst hs1
       rw [ha] at hpx hpy
       simp only [zb0, Bool.false_eq_true, if_false] at hpx hpy
       rw [List.take_one, List.take_one, List.head?_drop, List.head?_drop, hpx, hpy]
     have sp : ∀ l : List V, (l.drop off).take (n - off) = (l.drop off).take sz ++ (l.drop (off + sz)).take (n - (off + sz)) := fun l => by
      rw [<- List.drop_drop, <- List.take_add]
      congr 1; omega
     rw [sp xs, sp ys, hz, r2]
    ·cases he
    ·cases he
   ·cases he
  ·cases ht
end
theorem zgR {t : TypeId} {ts : TS} {n : Nat} (ht : tsOf P 20 t = some ts) (hl : zdE ts = some n) {k : V} {c : Value} (e : zbB (.st ts n) k = true) (v : VR μ h k c) : ∀ (es : List (V × V)) (ces : List MapEntry) (i : Nat) (r : Option (Nat × V)), VRs μ h (es.map (·.1)) (ces.map (·.key)) -> VRs μ h (es.map (·.2)) (ces.map (·.val)) -> zb2 (.st ts n) k es i = some r ->
  (r = none ∧ (Instr.findAsking t c ces i).run P w = .ok none w) ∨ ∃ j vv ce, r = some (i + j, vv) ∧ (Instr.findAsking t c ces i).run P w = .ok (some (i + j, ce.val)) w ∧ ces[j]? = some ce ∧ ce.key = c ∧ VR μ h vv ce.val ∧ j < es.length
 | [], ces, i, r, hk, hv, hf => by
  simp only [List.map_nil, VRs, List.map_eq_nil_iff] at hk
  subst hk
  simp only [zb2, Option.some.injEq] at hf; subst hf
  exact .inl ⟨rfl, by simp [Instr.findAsking]⟩
 | x :: es, ces, i, r, hk, hv, hf => by
  cases ces with
  | nil => obtain ⟨_, _, h0, _⟩ := hk; cases h0
  | cons ce ces =>
   obtain ⟨ck, cks, h0, hk1, hk2⟩ := hk
   obtain ⟨cv, cvs, h1, hv1, hv2⟩ := hv
   simp only [List.map_cons, List.cons.injEq] at h0 h1
   obtain ⟨rfl, rfl⟩ := h0
   obtain ⟨rfl, rfl⟩ := h1
   simp only [zb2] at hf
   split at hf
   ·rename_i hko
    have heq : ∀ b, eqV ts k x.1 = some b -> (Op.equal t c ce.key).run P w = .ok b w := fun b hb => zmH 20 t ts k x.1 c ce.key b _ (by decide) ht v hk1 hb
    split at hf
    ·rename_i hke
     simp only [Option.some.injEq] at hf; subst hf
     have hkc : ce.key = c := by
      obtain ⟨cs, rfl, s1, s2, s3⟩ := zgk e
      obtain ⟨cs', hx1, s4, s5, s6⟩ := zgk hko
      have hk1' : VR μ h x.1 ce.key := hk1
      rw [hx1] at hke hk1'
      have hq := zij ts (.agg cs) (.agg cs') n hl s1 s4 hke (fun xs hx => by cases hx; exact s3) (fun xs hx => by cases hx; exact s6)
      cases hq
      obtain ⟨c1, rfl, q1⟩ := v
      obtain ⟨c2, q2', q2⟩ := hk1'
      rw [q2', zfv s2 q1 q2]
     exact .inr ⟨0, x.2, ce, rfl, by simp [Instr.findAsking, heq true hke], rfl, hkc, hv1, by simp⟩
    ·rename_i hke
     rcases zgR ht hl e v es ces (i + 1) r hk2 hv2 hf with ⟨rfl, h2⟩ | ⟨j, vv, ce', rfl, h2, h3, h4, h5, h6⟩
     ·exact .inl ⟨rfl, by simp [Instr.findAsking, heq false hke, h2]⟩
     ·exact .inr ⟨j + 1, vv, ce', by congr 2; omega, by simp [Instr.findAsking, heq false hke, h2]; omega, by simpa using h3, h4, h5, by simp; omega⟩
    ·cases hf
   ·cases hf
theorem zcv {t : TypeId} {kd : KD} (hkd : kdOf P t = some kd) {k : V} {c : Value} (e : zbB kd k = true) (v : VR μ h k c) (em : Bool) : (Instr.checkKey em 10000 t c).run P w = .ok () w := by
 cases hp : kd.isSt with
 | false => exact run_checkKey (zgN hp hkd) (zhm hp e v) em 9999
 | true =>
  cases kd <;> try (cases hp; done)
  rename_i ts n
  obtain ⟨_, h2, h3⟩ := zjL hkd
  obtain ⟨cs, rfl, s1, _⟩ := zgk e
  exact zhB 20 em t ts (.agg cs) c 10000 (by decide) h2 v s1
theorem zda {t : TypeId} {kd : KD} (hkd : kdOf P t = some kd) {k : V} {c : Value} (e : zbB kd k = true) (v : VR μ h k c) (es : List (V × V)) (ces : List MapEntry) (r : Option (Nat × V)) (hk : VRs μ h (es.map (·.1)) (ces.map (·.key))) (hv : VRs μ h (es.map (·.2)) (ces.map (·.val))) (hf : zb2 kd k es 0 = some r) :
  (r = none ∧ (Instr.findKey t c ces).run P w = .ok none w) ∨ ∃ j vv ce, r = some (j, vv) ∧ (Instr.findKey t c ces).run P w = .ok (some (j, ce.val)) w ∧ ces[j]? = some ce ∧ ce.key = c ∧ VR μ h vv ce.val ∧ j < es.length := by
 cases hp : kd.isSt with
 | false =>
  have hd := zgN hp hkd
  rcases zgO hp e v es ces 0 r hk hv hf with ⟨h1, h2⟩ | ⟨j, vv, ce, h1, h2, h3⟩
  ·exact .inl ⟨h1, Go.MapKept.run_findKey hd h2⟩
  ·simp only [Nat.zero_add] at h1 h2
   exact .inr ⟨j, vv, ce, h1, Go.MapKept.run_findKey hd h2, h3⟩
 | true =>
  cases kd <;> try (cases hp; done)
  rename_i ts n
  obtain ⟨⟨fs, hu⟩, h2, h3⟩ := zjL hkd
  have hwide : (match P.underlying t with | some (.array _ _) | some (.struct _) => true | _ => false) = true := by rw [hu]
  rw [run_findKey_eq w hwide]
  rcases zgR (w := w) h2 h3 e v es ces 0 r hk hv hf with ⟨a, b⟩ | ⟨j, vv, ce, a, b, cc⟩
  ·exact .inl ⟨a, b⟩
  ·simp only [Nat.zero_add] at a b
   exact .inr ⟨j, vv, ce, a, b, cc⟩

theorem zcP (hr : Rel W0 μ h w) {i : Nat} {es : List (V × V)} {bs : List Nat} {tk : Nat} (hg : h.get i = some (.mapo es bs tk)) {pl : Pl} (rf : Ref μ h i 0 pl) : μ i = pl ∧ ∃ ces, w.heap[pl.blk]? = some (.map ces tk) ∧ VRs μ h (es.map (·.1)) (ces.toList.map (·.key)) ∧ VRs μ h (es.map (·.2)) (ces.toList.map (·.val)) ∧
  (ces.toList.map (·.born)).Pairwise (· < ·) ∧ (∀ e ∈ ces.toList, e.born < tk) ∧ ces.toList.map (·.born) = bs := by
 obtain ⟨o, ho, _, hm⟩ := rf
 rw [hg] at ho; cases ho
 have := hm rfl
 obtain ⟨_, ces, cl, a, b, c, d, e, rfl, f⟩ := hr.obj i _ hg
 rw [this] at a
 exact ⟨this, ces, a, b, c, d, e, f⟩

theorem znD {t : TypeId} {z : V} (e : zvOf P t = some z) : ∃ c, (zeroValue t).run P w = .ok c w ∧ VR μ h z c := by
 unfold zvOf at e
 cases hi : P.info? t with
 | none => simp [hi] at e
 | some i =>
  cases hz : i.zero with
  | none => simp [hi, hz] at e
  | some c =>
   simp only [hi, hz, Option.bind_some] at e
   exact ⟨c, by simp [zeroValue, typeInfo, hi, hz], zfD e⟩

theorem zkw {t kt et : TypeId} {kd : KD} {zero : V} {ok : Bool} (hu : P.underlying t = some (.map kt et)) (hkd : kdOf P kt = some kd) (hz : zvOf P et = some zero) (hr : Rel W0 μ h w) {x k v : V} {cx ck : Value} (vx : VR μ h x cx) (vk : VR μ h k ck)
  (he : zcw h.get kd zero ok x k = some v) : ∃ c, (Instr.lookup t cx ck ok).run P w = .ok c w ∧ VR μ h v c := by
 obtain ⟨cz, hzr, hzv⟩ := znD (w := w) (μ := μ) (h := h) hz
 unfold zcw at he
 split at he
 ·rename_i hko
  split at he
  ·cases he
  ·rename_i es hes
   have fin : ∀ (ces : Array MapEntry), VRs μ h (es.map (·.1)) (ces.toList.map (·.key)) -> VRs μ h (es.map (·.2)) (ces.toList.map (·.val)) ->
     (Instr.lookup t cx ck ok).run P w = ((Instr.checkKey ces.isEmpty 10000 kt ck).run P w).andThen (fun _ w1 => ((Instr.findKey kt ck ces.toList).run P w1).andThen fun r w2 => match r with
      | some (_, v) => .ok (if ok then .tuple #[v, .bool true] else v) w2
      | none => ((zeroValue et).run P w2).andThen fun z w3 => .ok (if ok then .tuple #[z, .bool false] else z) w3) ->
     ∃ c, (Instr.lookup t cx ck ok).run P w = .ok c w ∧ VR μ h v c := by
    intro ces hks hvs hrun
    rw [hrun, zcv hkd hko vk]
    simp only [Result.andThen_ok]
    split at he
    ·cases he
    ·rename_i j vv hf
     simp only [Option.some.injEq] at he; subst he
     rcases zda (w := w) hkd hko vk es ces.toList _ hks hvs hf with ⟨h1, _⟩ | ⟨j', vv', ce, h1, h2, h3, h4, h5, _⟩
     ·cases h1
     ·simp only [Option.some.injEq, Prod.mk.injEq] at h1
      obtain ⟨rfl, rfl⟩ := h1
      rw [h2]
      simp only [Result.andThen_ok]
      cases ok
      ·exact ⟨_, rfl, h5⟩
      ·exact ⟨_, rfl, [ce.val, .bool true], rfl, .cons h5 (.cons rfl VRs.nil)⟩
    ·rename_i hf
     simp only [Option.some.injEq] at he; subst he
     rcases zda (w := w) hkd hko vk es ces.toList _ hks hvs hf with ⟨_, h2⟩ | ⟨_, _, _, h1, _⟩
     ·rw [h2]
      simp only [Result.andThen_ok, hzr]
      cases ok
      ·exact ⟨_, rfl, hzv⟩
      ·exact ⟨_, rfl, [cz, .bool false], rfl, .cons hzv (.cons rfl VRs.nil)⟩
     ·cases h1
   unfold zcB at hes
   split at hes
   ·simp only [VR] at vx; subst vx
    simp only [Option.some.injEq] at hes; subst hes
    refine fin #[] VRs.nil VRs.nil ?_
    simp only [Instr.lookup, Sem.run_bind, run_underlying hu, Result.andThen_ok, Sem.run_pure]
    congr 1; funext _ w1
    congr 1; funext r w2
    cases r <;> simp
   ·rename_i i
    obtain ⟨pl, rfl, rf⟩ := vx
    split at hes
    ·rename_i es' _ _ hg
     simp only [Option.some.injEq] at hes; subst hes
     obtain ⟨_, ces, hb, hks, hvs, _⟩ := zcP hr hg rf
     refine fin ces hks hvs ?_
     simp only [Instr.lookup, Sem.run_bind, run_underlying hu, Result.andThen_ok, Go.MapKept.run_getObj_map hb, Sem.run_pure]
     congr 1; funext _ w1
     congr 1; funext r w2
     cases r <;> simp
    ·cases hes
   ·cases hes
 ·cases he

theorem ze1 (hr : Rel W0 μ h w) {k i : Nat} {es es' : List (V × V)} {bs bs' : List Nat} {tk : Nat} (hg : h.get i = some (.mapo es bs tk)) {ces' : Array MapEntry} {cl' : Nat} (hk : VRs μ h (es'.map (·.1)) (ces'.toList.map (·.key))) (hv : VRs μ h (es'.map (·.2)) (ces'.toList.map (·.val)))
  (hp : (ces'.toList.map (·.born)).Pairwise (· < ·)) (hc : ∀ e ∈ ces'.toList, e.born < cl') (hbs : ces'.toList.map (·.born) = bs') {w' : World} (hw : w' = { w with heap := w.heap.setIfInBounds (μ i).blk (.map ces' cl') }) : Rel W0 μ (h.appAt k (.set i (.mapo es' bs' cl'))) w' ∧ Ext μ h μ (h.appAt k (.set i (.mapo es' bs' cl'))) := by
 subst hw
 have x : Ext μ h μ (h.set i (.mapo es' bs' cl')) := Ext.set hg rfl rfl
 have hob := hr.obj i _ hg
 obtain ⟨hbase, ces, cl, hb, _⟩ := hob
 have hlt : (μ i).blk < w.heap.size := (Array.getElem?_eq_some_iff.1 hb).1
 have hbel : Below W0.heap.size W0 { w with heap := w.heap.setIfInBounds (μ i).blk (.map ces' cl') } := by
  obtain ⟨⟨a, b, c, d, e⟩, dr⟩ := hr.below
  refine ⟨⟨a, b, c, by simpa using d, fun j hj => ?_⟩, dr⟩
  rw [<- e j hj]
  have : (μ i).blk ≠ j := by omega
  simp [this]
 refine ⟨hr.set hg rfl rfl rfl hbel (by simp) (fun b _ hne => by simp [Ne.symm hne]) ⟨hbase, ces', cl', by simp [hlt], hk.ext x, hv.ext x, hp, hc, rfl, hbs⟩, x⟩

theorem zgW {k0 : Nat} {t kt et : TypeId} {kd : KD} (hu : P.underlying t = some (.map kt et)) (hkd : kdOf P kt = some kd) (hr : Rel W0 μ h w) {x k v : V} {cx ck cv : Value} (vx : VR μ h x cx) (vk : VR μ h k ck) (vv : VR μ h v cv) {d : D}
  (he : zcj h.get kd x k v = some d) : ∃ w', (Instr.mapUpdate t cx ck cv).run P w = .ok () w' ∧ Rel W0 μ (h.appAt k0 d) w' ∧ Ext μ h μ (h.appAt k0 d) ∧ d ≠ .keep := by
 unfold zcj at he
 split at he
 ·rename_i hko
  split at he
  ·rename_i i
   obtain ⟨pl, rfl, rf⟩ := vx
   split at he
   ·rename_i es bs tk hg
    obtain ⟨rfl, ces, hb, hks, hvs, hp, hc, hbs⟩ := zcP hr hg rf
    split at he
    ·cases he
    ·rename_i j vold hf
     simp only [Option.some.injEq] at he; subst he
     rcases zda (w := w) hkd hko vk es ces.toList _ hks hvs hf with ⟨h1, _⟩ | ⟨j', vv', ce, h1, h2, h3, h4, h5, h6⟩
     ·cases h1
     ·simp only [Option.some.injEq, Prod.mk.injEq] at h1
      obtain ⟨h10, rfl⟩ := h1
      obtain rfl : j' = j := h10.symm
      have h3' : ces[j']? = some ce := by simpa using h3
      have hrun : (Instr.mapUpdate t (.map (some (μ i).blk)) ck cv).run P w = .ok () { w with heap := w.heap.setIfInBounds (μ i).blk (.map (ces.modify j' fun e => { e with key := ck, val := cv }) tk) } := by
       simp [Instr.mapUpdate, run_underlying hu, Go.MapKept.run_getObj_map hb, zcv hkd hko vk, h2, h3', h4, zkv hko vk, Go.MapKept.run_setObj_map _ hb]
      have e1 : (ces.modify j' fun e => { e with key := ck, val := cv }).toList = ces.toList.modify j' fun e => { e with key := ck, val := cv } := by simp
      have hset : ∀ (l : List MapEntry) (j : Nat) (ce : MapEntry), l[j]? = some ce -> ce.key = ck -> (l.modify j fun e => { e with key := ck, val := cv }).map (·.key) = (l.map (·.key)).set j ck ∧ (l.modify j fun e => { e with key := ck, val := cv }).map (·.val) = (l.map (·.val)).set j cv ∧ (l.modify j fun e => { e with key := ck, val := cv }).map (·.born) = l.map (·.born) := by
       intro l
       induction l with
       | nil => intro j ce h; simp at h
       | cons a l ih =>
        intro j ce hj hk
        cases j with
        | zero => simp
        | succ j =>
         obtain ⟨a1, a2, a3⟩ := ih j ce (by simpa using hj) hk
         simp [a1, a2, a3]
      obtain ⟨a1, a2, a3⟩ := hset ces.toList j' ce h3 h4
      obtain ⟨b1, b2⟩ := ze1 (k := k0) hr hg (es' := es.set j' (k, v)) (ces' := ces.modify j' fun e => { e with key := ck, val := cv }) (cl' := tk) (bs' := bs)
       (by rw [e1, a1, List.map_set]; exact hks.set j' vk) (by rw [e1, a2, List.map_set]; exact hvs.set j' vv) (by rw [e1, a3]; exact hp)
       (by
        intro e he
        rw [e1] at he
        have : e.born ∈ ces.toList.map (·.born) := by rw [<- a3]; exact List.mem_map_of_mem (f := (·.born)) he
        obtain ⟨e', he', hb'⟩ := List.mem_map.1 this
        rw [<- hb']; exact hc e' he') (by rw [e1, a3]; exact hbs) rfl
      exact ⟨_, hrun, b1, b2, by simp⟩
    ·rename_i hf
     simp only [Option.some.injEq] at he; subst he
     rcases zda (w := w) hkd hko vk es ces.toList _ hks hvs hf with ⟨_, h2⟩ | ⟨_, _, _, h1, _⟩
     ·have hrun : (Instr.mapUpdate t (.map (some (μ i).blk)) ck cv).run P w = .ok () { w with heap := w.heap.setIfInBounds (μ i).blk (.map (ces.push { key := ck, val := cv, born := tk }) (tk + 1)) } := by
       simp [Instr.mapUpdate, run_underlying hu, Go.MapKept.run_getObj_map hb, zcv hkd hko vk, h2, Go.MapKept.run_setObj_map _ hb]
      obtain ⟨b1, b2⟩ := ze1 (k := k0) hr hg (es' := es ++ [(k, v)]) (ces' := ces.push { key := ck, val := cv, born := tk }) (cl' := tk + 1) (bs' := bs ++ [tk])
       (by simpa using hks.append (.cons vk VRs.nil)) (by simpa using hvs.append (.cons vv VRs.nil))
       (by
        simp only [Array.toList_push, List.map_append, List.map_cons, List.map_nil, List.pairwise_append]
        refine ⟨hp, by simp, ?_⟩
        intro a ha b hb'
        simp only [List.mem_singleton] at hb'; subst hb'
        obtain ⟨e', he', rfl⟩ := List.mem_map.1 ha
        exact hc e' he')
       (by
        intro e he
        simp only [Array.toList_push, List.mem_append, List.mem_singleton] at he
        rcases he with he | rfl
        ·have := hc e he; omega
        ·simp) (by simp [hbs]) rfl
      exact ⟨_, hrun, b1, b2, by simp⟩
     ·cases h1
   ·cases he
  ·cases he
 ·cases he

theorem VRs.eraseIdx : ∀ {vs : List V} {cs : List Value} (k : Nat), VRs μ h vs cs -> VRs μ h (vs.eraseIdx k) (cs.eraseIdx k)
 | [], _, _, r => by simp only [VRs] at r; subst r; simp [VRs]
 | v :: vs, _, k, r => by
  obtain ⟨c, cs', rfl, r1, r2⟩ := r
  cases k with
  | zero => simpa using r2
  | succ k => simpa using VRs.cons r1 (VRs.eraseIdx k r2)

theorem zcA {α β : Type} (f : α -> β) : ∀ (l : List α) (j : Nat), (l.eraseIdx j).map f = (l.map f).eraseIdx j
 | [], j => by simp
 | a :: l, 0 => by simp
 | a :: l, j + 1 => by simp [zcA f l j]

theorem ziS {k0 : Nat} (hr : Rel W0 μ h w) (hk : h.get k0 = none) (t : TypeId) : ∃ w', (Instr.makeMap t none).run P w = .ok (.map (some w.heap.size)) w' ∧ Rel W0 (upd μ k0 ⟨w.heap.size, 0, 0⟩) (h.pushAt k0 (.mapo [] [] 0)) w' := by
 refine ⟨w.alloc (.map #[] 0), by simp [Instr.makeMap], hr.push hk rfl (hr.below.alloc hr.below.size _) (by simp) (fun b hb => Below.heap_alloc w _ b hb) ⟨?_, #[], 0, ?_, VRs.nil, VRs.nil, by simp, by simp, rfl, rfl⟩⟩
 ·simp only [zaK]; exact hr.below.size
 ·simp only [zaK]; exact heap_alloc_new w _

theorem zkB {k0 : Nat} {ty t kt et : TypeId} {ts : List TypeId} {kd : KD} (hu : P.underlying t = some (.map kt et)) (hkd : kdOf P kt = some kd) (hr : Rel W0 μ h w) {x k : V} {cx ck : Value} (vx : VR μ h x cx) (vk : VR μ h k ck) {d : D}
  (he : zch h.get kd x k = some d) : ∃ w', (Builtin.delete_ (t :: ts).toArray ty #[cx, ck]).run P w = .ok (.tuple #[]) w' ∧ Rel W0 μ (h.appAt k0 d) w' ∧ Ext μ h μ (h.appAt k0 d) ∧ (d = .keep -> w' = w) := by
 unfold zch at he
 split at he
 ·rename_i hko
  split at he
  ·simp only [Option.some.injEq] at he; subst he
   simp only [VR] at vx; subst vx
   refine ⟨w, ?_, hr, Ext.refl _ _, fun _ => rfl⟩
   simp [Builtin.delete_, run_underlying hu, zcv hkd hko vk]
  ·rename_i i
   obtain ⟨pl, rfl, rf⟩ := vx
   split at he
   ·rename_i es bs tk hg
    obtain ⟨rfl, ces, hb, hks, hvs, hp, hc, hbs⟩ := zcP hr hg rf
    split at he
    ·cases he
    ·rename_i j vold hf
     simp only [Option.some.injEq] at he; subst he
     rcases zda (w := w) hkd hko vk es ces.toList _ hks hvs hf with ⟨h1, _⟩ | ⟨j', vv', ce, h1, h2, h3, h4, h5, h6⟩
     ·cases h1
     ·simp only [Option.some.injEq, Prod.mk.injEq] at h1
      obtain ⟨h10, rfl⟩ := h1
      obtain rfl : j' = j := h10.symm
      have hjl : j' < ces.size := by have := (List.getElem?_eq_some_iff.1 h3).1; simpa using this
      have e1 : (ces.eraseIdxIfInBounds j').toList = ces.toList.eraseIdx j' := by
       simp [Array.eraseIdxIfInBounds, hjl]
      have hrun : (Builtin.delete_ (t :: ts).toArray ty #[.map (some (μ i).blk), ck]).run P w = .ok (.tuple #[]) { w with heap := w.heap.setIfInBounds (μ i).blk (.map (ces.eraseIdxIfInBounds j') tk) } := by
       simp [Builtin.delete_, run_underlying hu, Go.MapKept.run_getObj_map hb, zcv hkd hko vk, h2, Go.MapKept.run_setObj_map _ hb]
      have hsub : (ces.toList.eraseIdx j').Sublist ces.toList := List.eraseIdx_sublist _ _
      have em : ∀ {α : Type} (f : MapEntry -> α), (ces.toList.eraseIdx j').map f = (ces.toList.map f).eraseIdx j' := fun f => zcA f _ _
      have em2 : ∀ {α : Type} (f : V × V -> α), (es.eraseIdx j').map f = (es.map f).eraseIdx j' := fun f => zcA f _ _
      obtain ⟨b1, b2⟩ := ze1 (k := k0) hr hg (es' := es.eraseIdx j') (ces' := ces.eraseIdxIfInBounds j') (cl' := tk) (bs' := bs.eraseIdx j')
       (by rw [e1, em, em2]; exact hks.eraseIdx j') (by rw [e1, em, em2]; exact hvs.eraseIdx j') (by rw [e1]; exact hp.sublist (hsub.map _))
       (by rw [e1]; exact fun e he => hc e (hsub.subset he)) (by rw [e1, em, hbs]) rfl
      exact ⟨_, hrun, b1, b2, by simp⟩
    ·rename_i hf
     simp only [Option.some.injEq] at he; subst he
     rcases zda (w := w) hkd hko vk es ces.toList _ hks hvs hf with ⟨_, h2⟩ | ⟨_, _, _, h1, _⟩
     ·have hrun : (Builtin.delete_ (t :: ts).toArray ty #[.map (some (μ i).blk), ck]).run P w = .ok (.tuple #[]) { w with heap := w.heap.setIfInBounds (μ i).blk (.map ces tk) } := by
       simp [Builtin.delete_, run_underlying hu, Go.MapKept.run_getObj_map hb, zcv hkd hko vk, h2, Go.MapKept.run_setObj_map _ hb]
      obtain ⟨b1, b2⟩ := ze1 (k := k0) hr hg (es' := es) (ces' := ces) (cl' := tk) (bs' := bs) hks hvs hp hc hbs rfl
      exact ⟨_, hrun, b1, b2, by simp⟩
     ·cases h1
   ·cases he
  ·cases he
 ·cases he

theorem zd6 (hr : Rel W0 μ h w) {sz m : Nat} {x : V} {cx : Value} {xs : List V} (hx : VR μ h x cx) (he : zaB h.get sz x = some (m, xs)) {k : Nat} (hk : k ≤ m) :
  ∃ cc : List Value, VRs μ h (xs.take (k * sz)) cc ∧ (Builtin.firstCells sz k cx).run P w = .ok cc.toArray w := by
 unfold zaB at he
 split at he
 ·rename_i i n off len cap
  obtain ⟨pl, ccap, rfl, _, _, _, rf, _⟩ := hx
  split at he
  ·simp at he; obtain ⟨rfl, rfl⟩ := he
   have : k = 0 := by omega
   subst this
   exact ⟨[], by simp [VRs], run_firstCells_some (P := P) w sz 0 ⟨pl.blk, pl.base + off, none⟩ len ccap [] (by simp) (by simp)⟩
  ·split at he
   ·rename_i cs hcs
    obtain ⟨o, ho, hn, rfl⟩ := zcW hcs
    obtain rfl := rf.at ho hn
    split at he
    ·rename_i hl
     simp at he; obtain ⟨rfl, rfl⟩ := he
     obtain ⟨cc, h1, h2, h3⟩ := hr.read ho off (len * sz) hl
     have hle : k * sz ≤ len * sz := Nat.mul_le_mul_right _ hk
     refine ⟨cc.take (k * sz), h2.take _, run_firstCells_some (P := P) w sz k ⟨(μ i).blk, (μ i).base + off, none⟩ len ccap _ (by simp; omega) (fun j v hj => ?_)⟩
     rw [Addr.add_off]
     refine h3 j v ?_
     rw [List.getElem?_take] at hj
     split at hj
     ·exact hj
     ·cases hj
    ·cases he
   ·cases he
 ·simp at he; obtain ⟨rfl, rfl⟩ := he
  simp only [VR] at hx; subst hx
  have : k = 0 := by omega
  subst this
  exact ⟨[], by simp [VRs], by simp [Builtin.firstCells]⟩
 ·simp at he; obtain ⟨rfl, rfl⟩ := he
  obtain ⟨a0, ccap, rfl, _⟩ := hx
  have : k = 0 := by omega
  subst this
  exact ⟨[], by simp [VRs], run_firstCells_some (P := P) w sz 0 a0 0 ccap [] (by simp) (by simp)⟩
 ·rename_i s
  simp only [VR] at hx; subst hx
  split at he
  ·rename_i h1
   simp at he; obtain ⟨rfl, rfl⟩ := he
   subst h1
   refine ⟨(s.take k).map fun b => Value.int .u8 b.toNat, ?_, ?_⟩
   ·refine VRs.of_get (by simp) fun j v c hj hc => ?_
    simp only [Nat.mul_one, List.getElem?_take, List.getElem?_map] at hj hc
    split at hj
    ·rename_i hlt
     rw [if_pos hlt] at hc
     cases hb : s[j]? with
     | none => simp [hb] at hj
     | some b => simp [hb] at hj hc; subst hj hc; rfl
    ·cases hj
   ·simp only [Builtin.firstCells, Sem.run_pure]
    congr 1
    apply Array.ext'
    have : (ByteArray.mk s.toArray).extract 0 k = ByteArray.mk (s.take k).toArray := by
     apply ByteArray.ext; simp
    rw [this]
    simp
  ·cases he
 ·cases he

theorem copy_ok {k0 : Nat} {ty t e : TypeId} {ts : List TypeId} {sz : Nat} (ht : P.underlying t = some (.slice e)) (hs : szOf P e = some sz) (hr : Rel W0 μ h w) {x y v : V} {cx cy : Value} (vx : VR μ h x cx) (vy : VR μ h y cy) {d : D}
  (he : zhy h.get sz x y = some (v, d)) : ∃ cv w', (Builtin.copy_ (t :: ts).toArray ty #[cx, cy]).run P w = .ok cv w' ∧ Rel W0 μ (h.appAt k0 d) w' ∧ VR μ (h.appAt k0 d) v cv ∧ Ext μ h μ (h.appAt k0 d) ∧ (d = .keep -> w' = w) := by
 unfold zhy at he
 split at he
 ·cases he
 ·rename_i m xs hel
  have hlen := (zdX (P := P) hr vy hel).1 w
  have hsz := zau (P := P) (w := w) hs
  split at he
  ·simp only [Option.some.injEq, Prod.mk.injEq] at he; obtain ⟨rfl, rfl⟩ := he
   simp only [VR] at vx; subst vx
   obtain ⟨cc, _, hfc⟩ := zd6 (P := P) hr vy hel (k := 0) (by omega)
   exact ⟨_, w, by simp [Builtin.copy_, run_underlying ht, hlen, hsz, hfc, goInt], hr, rfl, Ext.refl _ _, fun _ => rfl⟩
  ·simp only [Option.some.injEq, Prod.mk.injEq] at he; obtain ⟨rfl, rfl⟩ := he
   obtain ⟨a0, ccap, rfl, _⟩ := vx
   obtain ⟨cc, hcc, hfc⟩ := zd6 (P := P) hr vy hel (k := 0) (by omega)
   have : cc = [] := by have := hcc.length; simpa using this
   subst this
   exact ⟨_, w, by simp [Builtin.copy_, run_underlying ht, hlen, hsz, hfc, goInt, storeCells], hr, rfl, Ext.refl _ _, fun _ => rfl⟩
  ·rename_i i n off len cap
   obtain ⟨pl, ccap, rfl, _, _, _, rf, _⟩ := vx
   obtain ⟨cc, hcc, hfc⟩ := zd6 (P := P) hr vy hel (k := min m len) (by omega)
   have hmin : Nat.min m len = min m len := rfl
   split at he
   ·rename_i h0
    simp only [Option.some.injEq, Prod.mk.injEq] at he; obtain ⟨rfl, rfl⟩ := he
    rw [h0] at hcc hfc
    have : cc = [] := by have := hcc.length; simpa using this
    subst this
    exact ⟨_, w, by simp [Builtin.copy_, run_underlying ht, hlen, hsz, hmin, h0, hfc, goInt, storeCells], hr, rfl, Ext.refl _ _, fun _ => rfl⟩
   ·split at he
    ·rename_i hone
     split at he
     ·rename_i o ho
      split at he
      ·rename_i hon
       obtain ⟨o', hp, he⟩ := map_some2 he
       simp only [Prod.mk.injEq] at he; obtain ⟨rfl, rfl⟩ := he
       obtain rfl := rf.at ho hon
       obtain ⟨w', hw, hr', x'⟩ := zhV (P := P) hr ho hp hcc (hcc.ones hone) _ rfl
       refine ⟨_, w', ?_, hr', rfl, x', by simp⟩
       simp [Builtin.copy_, run_underlying ht, hlen, hsz, hmin, hfc, hw, goInt]
      ·cases he
     ·cases he
    ·cases he
  ·cases he
where
 map_some2 {α β : Type} {o : Option α} {f : α -> β} {b : β} (e : o.map f = some b) : ∃ a, o = some a ∧ f a = b := by
  cases o with
  | none => cases e
  | some a => exact ⟨a, rfl, by simpa using e⟩

theorem zhs {k0 : Nat} {ty t kt et : TypeId} (hu : P.underlying t = some (.map kt et)) (hr : Rel W0 μ h w) {x : V} {cx : Value} (vx : VR μ h x cx) {d : D}
  (he : zbY h.get x = some d) : ∃ w', (Builtin.clear_ #[t] ty #[cx]).run P w = .ok (.tuple #[]) w' ∧ Rel W0 μ (h.appAt k0 d) w' ∧ Ext μ h μ (h.appAt k0 d) ∧ (d = .keep -> w' = w) := by
 unfold zbY at he
 split at he
 ·simp only [Option.some.injEq] at he; subst he
  simp only [VR] at vx; subst vx
  exact ⟨w, by simp [Builtin.clear_, run_underlying hu], hr, Ext.refl _ _, fun _ => rfl⟩
 ·rename_i i
  obtain ⟨pl, rfl, rf⟩ := vx
  split at he
  ·rename_i es bs tk hg
   simp only [Option.some.injEq] at he; subst he
   obtain ⟨rfl, ces, hb, _⟩ := zcP hr hg rf
   obtain ⟨b1, b2⟩ := ze1 (k := k0) hr hg (es' := []) (ces' := #[]) (cl' := tk) (bs' := []) VRs.nil VRs.nil (by simp) (by simp) rfl rfl
   exact ⟨_, by simp [Builtin.clear_, run_underlying hu, Go.MapKept.run_getObj_map hb, Go.MapKept.run_setObj_map _ hb], b1, b2, by simp⟩
  ·cases he
 ·cases he

theorem ziU {k0 : Nat} {ty t e : TypeId} {zs : List V} (hu : P.underlying t = some (.slice e)) (hz : zcH P e = some zs) (hr : Rel W0 μ h w) {x : V} {cx : Value} (vx : VR μ h x cx) {d : D}
  (he : zcz h.get zs x = some d) : ∃ w', (Builtin.clear_ #[t] ty #[cx]).run P w = .ok (.tuple #[]) w' ∧ Rel W0 μ (h.appAt k0 d) w' ∧ Ext μ h μ (h.appAt k0 d) ∧ (d = .keep -> w' = w) := by
 obtain ⟨i, z, hi, hzv, hzs, hzV, hz1, hzl⟩ := zbb (μ := μ) (h := h) hz
 unfold zcz at he
 split at he
 ·simp only [Option.some.injEq] at he; subst he
  simp only [VR] at vx; subst vx
  exact ⟨w, by simp [Builtin.clear_, run_underlying hu], hr, Ext.refl _ _, fun _ => rfl⟩
 ·simp only [Option.some.injEq] at he; subst he
  obtain ⟨a0, ccap, rfl, _⟩ := vx
  exact ⟨w, by simp [Builtin.clear_, run_underlying hu], hr, Ext.refl _ _, fun _ => rfl⟩
 ·rename_i i' n off len cap
  obtain ⟨pl, ccap, rfl, _, _, _, rf, _⟩ := vx
  split at he
  ·rename_i h0
   subst h0
   simp only [Option.some.injEq] at he; subst he
   exact ⟨w, by simp [Builtin.clear_, run_underlying hu], hr, Ext.refl _ _, fun _ => rfl⟩
  ·rename_i h0
   split at he
   ·rename_i o ho
    split at he
    ·rename_i hon
     obtain ⟨o', hp, he⟩ := copy_ok.map_some2 he
     subst he
     obtain rfl := rf.at ho hon
     have hzc : VRs μ h (zaq len zs) (Builtin.zeroCells z.cells len).toList := by
      by_cases hl : zs.length = 0
      ·have e1 : zs = [] := List.eq_nil_of_length_eq_zero hl
       have e2 : z.cells.size = 0 := by rw [hzs, <- hzl, hl]
       subst e1
       have e3 : (Builtin.zeroCells z.cells len).toList = [] := by
        apply List.eq_nil_of_length_eq_zero
        simp [Builtin.zeroCells, e2]
       rw [e3]
       simp [zaq, VRs]
      ·have := zga hzV hl len
       have e1 : Builtin.zeroCells z.cells len = madeCells z.cells (len * zs.length) := by
        unfold Builtin.zeroCells madeCells
        rw [hzs, hzl]
       rw [e1]; exact this
     have hones : (zaq len zs).all V.one = true := by
      simp only [List.all_eq_true] at hz1 ⊢
      intro v hv
      simp only [zaq, List.mem_flatten, List.mem_replicate] at hv
      obtain ⟨l, ⟨_, rfl⟩, hv⟩ := hv
      exact hz1 v hv
     obtain ⟨w', hw, hr', x'⟩ := zhV (P := P) hr ho hp hzc (hzc.ones hones) _ rfl
     refine ⟨w', ?_, hr', x', by simp⟩
     obtain ⟨len, rfl⟩ : ∃ l, len = l + 1 := ⟨len - 1, by omega⟩
     simp [Builtin.clear_, run_underlying hu, zeroValue, typeInfo, hi, hzv, hw]
    ·cases he
   ·cases he
 ·cases he
end Go.Am
