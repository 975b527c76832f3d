/-
 AM, PART 7. THE THEOREM: whatever 'exec' does to the abstract heap, the machine's operation does to the world.
-/
import Derived.Laws.Externs
import Derived.Test.YtpgcodeckphanaaGreatDoorIAm6b
namespace Go.Am

variable {P : Program} {W0 : World} {μ : Nat -> Pl} {h : H} {w : World}

theorem ze2 (mx : Bool) : ∀ {rest : List V} {cr : List Value} {x v : V} {cx : Value}, VR μ h x cx -> VRs μ h rest cr -> minmaxV mx x rest = some v ->
  ∃ c, (cr.foldlM (if mx then Builtin.max2 else Builtin.min2) cx).run P w = .ok c w ∧ VR μ h v c
 | [], _, x, v, cx, hx, hr, e => by
  simp only [VRs] at hr; subst hr
  cases x <;> simp only [minmaxV, reduceCtorEq, Option.some.injEq] at e
  subst e
  exact ⟨cx, by simp, hx⟩
 | y :: rest, _, x, v, cx, hx, hr, e => by
  obtain ⟨c, cs, rfl, hy, hr⟩ := hr
  rw [minmaxV.eq_def] at e
  split at e
  case h_1 hl => cases hl
  case h_3 => cases e
  rename_i k a k' b rest' hl
  cases hl
  simp only [VR] at hx hy; subst hx hy
  split at e
  ·obtain ⟨c', h1, h2⟩ := ze2 mx (x := .int k (if mx then (if a < b then b else a) else (if b < a then b else a))) (cx := .int k (if mx then (if a < b then b else a) else (if b < a then b else a))) rfl hr e
   refine ⟨c', ?_, h2⟩
   cases mx
   ·simpa [List.foldlM_cons, Builtin.min2] using h1
   ·simpa [List.foldlM_cons, Builtin.max2] using h1
  ·cases e

theorem zl1 (hr : Rel W0 μ h w) {x v : V} {cx : Value} (hx : VR μ h x cx) (e : zen h.get x = some v) : ∃ c, (Conv.bytesToString cx).run P w = .ok c w ∧ VR μ h v c := by
 unfold zen at e
 split at e
 ·cases e
 ·rename_i hns
  cases hel : zaB h.get 1 x with
  | none => simp [hel] at e
  | some p =>
   obtain ⟨m, xs⟩ := p
   simp only [hel] at e
   cases hb : xs.mapM u8Of with
   | none => simp [hb] at e
   | some bs =>
    simp only [hb, Option.map_some, Option.some.injEq] at e
    subst e
    obtain ⟨_, cc, hcv, hcl, hfc⟩ := zdX (P := P) hr hx hel
    -- the cells are bytes
    have bytes : ∀ (xs : List V) (cc : List Value) (bs : List UInt8), VRs μ h xs cc -> xs.mapM u8Of = some bs -> ∃ ns : List Int, cc = ns.map (Value.int .u8) ∧ ns.map (fun n => UInt8.ofNat n.toNat) = bs := by
     intro xs
     induction xs with
     | nil => intro cc bs h1 h2; simp only [VRs] at h1; subst h1; simp at h2; subst h2; exact ⟨[], rfl, rfl⟩
     | cons v xs ih =>
      intro cc bs h1 h2
      obtain ⟨c, cs, rfl, hv, h1⟩ := h1
      simp only [List.mapM_cons, Option.bind_eq_bind, Option.pure_def] at h2
      cases hu : u8Of v with
      | none => simp [hu] at h2
      | some b =>
       cases hbs : xs.mapM u8Of with
       | none => simp [hu, hbs] at h2
       | some bs' =>
        simp [hu, hbs] at h2; subst h2
        obtain ⟨ns, rfl, e2⟩ := ih cs bs' h1 hbs
        unfold u8Of at hu
        split at hu
        ·rename_i n
         simp only [VR] at hv; subst hv
         simp only [Option.some.injEq] at hu
         exact ⟨n :: ns, rfl, by simp [hu, e2]⟩
        ·cases hu
    obtain ⟨ns, rfl, hns2⟩ := bytes xs cc bs hcv hb
    have push : ∀ (ns : List Int) (r : ByteArray), ns.foldl (fun r n => r.push (UInt8.ofNat n.toNat)) r = ⟨(r.data.toList ++ ns.map (fun n => UInt8.ofNat n.toNat)).toArray⟩ := by
     intro ns
     induction ns with
     | nil => intro r; simp
     | cons n ns ih =>
      intro r
      simp only [List.foldl_cons, ih]
      apply ByteArray.ext
      simp [ByteArray.push]
    have hstr := push ns ByteArray.empty
    rw [hns2] at hstr
    have hres : (⟨(ByteArray.empty.data.toList ++ bs).toArray⟩ : ByteArray) = ⟨bs.toArray⟩ := by
     apply ByteArray.ext; simp
    rw [hres] at hstr
    have hf := hfc w rfl
    cases x with
    | str s => exact absurd rfl (hns _)
    | sl i n off len cap =>
     obtain ⟨pl, ccap, rfl, _⟩ := hx
     refine ⟨.string ⟨bs.toArray⟩, ?_, rfl⟩
     simp only [zaB] at hel
     have hm : m = len := by
      split at hel
      ·rename_i h0; simp at hel; omega
      ·split at hel
       ·split at hel
        ·simp at hel; exact hel.1.symm
        ·cases hel
       ·cases hel
     subst hm
     simp only [Builtin.firstCells, Nat.mul_one] at hf
     rw [run_bytesToString w _ m ccap ns hf, hstr]
    | nilsl =>
     simp [zaB] at hel; obtain ⟨rfl, rfl⟩ := hel
     simp only [VR] at hx; subst hx
     simp at hb; subst hb
     exact ⟨.string .empty, by simp [Conv.bytesToString], rfl⟩
    | slz =>
     simp [zaB] at hel; obtain ⟨rfl, rfl⟩ := hel
     obtain ⟨a0, ccap, rfl, _⟩ := hx
     refine ⟨.string ⟨bs.toArray⟩, ?_, rfl⟩
     simp only [Builtin.firstCells, Nat.zero_mul] at hf
     rw [run_bytesToString w _ 0 ccap ns hf, hstr]
    | _ => simp only [zaB, reduceCtorEq] at hel

theorem zeN {tm : Nat -> V} {ρ : Operand -> Value} (E : Env μ h tm ρ) {place : Nat -> Option (Nat × Nat)} : ∀ {ps : List (Nat × Operand)} {qs : List (Nat × Nat × A)},
  ps.mapM (fun (p : Nat × Operand) => (place p.1).bind fun q => (zag p.2).map fun a => (q.1, q.2, a)) = some qs ->
  zjh μ h place (qs.map fun q => (q.1, q.2.1, q.2.2.ev tm)) (ps.map fun p => (p.1, ρ p.2))
 | [], qs, e => by simp at e; subst e; simp [zjh]
 | p :: ps, qs, e => by
  simp only [List.mapM_cons, Option.bind_eq_bind, Option.pure_def] at e
  cases hp : place p.1 with
  | none => simp [hp] at e
  | some q =>
   cases ha : zag p.2 with
   | none => simp [hp, ha] at e
   | some a =>
    cases hr : ps.mapM (fun (p : Nat × Operand) => (place p.1).bind fun q => (zag p.2).map fun a => (q.1, q.2, a)) with
    | none => simp [hp, ha, hr] at e
    | some qs' =>
     simp [hp, ha, hr] at e
     subst e
     exact ⟨_, _, rfl, hp, E.arg ha, zeN E hr⟩

theorem zg2 (sz : Nat) : ∀ (l : List (Nat × Operand)) (qs : List (Nat × A)), l.mapM (fun (p : Nat × Operand) => (zag p.2).bind fun a => some (p.1, a)) = some qs ->
  l.mapM (fun (p : Nat × Operand) => (some (p.1 * sz, sz) : Option (Nat × Nat)).bind fun q => (zag p.2).map fun a => (q.1, q.2, a)) = some (qs.map fun (q : Nat × A) => (q.1 * sz, sz, q.2)) := by
 intro l
 induction l with
 | nil => intro qs e; simp at e; subst e; rfl
 | cons p l ih =>
  intro qs e
  simp only [List.mapM_cons, Option.bind_eq_bind, Option.pure_def] at e
  obtain ⟨q, hq, e⟩ := bind_some e
  obtain ⟨a, ha, hq⟩ := bind_some hq
  cases hq
  obtain ⟨qs', hqs, e⟩ := bind_some e
  cases e
  have := ih qs' hqs
  simp only [List.mapM_cons, Option.bind_eq_bind, Option.pure_def, ha, this]
  rfl

theorem zeg {tm : Nat -> V} {ρ : Operand -> Value} (E : Env μ h tm ρ) {x : Option Operand} {a : Option A} (e : x.mapM zag = some a) : zet μ h (a.map (·.ev tm)) (x.map ρ) := by
 cases x with
 | none => simp at e; subst e; trivial
 | some x =>
  simp only [Option.mapM_some] at e
  cases ha : zag x with
  | none => simp [ha] at e
  | some b => simp [ha] at e; subst e; exact E.arg ha

theorem zgq {μ : Nat -> Pl} {h : H} : VR μ h .undef undef := ⟨[], rfl, VRs.nil⟩
theorem zaM {fr : Nat} (hr : Rel W0 μ h w) {ov : Option V} {v : V} {d : D} (hx : zam ov = some (v, d)) {s : Sem Value} (hk : ∀ v', ov = some v' -> ∃ c, s.run P w = .ok c w ∧ VR μ h v' c) :
  OpOk W0 μ h fr w ((do pure (Next.value (<- s))).run P w) v d := by
 obtain ⟨e, rfl⟩ := zaE hx
 obtain ⟨c, hc, hv⟩ := hk v e
 exact OpOk.keep hr (by simp [hc]) hv

theorem bind_some {α β : Type} {o : Option α} {f : α -> Option β} {b : β} (e : o.bind f = some b) : ∃ a, o = some a ∧ f a = some b := by
 cases o with
 | none => cases e
 | some a => exact ⟨a, rfl, e⟩
theorem zae {α β : Type} {o : Option α} {f : α -> β} {b : β} (e : o.map f = some b) : ∃ a, o = some a ∧ f a = b := by
 cases o with
 | none => cases e
 | some a => exact ⟨a, rfl, by simpa using e⟩

theorem zgo {fn : Func} {n : String} {e : Array Value -> Sem Value} (hn : fn.name = n) (h1 : Extern.allGenericRows.lookup n = none) (h2 : Extern.allTypedRows.lookup n = none) (h3 : Extern.allRows.lookup n = some e) : Extern.find fn = some e := by
 simp [Extern.find, hn, h1, h2, h3]
theorem zf2 {fn : Func} {n : String} (hn : fn.name = n) (ho : fn.origin = "" ∨ fn.origin = fn.name) (h1 : Extern.allNextRows.lookup n = none) (h2 : Extern.allNextRows.lookup "" = none) : Extern.findNext fn = none := by
 rcases ho with h | h
 ·simp [Extern.findNext, hn, h, h1, h2]
 ·simp [Extern.findNext, h, hn, h1]
theorem zpi {g : FuncId} {e : StIn} (hex : znA P g = some e) {x y : V} {cx cy : Value} (hx : VR μ h x cx) (hy : VR μ h y cy) {v : V} (he : extV e x y = some v) : ∃ c, (callFunc g #[cx, cy]).run P w = .ok (.value c) w ∧ VR μ h v c := by
 unfold znA at hex
 split at hex
 ·rename_i fn hfn
  split at hex
  ·rename_i hb
   simp only [Bool.and_eq_true, Bool.or_eq_true, beq_iff_eq] at hb
   have no : Extern.allNextRows.lookup "" = none := by rfl
   split at hex
   ·rename_i hn
    cases hex
    have hn : fn.name = "internal/bytealg.IndexByteString" := by simpa using hn
    have hname : (fn.name == "runtime.NumGoroutine") = false := by rw [hn]; rfl
    have run := run_callFunc_extern (P := P) hfn hname hb.1 (zf2 hn hb.2 (by rfl) no) (zgo hn (by rfl) (by rfl) (by rfl : Extern.allRows.lookup "internal/bytealg.IndexByteString" = some Extern.BytealgIndexByte.indexByte)) #[cx, cy] w
    unfold extV at he
    split at he <;> rename_i heq <;> first | (cases he; done) | cases heq
    simp only [VR] at hx hy
    rw [hx, hy] at run ⊢
    rw [Lib.run_indexByteString] at run
    cases he
    exact ⟨_, run, rfl⟩
   ·split at hex
    ·rename_i hn
     cases hex
     have hn : fn.name = "internal/bytealg.CountString" := by simpa using hn
     have hname : (fn.name == "runtime.NumGoroutine") = false := by rw [hn]; rfl
     have run := run_callFunc_extern (P := P) hfn hname hb.1 (zf2 hn hb.2 (by rfl) no) (zgo hn (by rfl) (by rfl) (by rfl : Extern.allRows.lookup "internal/bytealg.CountString" = some Extern.BytealgCount.count)) #[cx, cy] w
     unfold extV at he
     split at he <;> rename_i heq <;> first | (cases he; done) | cases heq
     simp only [VR] at hx hy
     rw [hx, hy] at run ⊢
     rw [Lib.run_countString] at run
     cases he
     exact ⟨_, run, rfl⟩
    ·split at hex
     ·rename_i hn
      cases hex
      have hn : fn.name = "internal/bytealg.abigen_runtime_cmpstring" := by simpa using hn
      have hname : (fn.name == "runtime.NumGoroutine") = false := by rw [hn]; rfl
      have run := run_callFunc_extern (P := P) hfn hname hb.1 (zf2 hn hb.2 (by rfl) no) (zgo hn (by rfl) (by rfl) (by rfl : Extern.allRows.lookup "internal/bytealg.abigen_runtime_cmpstring" = some Extern.BytealgCompare.compare)) #[cx, cy] w
      unfold extV at he
      split at he <;> rename_i heq <;> first | (cases he; done) | cases heq
      simp only [VR] at hx hy
      rw [hx, hy] at run ⊢
      rw [Lib.run_compareString] at run
      cases he
      exact ⟨_, run, rfl⟩
     ·cases hex
  ·cases hex
 ·cases hex

set_option maxHeartbeats 1000000 in
theorem zhi (hr : Rel W0 μ h w) {fr : Nat} (hk : h.get fr = none) {tm : Nat -> V} {ρ : Operand -> Value} (E : Env μ h tm ρ) {o : Oper} {i : I} (hc : zcp P o = some i) {v : V} {d : D} (hx : exec i tm h.get fr = some (v, d)) :
  OpOk W0 μ h fr w ((execOp ρ o).run P w) v d := by
 obtain ⟨dst, op, type, pos, after, guard⟩ := o
 unfold zcp at hc
 cases op <;> simp only [reduceCtorEq] at hc
 case move x =>
  obtain ⟨a, ha, rfl⟩ := zae hc
  simp only [exec, Option.some.injEq, Prod.mk.injEq] at hx; obtain ⟨rfl, rfl⟩ := hx
  exact OpOk.keep hr (by simp [execOp]) (E.arg ha)
 case assign x =>
  obtain ⟨a, ha, rfl⟩ := zae hc
  simp only [exec, Option.some.injEq, Prod.mk.injEq] at hx; obtain ⟨rfl, rfl⟩ := hx
  exact OpOk.keep hr (by simp [execOp]) (E.arg ha)
 case makeInterface t x =>
  split at hc
  ·cases hc
  ·rename_i u hne hu
   obtain ⟨a, ha, rfl⟩ := zae hc
   simp only [exec, Option.some.injEq, Prod.mk.injEq] at hx; obtain ⟨rfl, rfl⟩ := hx
   refine OpOk.keep hr (cv := .iface t (ρ x)) ?_ ⟨_, rfl, E.arg ha⟩
   simp only [execOp, Instr.makeInterface, Sem.run_bind, run_underlying hu, Result.andThen_ok]
   cases u <;> first | rfl | exact (hne _ rfl).elim
  ·cases hc
 case pick c a b =>
  simp only [Option.bind_eq_bind, Option.pure_def] at hc
  obtain ⟨c', hc1, hc⟩ := bind_some hc
  obtain ⟨a', ha1, hc⟩ := bind_some hc
  obtain ⟨b', hb1, hc⟩ := bind_some hc
  cases hc
  simp only [exec] at hx
  obtain ⟨e, rfl⟩ := zaE hx
  have v1 := E.arg hc1
  cases hcv : c'.ev tm <;> rw [hcv] at e v1 <;> simp only [zg0, reduceCtorEq, Option.some.injEq] at e
  simp only [VR] at v1
  subst e
  refine OpOk.keep hr (by simp [execOp, v1, asBool]; rfl) ?_
  split
  ·exact E.arg ha1
  ·exact E.arg hb1
 case alloc e =>
  obtain ⟨zs, hz, rfl⟩ := zae hc
  simp only [exec, Option.some.injEq, Prod.mk.injEq] at hx; obtain ⟨rfl, rfl⟩ := hx
  obtain ⟨ti, z, hi, hzv, hzs, hzV, _, hzl⟩ := zbb (μ := μ) (h := h) hz
  refine OpOk.new_row hr hk hzV e (cv := .pointer (some ⟨w.heap.size, 0, none⟩)) ?_ ⟨⟨w.heap.size, 0, 0⟩, by simp, zcx rfl⟩
  simp [execOp, Instr.alloc, zeroValue, typeInfo, hi, hzv, newVar, newRow]
 case box e x =>
  obtain ⟨a, ha, rfl⟩ := zae hc
  simp only [exec] at hx
  split at hx
  ·rename_i hsol
   simp only [Option.some.injEq, Prod.mk.injEq] at hx; obtain ⟨rfl, rfl⟩ := hx
   have hcs := ((E.arg ha).solid_cells hsol).1
   refine OpOk.new_row hr hk hcs e (cv := .pointer (some ⟨w.heap.size, 0, none⟩)) ?_ ⟨⟨w.heap.size, 0, 0⟩, by simp, zcx rfl⟩
   simp [execOp, Instr.box, newVar, newRow]
  ·cases hx
 case build t parts =>
  split at hc
  ·rename_i fs hu
   simp only [Option.bind_eq_bind, Option.pure_def] at hc
   obtain ⟨zs, hz, hc⟩ := bind_some hc
   obtain ⟨qs, hq, hc⟩ := bind_some hc
   split at hc
   ·rename_i hall
    cases hc
    simp only [exec] at hx
    obtain ⟨e, rfl⟩ := zaE hx
    obtain ⟨cs, hf, rfl⟩ := zae e
    obtain ⟨ti, z, hi, hzv, hzs, hzV, _, hzl⟩ := zbb (μ := μ) (h := h) hz
    -- the places
    have hpl : ∃ places : List (Nat × Nat), fs.toList.mapM (fun f => (P.info? f.type).map fun i => (f.offset, i.size)) = some places := by
     clear hq hf
     have : ∀ l : List Field, (l.all fun f => (szOf P f.type).isSome) = true -> ∃ places : List (Nat × Nat), l.mapM (fun f => (P.info? f.type).map fun i => (f.offset, i.size)) = some places := by
      intro l
      induction l with
      | nil => intro _; exact ⟨[], rfl⟩
      | cons f l ih =>
       intro hh
       simp only [List.all_cons, Bool.and_eq_true] at hh
       obtain ⟨ps, hps⟩ := ih hh.2
       cases hfi : P.info? f.type with
       | none => simp [szOf, hfi] at hh
       | some fi => exact ⟨(f.offset, fi.size) :: ps, by simp [List.mapM_cons, hfi, hps]⟩
     exact this _ hall
    obtain ⟨places, hplaces⟩ := hpl
    have hget : ∀ k : Nat, places[k]? = (fs[k]?).bind fun f => (szOf P f.type).map fun s => (f.offset, s) := by
     have : ∀ (l : List Field) (ps : List (Nat × Nat)), l.mapM (fun f => (P.info? f.type).map fun i => (f.offset, i.size)) = some ps -> ∀ k : Nat, ps[k]? = (l[k]?).bind fun f => (szOf P f.type).map fun s => (f.offset, s) := by
      intro l
      induction l with
      | nil => intro ps e k; simp at e; subst e; simp
      | cons f l ih =>
       intro ps e k
       simp only [List.mapM_cons, Option.bind_eq_bind, Option.pure_def] at e
       obtain ⟨p, hp, e⟩ := bind_some e
       obtain ⟨ps', hps, e⟩ := bind_some e
       cases e
       obtain ⟨fi, hfi, rfl⟩ := zae hp
       cases k with
       | zero => simp [szOf, hfi]
       | succ k => simpa using ih ps' hps k
     intro k
     rw [this _ _ hplaces k]
     simp
    have hparts := zeN E (place := (places[·]?)) (ps := parts.toList) (qs := qs) (by
     rw [<- hq]
     congr 1
     funext p
     obtain ⟨k, x⟩ := p
     simp only [hget]
     cases hfk : fs[k]? with
     | none => rfl
     | some f =>
      cases hsk : szOf P f.type with
      | none => simp [hsk]
      | some s =>
       cases hak : zag x with
       | none => simp [hsk]
       | some a => simp [hsk])
    obtain ⟨o, ho, hvo⟩ := zfQ hzV hparts hf
    refine OpOk.keep hr ?_ ⟨o, rfl, hvo⟩
    have hrp := run_places (P := P) w fs.toList places hplaces
    have hb : (Instr.build t (parts.map fun (p : Nat × Operand) => (p.1, ρ p.2))).run P w = .ok (.agg o.toArray) w := by
     unfold Instr.build
     have hmm : (fs.mapM fun f => Prod.mk f.offset <$> sizeOf f.type).run P w = .ok places.toArray w := by
      rw [Array.mapM_eq_mapM_toList]
      simp [hrp]
     have hmm' : (fs.mapM fun f => (do pure (f.offset, <- sizeOf f.type) : Sem (Nat × Nat))).run P w = .ok places.toArray w := by
      simpa using hmm
     simp only [Sem.run_bind, zeroValue, typeInfo, run_program, Result.andThen_ok, hi, hzv, Sem.run_pure, run_underlying hu, hmm']
     have hz2 : z.cells = z.cells.toList.toArray := by simp
     rw [hz2]
     have hpt : (parts.map fun (p : Nat × Operand) => (p.1, ρ p.2)).toList = parts.toList.map fun p => (p.1, ρ p.2) := by simp
     rw [hpt]
     have : (fun x => places.toArray[x]?) = (fun x : Nat => places[x]?) := by funext x; simp
     rw [this, ho]
     rfl
    simp [execOp, hb]
   ·cases hc
  ·rename_i n e hu
   simp only [Option.bind_eq_bind, Option.pure_def] at hc
   obtain ⟨zs, hz, hc⟩ := bind_some hc
   obtain ⟨sz, hs, hc⟩ := bind_some hc
   obtain ⟨qs, hq, hc⟩ := bind_some hc
   cases hc
   simp only [exec] at hx
   obtain ⟨e', rfl⟩ := zaE hx
   obtain ⟨cs, hf, rfl⟩ := zae e'
   obtain ⟨ti, z, hi, hzv, hzs, hzV, _, hzl⟩ := zbb (μ := μ) (h := h) hz
   have hparts := zeN E (place := fun k => some (k * sz, sz)) (ps := parts.toList) (qs := qs.map fun (q : Nat × A) => (q.1 * sz, sz, q.2)) (zg2 sz _ _ hq)
   have hf' : zcI zs ((qs.map fun (q : Nat × A) => (q.1 * sz, sz, q.2)).map fun q => (q.1, q.2.1, q.2.2.ev tm)) = some cs := by
    simpa [List.map_map, Function.comp_def] using hf
   obtain ⟨o, ho, hvo⟩ := zfQ hzV hparts hf'
   refine OpOk.keep hr ?_ ⟨o, rfl, hvo⟩
   have hb : (Instr.build t (parts.map fun (p : Nat × Operand) => (p.1, ρ p.2))).run P w = .ok (.agg o.toArray) w := by
    unfold Instr.build
    simp only [Sem.run_bind, zeroValue, typeInfo, run_program, Result.andThen_ok, hi, hzv, Sem.run_pure, run_underlying hu, zau hs]
    have hz2 : z.cells = z.cells.toList.toArray := by simp
    rw [hz2]
    have hpt : (parts.map fun (p : Nat × Operand) => (p.1, ρ p.2)).toList = parts.toList.map fun p => (p.1, ρ p.2) := by simp
    rw [hpt, ho]
    rfl
   simp [execOp, hb]
  ·cases hc
 case buildSlice t len parts =>
  split at hc
  ·rename_i e hu
   simp only [Option.bind_eq_bind, Option.pure_def] at hc
   obtain ⟨sz, hs, hc⟩ := bind_some hc
   obtain ⟨zs, hz, hc⟩ := bind_some hc
   obtain ⟨qs, hq, hc⟩ := bind_some hc
   split at hc
   ·rename_i hb
    cases hc
    simp only [exec] at hx
    obtain ⟨cs, hf, hx⟩ := zae hx
    simp only [Prod.mk.injEq] at hx; obtain ⟨rfl, rfl⟩ := hx
    obtain ⟨ti, z, hi, hzv, hzs, hzV, _, hzl⟩ := zbb (μ := μ) (h := h) hz
    obtain ⟨ti', hi', hsz⟩ := zc5 hs
    rw [hi] at hi'; cases hi'
    have hmade := zga hzV (by omega) len
    rw [hzl, hsz] at hmade
    have hparts := zeN E (place := fun k => some (k * sz, sz)) (ps := parts.toList) (qs := qs.map fun (q : Nat × A) => (q.1 * sz, sz, q.2)) (by
     exact zg2 sz _ _ hq)
    have hlist : (qs.map fun (q : Nat × A) => (q.1 * sz, sz, q.2.ev tm)) = ((qs.map fun (q : Nat × A) => (q.1 * sz, sz, q.2)).map fun q => (q.1, q.2.1, q.2.2.ev tm)) := by simp
    have hf' : zcI (zaq len zs) ((qs.map fun (q : Nat × A) => (q.1 * sz, sz, q.2)).map fun q => (q.1, q.2.1, q.2.2.ev tm)) = some cs := by rw [<- hlist]; exact hf
    obtain ⟨o, ho, hvo⟩ := zfQ hmade hparts hf'
    have hol : o.length = len * sz := by
     have h1 := hvo.length
     have h2 : ∀ (ps : List (Nat × Nat × V)) (c0 out : List V), zcI c0 ps = some out -> out.length = c0.length := by
      intro ps
      induction ps with
      | nil => intro c0 out e; simp [zcI] at e; rw [e]
      | cons p ps ih =>
       intro c0 out e
       obtain ⟨off, s, v⟩ := p
       simp only [zcI] at e
       split at e
       ·rename_i hcnd
        simp only [Bool.and_eq_true, beq_iff_eq, decide_eq_true_eq] at hcnd
        rw [ih _ _ e]
        simp [putCells]; omega
       ·cases e
     rw [h1, h2 _ _ _ hf']
     simp [zaq, hzl, hsz]
    refine OpOk.new_row hr hk hvo e (cv := .slice (some ⟨w.heap.size, 0, none⟩) len len) ?_ ⟨⟨w.heap.size, 0, 0⟩, len, by simp, Nat.le_refl _, ?_, by simp, zcx ?_, by simp⟩
    ·have hle : ¬ len * sz > 2 ^ 24 := by simp only [show (2 : Nat) ^ 24 = 16777216 from rfl]; omega
     have hb2 : (Instr.buildSlice t len (parts.map fun (p : Nat × Operand) => (p.1, ρ p.2))).run P w = .ok (.slice (some ⟨w.heap.size, 0, none⟩) len len) (w.alloc (.cells o.toArray e)) := by
      have hpt : (parts.map fun (p : Nat × Operand) => (p.1, ρ p.2)).toList = parts.toList.map fun p => (p.1, ρ p.2) := by simp
      have hmc : (madeCells z.cells (len * sz)).toList.toArray = madeCells z.cells (len * sz) := by simp
      rw [hmc] at ho
      unfold madeCells at ho
      unfold Instr.buildSlice
      by_cases h0 : len * sz = 0
      ·have hl0 : len = 0 := by
        rcases Nat.mul_eq_zero.1 h0 with e0 | e0
        ·exact e0
        ·exact absurd e0 hb.2
       subst hl0
       simp only [Nat.zero_mul, Array.range_zero', Array.map_empty] at ho
       simp [run_underlying hu, zau hs, ho, newRow, Array.range_zero']
      ·simp only [Sem.run_bind, run_underlying hu, Result.andThen_ok, zau hs, hle, if_false, h0, Sem.run_pure, zeroValue, typeInfo, run_program, hi, hzv, hpt]
       rw [ho]
       simp [newRow]
     simp [execOp, hb2]
    ·have := hb.1
     have h2 := Nat.le_mul_of_pos_right len (Nat.pos_of_ne_zero hb.2)
     unfold maxLen; omega
    ·simp only [O.len, O.cells]
     rw [<- hvo.length, hol]
   ·cases hc
  ·cases hc
 case load t x =>
  simp only [Option.bind_eq_bind, Option.pure_def] at hc
  obtain ⟨agg, ha, hc⟩ := bind_some hc
  obtain ⟨n, hs, hc⟩ := bind_some hc
  obtain ⟨a, hax, hc⟩ := bind_some hc
  cases hc
  simp only [execOp]
  exact zaM hr hx fun v' e => zkC hr ha hs (E.arg hax) e
 case store t x y =>
  simp only [Option.bind_eq_bind, Option.pure_def] at hc
  obtain ⟨n, hs, hc⟩ := bind_some hc
  obtain ⟨a, hax, hc⟩ := bind_some hc
  obtain ⟨b, hbx, hc⟩ := bind_some hc
  cases hc
  simp only [exec] at hx
  obtain ⟨d', hd, hx⟩ := zae hx
  simp only [Prod.mk.injEq] at hx; obtain ⟨rfl, rfl⟩ := hx
  obtain ⟨w', hst, hrel, x, hne⟩ := zlK (P := P) hr hs (E.arg hax) (E.arg hbx) hd
  exact ⟨.skip, undef, w', μ, by simp [execOp, hst], .inr ⟨rfl, rfl⟩, hrel, ⟨[], rfl, VRs.nil⟩, x, fun e => absurd e hne⟩
 case nilCheck x =>
  obtain ⟨a, ha, rfl⟩ := zae hc
  simp only [exec] at hx
  obtain ⟨e, rfl⟩ := zaE hx
  obtain ⟨rfl, hsh⟩ := ziQ (E.arg ha) e
  have hva := E.arg ha
  rcases hsh with ⟨p, hp⟩ | ⟨g, u1, u2, hp⟩ | ⟨t1, x1, hp⟩ <;> exact OpOk.keep hr (by simp [execOp, hp]) (hp ▸ hva)
 case binOp op t x y ty =>
  have plain : ∀ (hc : (do pure (I.bin op (<- zag x) (<- zag y)) : Option I) = some i), OpOk W0 μ h fr w ((execOp ρ { dst := dst, op := .binOp op t x y ty, type := type, pos := pos, after := after, guard := guard }).run P w) v d := by
   intro hc
   simp only [Option.bind_eq_bind, Option.pure_def] at hc
   obtain ⟨a, ha, hc⟩ := bind_some hc
   obtain ⟨b, hb, hc⟩ := bind_some hc
   cases hc
   simp only [exec] at hx
   obtain ⟨e, rfl⟩ := zaE hx
   obtain ⟨c, h1, h2, h3⟩ := zpA (P := P) (w := w) (t := t) (x := x) (y := y) (E.arg ha) (E.arg hb) e
   exact OpOk.keep hr (by simp [execOp, h1, h2]) h3
  have eqs : ∀ (neg : Bool) (hop : op = if neg then .neq else .eql) (hc : zck P neg t x y = some i), OpOk W0 μ h fr w ((execOp ρ { dst := dst, op := .binOp op t x y ty, type := type, pos := pos, after := after, guard := guard }).run P w) v d := by
   intro neg hop hc
   have hc0 := hc
   simp only [zck, Option.bind_eq_bind, Option.pure_def] at hc
   obtain ⟨ts, hts, hc⟩ := bind_some hc
   obtain ⟨a, ha, hc⟩ := bind_some hc
   obtain ⟨b, hb, hc⟩ := bind_some hc
   obtain ⟨ts', hi⟩ : ∃ ts', i = .eq neg ts' a b := by
    split at hc
    ·cases hc
    ·cases hc
    ·split at hc
     ·cases hc; exact ⟨_, rfl⟩
     ·cases hc; exact ⟨_, rfl⟩
    ·cases hc; exact ⟨_, rfl⟩
   subst hi
   simp only [exec] at hx
   obtain ⟨e, rfl⟩ := zaE hx
   obtain ⟨r, he, rfl⟩ := zae e
   obtain ⟨h1, h2⟩ := zns (P := P) (w := w) hc0 rfl (E.arg ha) (E.arg hb) he
   rw [<- hop] at h1 h2
   exact OpOk.keep hr (by simp only [execOp, Sem.run_bind, h1, h2, Result.andThen_ok]; rfl) rfl
  split at hc
  ·exact plain hc
  ·exact plain hc
  ·exact plain hc
  ·exact plain hc
  ·exact eqs false rfl hc
  ·exact eqs true rfl hc
  ·exact plain hc
 case unOp op t x =>
  obtain ⟨a, ha, rfl⟩ := zae hc
  simp only [execOp]
  exact zaM hr hx fun v' e => zrt (E.arg ha) e
 case convert src dst' x =>
  split at hc
  ·rename_i k1 k hu1 hu2
   obtain ⟨a, ha, rfl⟩ := zae hc
   simp only [exec] at hx
   obtain ⟨e, rfl⟩ := zaE hx
   obtain ⟨n, hn, rfl⟩ := zae e
   have hva := E.arg ha
   cases hav : a.ev tm <;> rw [hav] at hn hva <;> simp only [zgA, reduceCtorEq, Option.some.injEq] at hn
   subst hn
   simp only [VR] at hva
   exact OpOk.keep hr (by simp [execOp, hva, convert, run_underlying hu1, run_underlying hu2, Conv.intToInt]) rfl
  ·rename_i hu1 hu2
   obtain ⟨a, ha, rfl⟩ := zae hc
   simp only [exec] at hx
   have hva := E.arg ha
   cases hav : a.ev tm <;> rw [hav] at hx hva <;> simp only [reduceCtorEq, Option.some.injEq, Prod.mk.injEq] at hx
   obtain ⟨rfl, rfl⟩ := hx
   simp only [VR] at hva
   exact OpOk.keep hr (by simp [execOp, hva, convert, run_underlying hu1, run_underlying hu2]) rfl
  ·rename_i e hu1 hu2
   split at hc
   ·rename_i hue
    obtain ⟨a, ha, rfl⟩ := zae hc
    simp only [exec] at hx
    have hva := E.arg ha
    cases hav : a.ev tm <;> rw [hav] at hx hva <;> simp only [reduceCtorEq] at hx
    split at hx
    ·rename_i s hle
     simp only [Option.some.injEq, Prod.mk.injEq] at hx
     obtain ⟨rfl, rfl⟩ := hx
     simp only [VR] at hva
     have hrun := run_bytes_of_string (P := P) w src dst' e ⟨s.toArray⟩ hu1 hu2 hue
     rw [zdy] at hrun
     have hcap := grownCap_ge w s.length 0 e
     have hcap2 := grownCap_le_maxLen w s.length 0 e (by unfold maxLen; omega)
     have hsz : (bytesRow ⟨s.toArray⟩ (grownCap w s.length 0 e)).size = grownCap w s.length 0 e := by
      simp [bytesRow, zdy]; omega
     have hvs : VRs μ h (s.map zcg) (s.map fun b => Value.int .u8 b.toNat) := by
      refine VRs.of_get (by simp) fun k v c hk hc => ?_
      simp only [List.getElem?_map] at hk hc
      cases hb : s[k]? with
      | none => simp [hb] at hk
      | some b => simp [hb] at hk hc; subst hk hc; rfl
     refine ⟨_, _, _, _, (by simp only [execOp, hva, Sem.run_bind, hrun, Result.andThen_ok, Sem.run_pure]; rfl), .inl rfl, zg8 hr.drew hk hvs (cur := bytesRow ⟨s.toArray⟩ (grownCap w s.length 0 e)) ?_ e _ ?_, ⟨⟨w.heap.size, 0, _⟩, _, rfl, hcap, hcap2, by simp, zcx (by simp [O.len, O.cells]), ?_⟩, Ext.push hk _ _, by simp⟩
     ·simp only [bytesRow, Array.toList_append, List.length_map]
      rw [List.take_append_of_le_length (by simp)]
      simp only [Array.toList_map]
      exact List.take_of_length_le (by simp)
     ·intro k hk
      simp; omega
     ·intro _ _ o ho _ _
      simp only [H.appAt] at ho
      rw [H.get_pushAt, if_pos rfl] at ho
      cases ho
      simp only [O.sz]
      omega
    ·cases hx
   ·cases hc
  ·rename_i e hu1 hu2
   split at hc
   ·rename_i hue
    obtain ⟨a, ha, rfl⟩ := zae hc
    simp only [exec] at hx
    obtain ⟨ex, rfl⟩ := zaE hx
    obtain ⟨c, h1, h2⟩ := zl1 (P := P) hr (E.arg ha) ex
    refine OpOk.keep hr ?_ h2
    have hva := E.arg ha
    have : (convert src dst' (ρ x)).run P w = (Conv.bytesToString (ρ x)).run P w := by
     cases hav : a.ev tm <;> rw [hav] at ex hva <;> simp only [zen, zaB, reduceCtorEq] at ex
     ·obtain ⟨_, _, hcx, _⟩ := hva; simp [hcx, convert, run_underlying hu1, run_underlying hu2, run_underlying hue]
     ·simp only [VR] at hva; simp [hva, convert, run_underlying hu1, run_underlying hu2, run_underlying hue]
     ·obtain ⟨_, _, hcx, _⟩ := hva; simp [hcx, convert, run_underlying hu1, run_underlying hu2, run_underlying hue]
    simp [execOp, this, h1]
   ·cases hc
  ·cases hc
 case makeFunc fn first cap =>
  simp only [Option.bind_eq_bind, Option.pure_def] at hc
  obtain ⟨as, h1, hc⟩ := bind_some hc
  obtain ⟨bs, h2, hc⟩ := bind_some hc
  cases hc
  simp only [exec, Option.some.injEq, Prod.mk.injEq] at hx; obtain ⟨rfl, rfl⟩ := hx
  refine OpOk.keep hr (cv := .func fn (first.map ρ) (cap.map ρ)) (by simp [execOp, Instr.makeFunc]) ⟨first.toList.map ρ, cap.toList.map ρ, by rw [show (first.toList.map ρ).toArray = first.map ρ from by simp [<- Array.toList_map], show (cap.toList.map ρ).toArray = cap.map ρ from by simp [<- Array.toList_map]], E.args h1, E.args h2⟩
 case makeSlice t l c =>
  split at hc
  ·rename_i e hu
   simp only [Option.bind_eq_bind, Option.pure_def] at hc
   obtain ⟨sz, hs, hc⟩ := bind_some hc
   obtain ⟨zs, hz, hc⟩ := bind_some hc
   split at hc
   ·rename_i hsz0
    obtain ⟨by0, hby, hc⟩ := bind_some hc
    obtain ⟨a, ha, hc⟩ := bind_some hc
    obtain ⟨b, hb, hc⟩ := bind_some hc
    cases hc
    simp only [exec] at hx
    have v1 := E.arg ha
    have v2 := E.arg hb
    unfold zaH at hx
    split at hx
    ·rename_i k1 n1 k2 n2 e1 e2
     rw [e1] at v1; rw [e2] at v2
     simp only [VR] at v1 v2
     split at hx
     ·rename_i hb4
      simp only [Option.some.injEq, Prod.mk.injEq] at hx; obtain ⟨rfl, rfl⟩ := hx
      obtain ⟨ti, z, hi, hzv, hzs, hzV, _, hzl⟩ := zbb (μ := μ) (h := h) hz
      obtain ⟨ti', hi', hsz⟩ := zc5 hs
      rw [hi] at hi'; cases hi'
      have hbb : ti.bytes = by0 := by simpa [zde, hi] using hby
      have hrun := run_make (P := P) w t e ti z hu hi hzv k1 k2 n1 n2 hb4.1 hb4.2.1 (by rw [hbb]; omega) hb4.2.2.2
      have hmade := zga hzV (by omega) n2.toNat
      rw [hzl] at hmade
      refine OpOk.new_row hr hk hmade e (cv := .slice (some ⟨w.heap.size, 0, none⟩) n1.toNat n2.toNat) ?_ ⟨⟨w.heap.size, 0, 0⟩, n2.toNat, by simp, by omega, by unfold maxLen; omega, by simp, zcx ?_, by simp⟩
      ·simp [execOp, v1, v2, hrun]
      ·simp [O.len, O.cells, zaq, hzl, hsz]
     ·cases hx
    ·cases hx
   ·cases hc
  ·cases hc
 case slice t x lo hi mx =>
  split at hc
  ·rename_i hu
   split at hc
   ·cases hc
   ·rename_i hmx
    simp only [Option.bind_eq_bind, Option.pure_def] at hc
    obtain ⟨a, ha, hc⟩ := bind_some hc
    obtain ⟨l, hl, hc⟩ := bind_some hc
    obtain ⟨b, hb, hc⟩ := bind_some hc
    cases hc
    have hm : mx = none := by cases mx with
     | none => rfl
     | some _ => simp at hmx
    subst hm
    simp only [execOp, Option.map_none]
    exact zaM hr hx fun v' e => zhH hu (E.arg ha) (zeg E hl) (zeg E hb) e
  ·rename_i e hu
   split at hc
   ·cases hc
   ·rename_i hmx
    split at hc
    ·simp only [Option.bind_eq_bind, Option.pure_def] at hc
     obtain ⟨sz, hs, hc⟩ := bind_some hc
     obtain ⟨a, ha, hc⟩ := bind_some hc
     obtain ⟨b, hb, hc⟩ := bind_some hc
     cases hc
     simp only [hs, Bool.or_eq_true, not_or, Bool.not_eq_true] at hmx
     simp only [execOp, Option.map_none, Option.map_some]
     exact zaM hr hx fun v' e => znc hr hu hs (by simpa using hmx.2) (E.arg ha) (E.arg hb) e
    ·simp only [Option.bind_eq_bind, Option.pure_def] at hc
     obtain ⟨sz, hs, hc⟩ := bind_some hc
     obtain ⟨a, ha, hc⟩ := bind_some hc
     obtain ⟨l, hl, hc⟩ := bind_some hc
     obtain ⟨b, hb, hc⟩ := bind_some hc
     obtain ⟨m, hm, hc⟩ := bind_some hc
     cases hc
     simp only [hs, Bool.or_eq_true, not_or, Bool.not_eq_true] at hmx
     simp only [execOp]
     refine zaM hr hx fun v' e => zfx hu hs (by simpa using hmx.2) (E.arg ha) (zeg E hl) (zeg E hb) (zeg E hm) ?_ e
     intro hne
     have h1 := hmx.1
     cases mx with
     | none => simp at hm; subst hm; simp at hne
     | some _ =>
      cases hi with
      | none => simp at h1
      | some y =>
       simp only [Option.mapM_some] at hb
       obtain ⟨b', _, rfl⟩ := zae hb
       simp
  ·rename_i n e hu
   split at hc
   ·cases hc
   ·rename_i hmx
    simp only [Bool.or_eq_true, not_or, Bool.not_eq_true, decide_eq_false_iff_not, Nat.not_lt] at hmx
    have hn63 : n ≤ maxLen := by unfold maxLen; exact hmx.2
    replace hmx := hmx.1
    simp only [Option.bind_eq_bind, Option.pure_def] at hc
    obtain ⟨sz, hs, hc⟩ := bind_some hc
    obtain ⟨a, ha, hc⟩ := bind_some hc
    obtain ⟨l, hl, hc⟩ := bind_some hc
    obtain ⟨b, hb, hc⟩ := bind_some hc
    obtain ⟨m, hm, hc⟩ := bind_some hc
    cases hc
    simp only [execOp]
    refine zaM hr hx fun v' ex => ?_
    have h3 : (m.map (·.ev tm)) ≠ none -> (b.map (·.ev tm)) ≠ none := by
     intro hne
     cases mx with
     | none => simp at hm; subst hm; simp at hne
     | some _ =>
      cases hi with
      | none => simp at hmx
      | some y =>
       simp only [Option.mapM_some] at hb
       obtain ⟨b', _, rfl⟩ := zae hb
       simp
    unfold zfc at ex
    have hva := E.arg ha
    split at ex
    ·rename_i i0 n0 off hav
     rw [hav] at hva
     obtain ⟨pl, hcx, rf⟩ := hva
     split at ex
     ·rename_i mN em
      split at ex
      ·rename_i hN eh
       split at ex
       ·rename_i lN el
        split at ex
        ·rename_i hle
         simp at ex; subst ex
         have hbd := zdG (P := P) (w := w) (isSlice := false) (zeg E hl) (zeg E hb) (zeg E hm) h3 em eh el
         have hlh : lN ≤ hN := zaW (Nat.zero_le _) el
         have hmn : mN ≤ n := zaW (Nat.le_refl _) em
         refine ⟨.slice (some (if mN = lN then ⟨pl.blk, pl.base + off, none⟩ else (⟨pl.blk, pl.base + off, none⟩ : Addr).add (lN * sz))) (hN - lN) (mN - lN), by simp [Instr.sliceAt, run_underlying hu, hcx, Instr.sureAddr, hbd, zau hs], ?_⟩
         have hle63 : n ≤ maxLen := hn63
         refine ⟨pl, mN - lN, ?_, by omega, by omega, by simp, rf, by simp⟩
         split
         ·simp
         ·simp [Addr.add_off, Nat.add_assoc]
        ·cases ex
       ·cases ex
      ·cases ex
     ·cases ex
    ·cases ex
  ·cases hc
 case fieldAddr s x f =>
  split at hc
  ·rename_i fs hu
   simp only [Option.bind_eq_bind, Option.pure_def] at hc
   obtain ⟨fd, hf, hc⟩ := bind_some hc
   obtain ⟨n, hs, hc⟩ := bind_some hc
   split at hc
   ·rename_i hn
    obtain ⟨a, ha, hc⟩ := bind_some hc
    cases hc
    simp only [exec] at hx
    have hva := E.arg ha
    split at hx
    ·rename_i i0 n0 o0 hav
     rw [hav] at hva
     simp only [Option.some.injEq, Prod.mk.injEq] at hx; obtain ⟨rfl, rfl⟩ := hx
     obtain ⟨c, h1, h2⟩ := zgv (P := P) (w := w) hu hf hs hn hva
     exact OpOk.keep hr (by simp [execOp, h1]) h2
    ·rename_i g0 o0 hav
     rw [hav] at hva
     simp only [Option.some.injEq, Prod.mk.injEq] at hx; obtain ⟨rfl, rfl⟩ := hx
     obtain ⟨c, h1, h2⟩ := zfZ (P := P) (w := w) hu hf hs hn hva
     exact OpOk.keep hr (by simp [execOp, h1]) h2
    ·cases hx
   ·cases hc
  ·cases hc
 case field s x f =>
  split at hc
  ·rename_i fs hu
   simp only [Option.bind_eq_bind, Option.pure_def] at hc
   obtain ⟨fd, hf, hc⟩ := bind_some hc
   obtain ⟨agg, hag, hc⟩ := bind_some hc
   obtain ⟨n, hs, hc⟩ := bind_some hc
   obtain ⟨a, ha, hc⟩ := bind_some hc
   cases hc
   simp only [exec] at hx
   have hva := E.arg ha
   split at hx
   ·rename_i cs hav
    rw [hav] at hva
    simp only [execOp]
    exact zaM hr hx fun v' e => zlr hu hf hag hs hva e
   ·cases hx
  ·cases hc
 case indexAddr t x y =>
  split at hc
  ·rename_i e hu
   simp only [Option.bind_eq_bind, Option.pure_def] at hc
   obtain ⟨sz, hs, hc⟩ := bind_some hc
   obtain ⟨a, ha, hc⟩ := bind_some hc
   obtain ⟨b, hb, hc⟩ := bind_some hc
   cases hc
   simp only [execOp]
   exact zaM hr hx fun v' e => zg1 hu hs (E.arg ha) (E.arg hb) e
  ·rename_i n e hu
   simp only [Option.bind_eq_bind, Option.pure_def] at hc
   obtain ⟨sz, hs, hc⟩ := bind_some hc
   obtain ⟨a, ha, hc⟩ := bind_some hc
   obtain ⟨b, hb, hc⟩ := bind_some hc
   cases hc
   simp only [execOp]
   exact zaM hr hx fun v' e => zeT hu hs (E.arg ha) (E.arg hb) e
  ·cases hc
 case index t x y =>
  split at hc
  ·rename_i hu
   simp only [Option.bind_eq_bind, Option.pure_def] at hc
   obtain ⟨a, ha, hc⟩ := bind_some hc
   obtain ⟨b, hb, hc⟩ := bind_some hc
   cases hc
   simp only [execOp]
   exact zaM hr hx fun v' e => zhD hu (E.arg ha) (E.arg hb) e
  ·rename_i n e hu
   simp only [Option.bind_eq_bind, Option.pure_def] at hc
   obtain ⟨agg, hag, hc⟩ := bind_some hc
   obtain ⟨sz, hs, hc⟩ := bind_some hc
   obtain ⟨a, ha, hc⟩ := bind_some hc
   obtain ⟨b, hb, hc⟩ := bind_some hc
   cases hc
   simp only [execOp]
   exact zaM hr hx fun v' e => zht hu hag hs (E.arg ha) (E.arg hb) e
  ·cases hc
 case makeMap t r =>
  cases r with
  | some r => cases hc
  | none =>
   simp only [Option.some.injEq] at hc; subst hc
   simp only [exec, Option.some.injEq, Prod.mk.injEq] at hx; obtain ⟨rfl, rfl⟩ := hx
   obtain ⟨w', h1, h2⟩ := ziS (P := P) hr hk t
   exact ⟨_, .map (some w.heap.size), w', _, by simp [execOp, h1], .inl rfl, h2, ⟨⟨w.heap.size, 0, 0⟩, rfl, zcx rfl⟩, Ext.push hk _ _, by simp⟩
 case lookup t x k ok =>
  split at hc
  ·rename_i kt et hu
   simp only [Option.bind_eq_bind, Option.pure_def] at hc
   obtain ⟨kd, hkd, hc⟩ := bind_some hc
   obtain ⟨z, hz, hc⟩ := bind_some hc
   obtain ⟨a, ha, hc⟩ := bind_some hc
   obtain ⟨b, hb, hc⟩ := bind_some hc
   cases hc
   simp only [exec] at hx
   exact zaM hr hx fun v' e => zkw hu hkd hz hr (E.arg ha) (E.arg hb) e
  ·cases hc
 case mapUpdate t m k x =>
  split at hc
  ·rename_i kt et hu
   simp only [Option.bind_eq_bind, Option.pure_def] at hc
   obtain ⟨kd, hkd, hc⟩ := bind_some hc
   obtain ⟨a, ha, hc⟩ := bind_some hc
   obtain ⟨b, hb, hc⟩ := bind_some hc
   obtain ⟨c, hcc, hc⟩ := bind_some hc
   cases hc
   simp only [exec] at hx
   obtain ⟨d', hd, e⟩ := zae hx
   simp only [Prod.mk.injEq] at e; obtain ⟨rfl, rfl⟩ := e
   obtain ⟨w', h1, h2, h3, h4⟩ := zgW (P := P) (k0 := fr) hu hkd hr (E.arg ha) (E.arg hb) (E.arg hcc) hd
   exact ⟨_, undef, w', μ, by simp [execOp, h1], .inr ⟨rfl, rfl⟩, h2, zgq, h3, fun e => absurd e h4⟩
  ·cases hc
 case insert t m k x =>
  split at hc
  ·rename_i kt et hu
   simp only [Option.bind_eq_bind, Option.pure_def] at hc
   obtain ⟨kd, hkd, hc⟩ := bind_some hc
   obtain ⟨a, ha, hc⟩ := bind_some hc
   obtain ⟨b, hb, hc⟩ := bind_some hc
   obtain ⟨c, hcc, hc⟩ := bind_some hc
   cases hc
   simp only [exec] at hx
   obtain ⟨d', hd, e⟩ := zae hx
   simp only [Prod.mk.injEq] at e; obtain ⟨rfl, rfl⟩ := e
   obtain ⟨w', h1, h2, h3, h4⟩ := zgW (P := P) (k0 := fr) hu hkd hr (E.arg ha) (E.arg hb) (E.arg hcc) hd
   exact ⟨_, undef, w', μ, by simp [execOp, h1], .inr ⟨rfl, rfl⟩, h2, zgq, h3, fun e => absurd e h4⟩
  ·cases hc
 case extract x n =>
  obtain ⟨a, ha, rfl⟩ := zae hc
  simp only [exec] at hx
  have hva := E.arg ha
  split at hx
  ·rename_i vs hav
   rw [hav] at hva
   obtain ⟨cc, hcx, hvs⟩ := hva
   simp only [execOp]
   refine zaM hr hx fun v' e => ?_
   obtain ⟨c, h1, h2⟩ := hvs.get e
   exact ⟨c, by simp [hcx, Instr.extract, h1], h2⟩
  ·cases hx
 case call c =>
  obtain ⟨callee, args, argTypes⟩ := c
  cases callee with
  | value f =>
   cases f with
   | func g =>
    simp only at hc
    split at hc
    ·rename_i e x y hex hal
     simp only [Option.bind_eq_bind, Option.pure_def] at hc
     obtain ⟨a, ha, hc⟩ := bind_some hc
     obtain ⟨b, hb, hc⟩ := bind_some hc
     cases hc
     simp only [exec] at hx
     obtain ⟨he, rfl⟩ := zaE hx
     have hargs : args = #[x, y] := by
      have : args.toList.toArray = [x, y].toArray := by rw [hal]
      simpa using this
     subst hargs
     obtain ⟨c, h1, h2⟩ := zpi (P := P) (w := w) hex (E.arg ha) (E.arg hb) he
     exact OpOk.keep hr (by simp [execOp, resolve, E.f, Deferred.ofValue, invoke, h1]) h2
    ·cases hc
   | tmp t => cases hc
   | const v => cases hc
   | global n => cases hc
  | invoke r m => cases hc
  | builtin b =>
   have hargs : ∀ l : List Operand, args.toList = l -> args = l.toArray := by
    intro l e; subst e; simp
   have htys : ∀ l : List TypeId, argTypes.toList = l -> argTypes = l.toArray := by
    intro l e; subst e; simp
   cases b <;> simp only [reduceCtorEq] at hc
   case len =>
    split at hc
    ·rename_i x t hal htl
     obtain rfl := hargs _ hal
     obtain rfl := htys _ htl
     have fin : ∀ (k : Nat) (hu : match k with | 0 => P.underlying t = some .string | 1 => ∃ e, P.underlying t = some (.slice e) | 2 => ∃ a b, P.underlying t = some (.map a b) | _ => False), (zag x).map (.len k) = some i ->
       OpOk W0 μ h fr w ((execOp ρ { dst := dst, op := .call { callee := .builtin .len, args := #[x], argTypes := #[t] }, type := type, pos := pos, after := after, guard := guard }).run P w) v d := by
      intro k hu hc
      obtain ⟨a, ha, rfl⟩ := zae hc
      simp only [exec] at hx
      obtain ⟨e, rfl⟩ := zaE hx
      have hva := E.arg ha
      unfold lenV at e
      split at e
      ·rename_i s hav
       split at e
       ·rename_i hk; subst hk; cases e
        rw [hav] at hva; simp only [VR] at hva
        exact OpOk.keep hr (by simp [execOp, resolve, invoke, builtin, Builtin.len_, run_underlying hu, hva, goInt, zdy]) rfl
       ·cases e
      ·rename_i hav
       split at e
       ·rename_i hk; subst hk; cases e
        obtain ⟨el, hu⟩ := hu
        rw [hav] at hva; obtain ⟨_, _, hva, _⟩ := hva
        exact OpOk.keep hr (by simp [execOp, resolve, invoke, builtin, Builtin.len_, run_underlying hu, hva, goInt]) rfl
       ·cases e
      ·rename_i hav
       split at e
       ·rename_i hk; subst hk; cases e
        obtain ⟨el, hu⟩ := hu
        rw [hav] at hva; simp only [VR] at hva
        exact OpOk.keep hr (by simp [execOp, resolve, invoke, builtin, Builtin.len_, run_underlying hu, hva, goInt]) rfl
       ·cases e
      ·rename_i hav
       split at e
       ·rename_i hk; subst hk; cases e
        obtain ⟨el, hu⟩ := hu
        rw [hav] at hva; obtain ⟨_, _, hva, _⟩ := hva
        exact OpOk.keep hr (by simp [execOp, resolve, invoke, builtin, Builtin.len_, run_underlying hu, hva, goInt]) rfl
       ·cases e
      ·rename_i hav
       split at e
       ·rename_i hk; subst hk; cases e
        obtain ⟨e1, e2, hu⟩ := hu
        rw [hav] at hva; simp only [VR] at hva
        exact OpOk.keep hr (by simp [execOp, resolve, invoke, builtin, Builtin.len_, run_underlying hu, hva, goInt]) rfl
       ·cases e
      ·rename_i j hav
       split at e
       ·rename_i hk; subst hk
        split at e
        ·rename_i es _ _ hg
         cases e
         obtain ⟨e1, e2, hu⟩ := hu
         rw [hav] at hva; obtain ⟨pl, hva, rf⟩ := hva
         obtain rfl := rf.at hg rfl
         obtain ⟨_, ces, clock, hh, hk, _⟩ := hr.obj _ _ hg
         have hlen := hk.length
         simp at hlen
         refine OpOk.keep hr (cv := .int .i64 es.length) ?_ rfl
         simp [execOp, resolve, invoke, builtin, Builtin.len_, run_underlying hu, hva, goInt, getObj, Sem.run, hh, hlen]
        ·cases e
       ·cases e
      ·cases e
     split at hc
     ·exact fin 0 (by assumption) hc
     ·exact fin 1 ⟨_, by assumption⟩ hc
     ·exact fin 2 ⟨_, _, by assumption⟩ hc
     ·rename_i n e hu
      cases hc
      simp only [exec, Option.some.injEq, Prod.mk.injEq] at hx; obtain ⟨rfl, rfl⟩ := hx
      exact OpOk.keep hr (by simp [execOp, resolve, invoke, builtin, Builtin.len_, run_underlying hu, goInt]) rfl
     ·cases hc
    ·cases hc
   case append =>
    split at hc
    ·rename_i s x t u hal htl
     obtain rfl := hargs _ hal
     obtain rfl := htys _ htl
     have fin : ∀ (e : TypeId) (d0 : TypeDesc), P.underlying t = some (.slice e) -> P.underlying u = some d0 -> ((∃ y, d0 = .slice y) ∨ d0 = .string) -> (do
       let _ <- zcH P e
       pure (I.append (<- szOf P e) (<- zde P e) (<- zag s) (<- zag x)) : Option I) = some i ->
       OpOk W0 μ h fr w ((execOp ρ { dst := dst, op := .call { callee := .builtin .append, args := #[s, x], argTypes := #[t, u] }, type := type, pos := pos, after := after, guard := guard }).run P w) v d := by
      intro e d0 hu1 hu2 hd hc
      simp only [Option.bind_eq_bind, Option.pure_def] at hc
      obtain ⟨zs, hz, hc⟩ := bind_some hc
      obtain ⟨sz, hs, hc⟩ := bind_some hc
      obtain ⟨by0, hby, hc⟩ := bind_some hc
      obtain ⟨a, ha, hc⟩ := bind_some hc
      obtain ⟨b, hb, hc⟩ := bind_some hc
      cases hc
      simp only [exec] at hx
      obtain ⟨cv, w', μ', h1, h2, h3, h4, h5⟩ := zjK (P := P) (ty := type) hu1 hu2 hd hs hby hz hr hk (E.arg ha) (E.arg hb) hx
      exact ⟨.value cv, cv, w', μ', by simp [execOp, resolve, invoke, builtin, h1], .inl rfl, h2, h3, h4, h5⟩
     split at hc
     ·exact fin _ _ (by assumption) (by assumption) (.inl ⟨_, rfl⟩) hc
     ·exact fin _ _ (by assumption) (by assumption) (.inr rfl) hc
     ·cases hc
    ·cases hc
   case copy =>
    split at hc
    ·rename_i x y t ts hal htl
     obtain rfl := hargs _ hal
     obtain rfl := htys _ htl
     split at hc
     ·rename_i e hu
      simp only [Option.bind_eq_bind, Option.pure_def] at hc
      obtain ⟨sz, hs, hc⟩ := bind_some hc
      obtain ⟨a, ha, hc⟩ := bind_some hc
      obtain ⟨b, hb, hc⟩ := bind_some hc
      cases hc
      simp only [exec] at hx
      obtain ⟨cv, w', h1, h2, h3, h4, h5⟩ := copy_ok (P := P) (k0 := fr) (ty := type) (ts := ts) hu hs hr (E.arg ha) (E.arg hb) hx
      exact ⟨.value cv, cv, w', μ, by simp [execOp, resolve, invoke, builtin, h1], .inl rfl, h2, h3, h4, fun e => ⟨h5 e, rfl⟩⟩
     ·cases hc
    ·cases hc
   case delete =>
    split at hc
    ·rename_i x y t ts hal htl
     obtain rfl := hargs _ hal
     obtain rfl := htys _ htl
     split at hc
     ·rename_i kt et hu
      simp only [Option.bind_eq_bind, Option.pure_def] at hc
      obtain ⟨kd, hkd, hc⟩ := bind_some hc
      obtain ⟨a, ha, hc⟩ := bind_some hc
      obtain ⟨b, hb, hc⟩ := bind_some hc
      cases hc
      simp only [exec] at hx
      obtain ⟨d', hd, e⟩ := zae hx
      simp only [Prod.mk.injEq] at e; obtain ⟨rfl, rfl⟩ := e
      obtain ⟨w', h1, h2, h3, h5⟩ := zkB (P := P) (k0 := fr) (ty := type) (ts := ts) hu hkd hr (E.arg ha) (E.arg hb) hd
      exact ⟨.value (.tuple #[]), .tuple #[], w', μ, by simp [execOp, resolve, invoke, builtin, h1], .inl rfl, h2, ⟨[], rfl, VRs.nil⟩, h3, fun e => ⟨h5 e, rfl⟩⟩
     ·cases hc
    ·cases hc
   case clear =>
    split at hc
    ·rename_i x t hal htl
     obtain rfl := hargs _ hal
     obtain rfl := htys _ htl
     split at hc
     ·rename_i e hu
      simp only [Option.bind_eq_bind, Option.pure_def] at hc
      obtain ⟨sz, hs, hc⟩ := bind_some hc
      obtain ⟨z, hz, hc⟩ := bind_some hc
      obtain ⟨a, ha, hc⟩ := bind_some hc
      cases hc
      simp only [exec] at hx
      obtain ⟨d', hd, e⟩ := zae hx
      simp only [Prod.mk.injEq] at e; obtain ⟨rfl, rfl⟩ := e
      obtain ⟨w', h1, h2, h3, h5⟩ := ziU (P := P) (k0 := fr) (ty := type) hu hz hr (E.arg ha) hd
      exact ⟨.value (.tuple #[]), .tuple #[], w', μ, by simp [execOp, resolve, invoke, builtin, h1], .inl rfl, h2, ⟨[], rfl, VRs.nil⟩, h3, fun e => ⟨h5 e, rfl⟩⟩
     ·rename_i kt et hu
      obtain ⟨a, ha, rfl⟩ := zae hc
      simp only [exec] at hx
      obtain ⟨d', hd, e⟩ := zae hx
      simp only [Prod.mk.injEq] at e; obtain ⟨rfl, rfl⟩ := e
      obtain ⟨w', h1, h2, h3, h5⟩ := zhs (P := P) (k0 := fr) (ty := type) hu hr (E.arg ha) hd
      exact ⟨.value (.tuple #[]), .tuple #[], w', μ, by simp [execOp, resolve, invoke, builtin, h1], .inl rfl, h2, ⟨[], rfl, VRs.nil⟩, h3, fun e => ⟨h5 e, rfl⟩⟩
     ·cases hc
    ·cases hc
   case min =>
    split at hc
    ·rename_i x rest hal
     obtain rfl := hargs _ hal
     simp only [Option.bind_eq_bind, Option.pure_def] at hc
     obtain ⟨a, ha, hc⟩ := bind_some hc
     obtain ⟨as, has, hc⟩ := bind_some hc
     cases hc
     simp only [exec] at hx
     obtain ⟨e, rfl⟩ := zaE hx
     obtain ⟨c, h1, h2⟩ := ze2 (P := P) (w := w) false (E.arg ha) (E.args has) e
     simp only [Bool.false_eq_true, if_false] at h1
     refine OpOk.keep hr (cv := c) ?_ h2
     simp [execOp, resolve, invoke, builtin, Builtin.min_, h1]
    ·cases hc
   case max =>
    split at hc
    ·rename_i x rest hal
     obtain rfl := hargs _ hal
     simp only [Option.bind_eq_bind, Option.pure_def] at hc
     obtain ⟨a, ha, hc⟩ := bind_some hc
     obtain ⟨as, has, hc⟩ := bind_some hc
     cases hc
     simp only [exec] at hx
     obtain ⟨e, rfl⟩ := zaE hx
     obtain ⟨c, h1, h2⟩ := ze2 (P := P) (w := w) true (E.arg ha) (E.args has) e
     simp only [if_true] at h1
     refine OpOk.keep hr (cv := c) ?_ h2
     simp [execOp, resolve, invoke, builtin, Builtin.max_, h1]
    ·cases hc
end Go.Am
