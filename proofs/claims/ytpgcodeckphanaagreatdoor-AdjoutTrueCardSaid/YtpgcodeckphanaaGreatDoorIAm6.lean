/-
 AM, PART 6. New blocks; conversions; append, copy; least and greatest.
-/
import Derived.Test.YtpgcodeckphanaaGreatDoorIAm5
import Derived.Lib.AppendStr
namespace Go.Am

variable {P : Program} {W0 : World} {μ : Nat -> Pl} {h : H} {w : World}

theorem zkm {α : Type} (l : List α) (hl : l.length ≠ 0) : ∀ (c k : Nat), k < c * l.length -> (List.replicate c l).flatten[k]? = l[k % l.length]?
 | 0, k, hk => by simp at hk
 | c + 1, k, hk => by
  rw [List.replicate_succ, List.flatten_cons]
  by_cases h1 : k < l.length
  ·rw [List.getElem?_append_left h1, Nat.mod_eq_of_lt h1]
  ·rw [List.getElem?_append_right (by omega), zkm l hl c (k - l.length) (by rw [Nat.add_mul] at hk; omega)]
   congr 1
   rw [Nat.mod_eq_sub_mod (by omega : l.length ≤ k)]
theorem zga {zs : List V} {z : Array Value} (hv : VRs μ h zs z.toList) (hz : zs.length ≠ 0) (c : Nat) : VRs μ h (zaq c zs) (madeCells z (c * zs.length)).toList := by
 have hsz : z.size = zs.length := by have := hv.length; simpa using this
 refine VRs.of_get (by simp [zaq, madeCells]) fun k v x h1 h2 => ?_
 have hk : k < c * zs.length := by
  have := (List.getElem?_eq_some_iff.1 h1).1
  simpa [zaq] using this
 rw [zaq, zkm zs hz c k hk] at h1
 obtain ⟨y, hy, hr⟩ := hv.get h1
 have hmod : k % zs.length < zs.length := Nat.mod_lt _ (by omega)
 have : x = y := by
  simp only [madeCells, Array.toList_map, Array.toList_range, List.getElem?_map, List.getElem?_range hk, Option.map_some, Option.some.injEq] at h2
  rw [<- h2, hsz]
  have hy' : z[k % zs.length]? = some y := by simpa using hy
  rw [getElem!_def, hy']
 rw [this]; exact hr

theorem OpOk.new_row (hr : Rel W0 μ h w) {k : Nat} (hk : h.get k = none) {cs : List V} {cc : List Value} (hv : VRs μ h cs cc) (e : TypeId) {r : Result Next} {v : V} {cv : Value}
  (er : r = .ok (.value cv) (w.alloc (.cells cc.toArray e))) (hc : VR (upd μ k ⟨w.heap.size, 0, 0⟩) (h.pushAt k (.row cs)) v cv) : OpOk W0 μ h k w r v (.push (.row cs)) :=
 ⟨_, cv, _, _, er, .inl rfl, zl9 hr hk hv e, hc, Ext.push hk _ _, by simp⟩

theorem zhQ (off : Nat) : ∀ (l : List Value) (j : Nat) (cs : Array Value), off + j + l.length ≤ cs.size ->
  ((l.zipIdx j).foldl (fun (cs : Array Value) (x : Value × Nat) => cs.setIfInBounds (off + x.2) x.1) cs).toList = cs.toList.take (off + j) ++ l ++ cs.toList.drop (off + j + l.length)
 | [], j, cs, _ => by simp
 | v :: l, j, cs, hl => by
  simp only [List.zipIdx_cons, List.foldl_cons]
  rw [zhQ off l (j + 1) _ (by simp at hl ⊢; omega)]
  have := zid cs.toList (off + j) v l (by simp at hl ⊢; omega)
  simp only [Array.toList_setIfInBounds, List.length_cons, <- Nat.add_assoc] at this ⊢
  exact this

def zjh (μ : Nat -> Pl) (h : H) (place : Nat -> Option (Nat × Nat)) : List (Nat × Nat × V) -> List (Nat × Value) -> Prop
 | [], cs => cs = []
 | p :: ps, cs => ∃ c cs', cs = c :: cs' ∧ place c.1 = some (p.1, p.2.1) ∧ VR μ h p.2.2 c.2 ∧ zjh μ h place ps cs'

theorem zfQ {place : Nat -> Option (Nat × Nat)} : ∀ {ps : List (Nat × Nat × V)} {cps : List (Nat × Value)} {cs : List V} {cc : List Value} {out : List V}, VRs μ h cs cc ->
  zjh μ h place ps cps -> zcI cs ps = some out ->
  ∃ o : List Value, Instr.fill place cc.toArray cps = some o.toArray ∧ VRs μ h out o
 | [], _, cs, cc, out, hv, hp, e => by
  simp only [zjh] at hp
  subst hp
  simp [zcI] at e; subst e
  exact ⟨cc, rfl, hv⟩
 | (off, sz, v) :: ps, _, cs, cc, out, hv, hp, e => by
   obtain ⟨⟨i, cvl⟩, cps, rfl, hpl, hvr, h2⟩ := hp
   simp only [zcI] at e
   split at e
   ·rename_i hc
    simp only [Bool.and_eq_true, beq_iff_eq, decide_eq_true_eq] at hc
    obtain ⟨⟨hs, hl⟩, hf⟩ := hc
    obtain ⟨hvc, h1c⟩ := hvr.solid_cells hs
    have hcs : cvl.cells.size = sz := by rw [<- hl, <- hvc.length]; simp
    have hlen := hv.length
    have hput : VRs μ h (putCells cs off v.cells) (cc.take off ++ cvl.cells.toList ++ cc.drop (off + sz)) := by
     unfold putCells
     rw [hl]
     exact ((hv.take off).append hvc).append (hv.drop (off + sz))
    obtain ⟨o, ho, hvo⟩ := zfQ (place := place) hput h2 e
    refine ⟨o, ?_, hvo⟩
    simp only [Instr.fill, hpl, hcs]
    rw [if_neg (by simp; omega)]
    have hfold : (cvl.cells.zipIdx.foldl (fun (cs : Array Value) (x : Value × Nat) => cs.setIfInBounds (off + x.2) x.1) cc.toArray) = (cc.take off ++ cvl.cells.toList ++ cc.drop (off + sz)).toArray := by
     apply Array.ext'
     have := zhQ off cvl.cells.toList 0 cc.toArray (by simp; omega)
     rw [<- Array.foldl_toList]
     rw [Array.toList_zipIdx]
     simpa [hcs] using this
    rw [show (fun (cs : Array Value) (x : Value × Nat) => match x with | (c, j) => cs.setIfInBounds (off + j) c) = (fun (cs : Array Value) (x : Value × Nat) => cs.setIfInBounds (off + x.2) x.1) from rfl, hfold]
    exact ho
   ·cases e

theorem zks {w w' : World} (e : w'.heap = w.heap) (a : Addr) : w'.cell? a = w.cell? a := by simp [World.cell?, e]

theorem zdX (hr : Rel W0 μ h w) {sz m : Nat} {x : V} {cx : Value} {xs : List V} (hx : VR μ h x cx) (he : zaB h.get sz x = some (m, xs)) :
  (∀ w', (Builtin.lenOf cx).run P w' = .ok m w') ∧ ∃ cc : List Value, VRs μ h xs cc ∧ cc.length = m * sz ∧ ∀ w', w'.heap = w.heap -> (Builtin.firstCells sz m cx).run P w' = .ok cc.toArray w' := by
 unfold zaB at he
 split at he
 ·rename_i i n off len cap
  obtain ⟨pl, ccap, rfl, _, _, _, rf, _⟩ := hx
  split at he
  ·rename_i h0
   simp at he; obtain ⟨rfl, rfl⟩ := he
   subst h0
   refine ⟨fun _ => rfl, [], VRs.nil, by simp, fun w' _ => ?_⟩
   have := run_firstCells_some (P := P) w' sz 0 ⟨pl.blk, pl.base + off, none⟩ 0 ccap [] (by simp) (by simp)
   simpa using this
  ·split at he
   ·rename_i cs hcs
    obtain ⟨o, ho, hn, rfl⟩ := zcW hcs
    obtain rfl := rf.at ho hn
    split at he
    ·rename_i hl
     simp at he; obtain ⟨rfl, rfl⟩ := he
     obtain ⟨cc, h1, h2, h3⟩ := hr.read ho off (len * sz) hl
     refine ⟨fun _ => rfl, cc, h2, h1, fun w' hw => ?_⟩
     exact run_firstCells_some (P := P) w' sz len ⟨(μ i).blk, (μ i).base + off, none⟩ len ccap cc h1 (fun j v hj => by rw [Addr.add_off, zks hw]; exact h3 j v hj)
    ·cases he
   ·cases he
 ·simp at he; obtain ⟨rfl, rfl⟩ := he
  simp only [VR] at hx; subst hx
  exact ⟨fun _ => rfl, [], VRs.nil, by simp, fun w' _ => by simp [Builtin.firstCells]⟩
 ·simp at he; obtain ⟨rfl, rfl⟩ := he
  obtain ⟨a0, ccap, rfl, _⟩ := hx
  refine ⟨fun _ => rfl, [], VRs.nil, by simp, fun w' _ => ?_⟩
  have := run_firstCells_some (P := P) w' sz 0 a0 0 ccap [] (by simp) (by simp)
  simpa using this
 ·rename_i s
  simp only [VR] at hx; subst hx
  split at he
  ·rename_i h1
   simp at he; obtain ⟨rfl, rfl⟩ := he
   refine ⟨fun _ => by simp [Builtin.lenOf, zdy], s.map fun b => Value.int .u8 b.toNat, ?_, by simp [h1], fun w' _ => ?_⟩
   ·refine VRs.of_get (by simp) fun k v c hk hc => ?_
    simp only [List.getElem?_map] at hk hc
    cases hb : s[k]? with
    | none => simp [hb] at hk
    | some b => simp [hb] at hk hc; subst hk hc; rfl
   ·simp only [Builtin.firstCells, Sem.run_pure]
    congr 1
    apply Array.ext'
    have : (ByteArray.mk s.toArray).extract 0 s.length = ByteArray.mk s.toArray := by
     apply ByteArray.ext; simp
    rw [this]
    simp
  ·cases he
 ·cases he

theorem zho {P : Program} {w : World} {a : Option Addr} {n c : Nat} : (Builtin.lenOf (.slice a n c)).run P w = .ok n w := rfl

section append
variable {t u ty e : TypeId} {i : TypeInfo} {z : Value} {cx : Value} {m : Nat} {news : List Value}
theorem zbk {d : TypeDesc} (ht : P.underlying t = some (.slice e)) (hu : P.underlying u = some d) (hd : (∃ x, d = .slice x) ∨ d = .string) (hi : P.info? e = some i) (hlen : ∀ w', (Builtin.lenOf cx).run P w' = .ok m w')
  (hfc : ∀ w', w'.heap = w.heap -> (Builtin.firstCells i.size m cx).run P w' = .ok news.toArray w') (a : Option Addr) (sLen sCap : Nat) (hroom : sLen + m ≤ sCap) :
  (Builtin.append_ #[t, u] ty #[.slice a sLen sCap, cx]).run P w = match a with
   | some a' => ((storeCells (a'.add (sLen * i.size)) news).run P w).andThen fun _ w' => .ok (.slice a (sLen + m) sCap) w'
   | none => .ok (.slice none (sLen + m) sCap) w := by
 rcases hd with ⟨y, rfl⟩ | rfl <;> cases a <;> simp [Builtin.append_, run_underlying ht, run_underlying hu, sizeOf, typeInfo, hi, hlen, hroom, hfc w rfl]

theorem zdm {d : TypeDesc} (ht : P.underlying t = some (.slice e)) (hu : P.underlying u = some d) (hd : (∃ x, d = .slice x) ∨ d = .string) (hi : P.info? e = some i) (hz : i.zero = some z) (hlen : ∀ w', (Builtin.lenOf cx).run P w' = .ok m w')
  (hfc : ∀ w', w'.heap = w.heap -> (Builtin.firstCells i.size m cx).run P w' = .ok news.toArray w') (a : Option Addr) (sLen sCap : Nat) {olds : List Value}
  (hold : ∀ w', w'.heap = w.heap -> (Builtin.firstCells i.size sLen (.slice a sLen sCap)).run P w' = .ok olds.toArray w') (hg : sCap < sLen + m) (h63 : sLen + m ≤ 9223372036854775807) (hb : (sLen + m) * i.bytes ≤ 140737488355328) :
  (Builtin.append_ #[t, u] ty #[.slice a sLen sCap, cx]).run P w =
   .ok (.slice (some ⟨w.heap.size, 0, none⟩) (sLen + m) (grownCap w (sLen + m) sCap e)) (w.drew.alloc (.cells (olds.toArray ++ news.toArray ++ Builtin.zeroCells z.cells (grownCap w (sLen + m) sCap e - (sLen + m))) e)) := by
 have hn : ¬ (sLen + m ≤ sCap) := by omega
 have hm : IntKind.max .i64 = 9223372036854775807 := by rfl
 have h1 : ¬ ((sLen + m : Nat) : Int) > 9223372036854775807 := by omega
 have h2 : ¬ Builtin.nextslicecap (sLen + m) sCap * i.bytes > 2 ^ 48 := by
  have := growslice_fits hg hb
  simp only [show (2 : Nat) ^ 48 = 281474976710656 from rfl]; omega
 have h1' : ¬ ((9223372036854775807 : Int) < (sLen : Int) + (m : Int)) := by omega
 have h2' : ¬ (281474976710656 < Builtin.nextslicecap (sLen + m) sCap * i.bytes) := by
  have := growslice_fits hg hb; omega
 have hq : (Question.appendCap (sLen + m) sCap e).forced = false := rfl
 have hd1 := hold w.drew rfl
 have hd2 := hfc w.drew rfl
 rcases hd with ⟨y, rfl⟩ | rfl <;> simp [Builtin.append_, run_underlying ht, run_underlying hu, sizeOf, typeInfo, hi, hlen, hn, hm, h1', h2', hq, hd1, hd2, zeroValue, hz, newRow, grownCap] <;> (congr 2; apply Array.ext'; simp [List.append_assoc])
end append

theorem zeS (n : Nat) : zfd (0, 0) n := fun k _ => by simp

theorem zjK {t u ty e : TypeId} {sz bytes : Nat} {d0 : TypeDesc} (ht : P.underlying t = some (.slice e)) (hu : P.underlying u = some d0) (hd : (∃ x, d0 = .slice x) ∨ d0 = .string) (hs : szOf P e = some sz) (hby : zde P e = some bytes) {zs : List V} (hz : zcH P e = some zs)
  (hr : Rel W0 μ h w) {fr : Nat} (hk : h.get fr = none) {s x v : V} {cs cx : Value} {d : D} (vs : VR μ h s cs) (vx : VR μ h x cx) (he : zaG h.get fr sz bytes s x = some (v, d)) :
  ∃ cv w' μ', (Builtin.append_ #[t, u] ty #[cs, cx]).run P w = .ok cv w' ∧ Rel W0 μ' (h.appAt fr d) w' ∧ VR μ' (h.appAt fr d) v cv ∧ Ext μ h μ' (h.appAt fr d) ∧ (d = .keep -> w' = w ∧ μ' = μ) := by
 obtain ⟨i, z, hi, hzv, hzs, hzV, hz1, hzl⟩ := zbb (μ := μ) (h := h) hz
 obtain ⟨i', hi', hsz⟩ := zc5 hs
 rw [hi] at hi'; cases hi'
 have hb' : i.bytes = bytes := by simpa [zde, hi] using hby
 unfold zaG at he
 split at he
 ·cases he
 ·rename_i m xs hel
  obtain ⟨hlen, cc, hcv, hcl, hfc⟩ := zdX (P := P) hr vx hel
  rw [<- hsz] at hcl hfc
  split at he
  ·rename_i hm0
   subst hm0
   have hnil : cc = [] := by simpa using hcl
   subst hnil
   split at he <;> simp at he <;> obtain ⟨rfl, rfl⟩ := he
   ·simp only [VR] at vs; subst vs
    exact ⟨_, w, μ, by rw [zbk ht hu hd hi hlen hfc none 0 0 (by omega)], hr, rfl, Ext.refl _ _, fun _ => ⟨rfl, rfl⟩⟩
   ·obtain ⟨a0, ccap, rfl, hcap⟩ := vs
    exact ⟨_, w, μ, by rw [zbk ht hu hd hi hlen hfc _ 0 ccap (by omega)]; simp [storeCells], hr, ⟨a0, ccap, rfl, hcap⟩, Ext.refl _ _, fun _ => ⟨rfl, rfl⟩⟩
   ·obtain ⟨pl, ccap, rfl, l1, l2, rest⟩ := vs
    exact ⟨_, w, μ, by rw [zbk ht hu hd hi hlen hfc _ _ ccap (by omega)]; simp [storeCells], hr, ⟨pl, ccap, rfl, l1, l2, rest⟩, Ext.refl _ _, fun _ => ⟨rfl, rfl⟩⟩
  ·rename_i hm0
   split at he
   ·cases he
   ·rename_i hones
    simp only [not_or] at hones
    have hx1 : xs.all V.one = true := by simpa using hones.1
    have hsz0 : sz ≠ 0 := hones.2
    have hxl : xs.length = m * sz := by rw [<- hcv.length, hcl, hsz]
    -- a new block with 'old ++ xs'
    have out : ∀ (a : Option Addr) (sLen sCap : Nat) (old : List V) (olds : List Value), VRs μ h old olds -> olds.length = sLen * i.size ->
      (∀ w', w'.heap = w.heap -> (Builtin.firstCells i.size sLen (.slice a sLen sCap)).run P w' = .ok olds.toArray w') -> sCap < sLen + m -> sLen + m ≤ 9223372036854775807 -> (sLen + m) * bytes ≤ 140737488355328 ->
      ∃ cv w' μ', (Builtin.append_ #[t, u] ty #[.slice a sLen sCap, cx]).run P w = .ok cv w' ∧ Rel W0 μ' (h.appAt fr (.push (.grow sz (old ++ xs)))) w' ∧
       VR μ' (h.appAt fr (.push (.grow sz (old ++ xs)))) (.sl fr ((sLen + m) * sz) 0 (sLen + m) none) cv ∧ Ext μ h μ' (h.appAt fr (.push (.grow sz (old ++ xs)))) ∧ (D.push (.grow sz (old ++ xs)) = .keep -> w' = w ∧ μ' = μ) := by
     intro a sLen sCap old olds hvo hol hfo hg h63 hbb
     have hrun := zdm (ty := ty) ht hu hd hi hzv hlen hfc a sLen sCap hfo hg h63 (by rw [hb']; exact hbb)
     have hcap := grownCap_ge w (sLen + m) sCap e
     have hcap2 := grownCap_le_maxLen w (sLen + m) sCap e (by unfold maxLen; omega)
     have hcur : (olds.toArray ++ cc.toArray ++ Builtin.zeroCells z.cells (grownCap w (sLen + m) sCap e - (sLen + m))).size = grownCap w (sLen + m) sCap e * sz := by
      simp only [Array.size_append, List.size_toArray, size_zeroCells, hzs, hol, hcl, <- Nat.add_mul, hsz]
      congr 1; omega
     have hva := hvo.append hcv
     have hlen2 : (old ++ xs).length = (sLen + m) * sz := by rw [List.length_append, <- hvo.length, hol, hxl, hsz, Nat.add_mul]
     refine ⟨_, _, _, hrun, zg8 (hr.drew) hk hva ?_ e (0, 0) (zeS _), ?_, Ext.push hk _ _, by simp⟩
     ·simp only [Array.toList_append, List.append_assoc]
      rw [<- List.append_assoc, hlen2, show (sLen + m) * sz = (olds ++ cc).length from by rw [List.length_append, hol, hcl, hsz, Nat.add_mul]]
      exact List.take_left
     ·refine ⟨⟨w.heap.size, 0, _⟩, grownCap w (sLen + m) sCap e, rfl, hcap, hcap2, by simp, zcx (by simpa [O.len, O.cells] using hlen2), ?_⟩
      intro _ _ o ho _ _
      simp only [H.appAt] at ho
      rw [H.get_pushAt, if_pos rfl] at ho
      cases ho
      simp only [O.sz]
      exact hcur
    split at he
    ·-- nil
     split at he
     ·rename_i hb1
      simp at he; obtain ⟨rfl, rfl⟩ := he
      simp only [VR] at vs; subst vs
      have := out none 0 0 [] [] VRs.nil (by simp) (fun w' _ => by simp [Builtin.firstCells]) (by omega) (by omega) (by simpa using hb1.1)
      simpa using this
     ·cases he
    ·-- capacity known
     rename_i i0 n off len k
     obtain ⟨pl, ccap, rfl, l1, l2, hc, rf, ht0⟩ := vs
     obtain rfl := hc k rfl
     split at he
     ·rename_i hroom
      split at he
      ·rename_i o ho
       split at he
       ·rename_i hn
        cases hp : o.put (off + len * sz) xs with
        | none => simp [hp] at he
        | some o' =>
         simp only [hp, Option.map_some, Option.some.injEq, Prod.mk.injEq] at he
         obtain ⟨rfl, rfl⟩ := he
         obtain ⟨w', hst, hrel, x⟩ := zhV (P := P) hr ho hp hcv (hcv.ones hx1) pl (rf.at ho hn)
         refine ⟨.slice (some ⟨pl.blk, pl.base + off, none⟩) (len + m) ccap, w', μ, ?_, hrel, ⟨pl, ccap, rfl, hroom, l2, hc, rf.ext x, by simp⟩, x, by simp⟩
         rw [zbk ht hu hd hi hlen hfc _ len ccap hroom]
         simp only [Addr.add_off, hsz, Nat.add_assoc] at hst ⊢
         rw [hst]; rfl
       ·cases he
      ·cases he
     ·rename_i hroom
      split at he
      ·rename_i m' old hold
       split at he
       ·rename_i hb1
        simp at he; obtain ⟨rfl, rfl⟩ := he
        obtain ⟨hl2, olds, hvo, hol, hfo⟩ := zdX (P := P) (x := .sl i0 n off len (some ccap)) hr ⟨pl, ccap, rfl, l1, l2, hc, rf, ht0⟩ hold
        have hml : m' = len := by have := hl2 w; rw [zho] at this; cases this; rfl
        subst hml
        rw [<- hsz] at hol hfo
        exact out _ m' ccap old olds hvo hol hfo (by omega) hb1.2 hb1.1
       ·cases he
      ·cases he
    ·-- capacity open
     rename_i i0 n off len
     obtain ⟨pl, ccap, rfl, l1, l2, _, rf, ht0⟩ := vs
     split at he
     ·rename_i sz' old ho
      split at he
      ·rename_i hcond
       obtain ⟨rfl, rfl, hn, hln, hb1, h63⟩ := hcond
       simp at he; obtain ⟨rfl, rfl⟩ := he
       have hpl := rf.at ho (by simpa [O.len, O.cells] using hn)
       subst hpl
       have htot := ht0 rfl rfl _ ho (by simpa [O.len, O.cells] using hn) hsz0
       simp only [O.sz] at htot
       have hob := hr.obj i0 _ ho
       obtain ⟨hb0, hbase, cur, et, fz, hh, hvs, htt, hth⟩ := hob
       have holen : old.length = len * sz' := by rw [hn, <- hln]
       have hgl : (O.grow sz' old).len < (O.grow sz' (old ++ xs)).len := by
        simp only [O.len, O.cells, List.length_append, hxl]
        have := Nat.mul_pos (Nat.pos_of_ne_zero hm0) (Nat.pos_of_ne_zero hsz0)
        omega
       by_cases hroom : len + m ≤ ccap
       ·-- in place
        have hfit : (μ i0).base + (0 + len * sz') + 0 + cc.length ≤ cur.size := by
         rw [hbase, htt, htot, hcl, hsz]
         have := Nat.mul_le_mul_right sz' hroom
         rw [Nat.add_mul] at this
         omega
        have hst := zaP P (μ i0).blk et fz cc ((μ i0).base + (0 + len * sz')) 0 cur w hh hth hfit (hcv.ones hx1)
        have hrun := zbk (ty := ty) ht hu hd hi hlen hfc (some ⟨(μ i0).blk, (μ i0).base + 0, none⟩) len ccap hroom
        simp only [Addr.add_off, hsz, Nat.add_assoc] at hrun hst
        have hsize : ((cur.toList.take ((μ i0).base + (0 + (len * sz' + 0))) ++ cc ++ cur.toList.drop ((μ i0).base + (0 + (len * sz' + (0 + cc.length))))).toArray).size = cur.size := by
         simp only [List.size_toArray, List.length_append, List.length_take, List.length_drop, Array.length_toList]
         omega
        have x : Ext μ h μ (h.set i0 (.grow sz' (old ++ xs))) := Ext.stretch ho rfl (Nat.le_of_lt hgl)
        have hrel := hr.stretch (o' := .grow sz' (old ++ xs)) ho rfl rfl (Nat.le_of_lt hgl) (zcS hr.below hb0 _) (by simp) (fun b _ hne => setRow_other w _ b _ hne)
         ⟨hb0, hbase, _, et, fz, setRow_heap w _ cur (cur.toList.take ((μ i0).base + (0 + (len * sz' + 0))) ++ cc ++ cur.toList.drop ((μ i0).base + (0 + (len * sz' + (0 + cc.length))))).toArray et fz hh, by
          have e2 : (List.take (old ++ xs).length (cur.toList.take ((μ i0).base + (0 + (len * sz' + 0))) ++ cc ++ cur.toList.drop ((μ i0).base + (0 + (len * sz' + (0 + cc.length)))))) = cur.toList.take old.length ++ cc := by
           have : (old ++ xs).length = (cur.toList.take old.length ++ cc).length := by
            simp only [List.length_append, List.length_take, Array.length_toList, hxl, hcl, hsz]
            omega
           rw [this, hbase]
           simp only [Nat.zero_add, Nat.add_zero, <- holen]
           exact List.take_left
          simp only []
          rw [e2]
          exact (hvs.ext x).append (hcv.ext x), by rw [hsize]; exact htt, by rw [hsize]; exact hth⟩
        refine ⟨.slice (some ⟨(μ i0).blk, (μ i0).base + 0, none⟩) (len + m) ccap, _, μ, ?_, hrel.1, ⟨μ i0, ccap, rfl, hroom, l2, by simp, ?_, ?_⟩, hrel.2, by simp⟩
        ·rw [hrun, hst]; rfl
        ·exact ⟨.grow sz' (old ++ xs), by simp [H.appAt, H.get_set], by simp [O.len, O.cells, hxl, hn], fun _ => rfl⟩
        ·intro _ _ o' ho' _ _
         simp only [H.appAt] at ho'
         rw [H.get_set, if_pos rfl] at ho'
         cases ho'
         exact htot
       ·-- a new block
        have hwhole : zaB h.get sz' (.sl i0 n 0 len none) = some (len, old) := by
         unfold zaB
         simp only [zab, ho]
         by_cases hl0 : len = 0
         ·subst hl0
          have : old = [] := by simpa using holen
          simp [this]
         ·rw [if_neg hl0]
          simp only [O.len, O.cells, hn, if_true]
          rw [if_pos (by omega)]
          simp [<- holen]
        obtain ⟨_, olds, hvo, hol, hfo⟩ := zdX (P := P) (x := .sl i0 n 0 len none) hr ⟨μ i0, ccap, rfl, l1, l2, by simp, rf, ht0⟩ hwhole
        rw [<- hsz] at hol hfo
        have hrun := zdm (ty := ty) ht hu hd hi hzv hlen hfc (some ⟨(μ i0).blk, (μ i0).base + 0, none⟩) len ccap hfo (by omega) h63 (by rw [hb']; exact hb1)
        have hcap := grownCap_ge w (len + m) ccap e
        have hcap2 := grownCap_le_maxLen w (len + m) ccap e (by unfold maxLen; omega)
        have hcur : (olds.toArray ++ cc.toArray ++ Builtin.zeroCells z.cells (grownCap w (len + m) ccap e - (len + m))).size = grownCap w (len + m) ccap e * sz' := by
         simp only [Array.size_append, List.size_toArray, size_zeroCells, hzs, hol, hcl, <- Nat.add_mul, hsz]
         congr 1; omega
        have hlen2 : (old ++ xs).length = (len + m) * sz' := by rw [List.length_append, holen, hxl, Nat.add_mul]
        have x : Ext μ h (upd μ i0 ⟨w.heap.size, 0, grownCap w (len + m) ccap e * sz'⟩) (h.set i0 (.grow sz' (old ++ xs))) := Ext.grow _ ho rfl hgl
        have hrel := hr.drew.move (o' := .grow sz' (old ++ xs)) (p := ⟨w.heap.size, 0, grownCap w (len + m) ccap e * sz'⟩) (w' := w.drew.alloc (.cells (olds.toArray ++ cc.toArray ++ Builtin.zeroCells z.cells (grownCap w (len + m) ccap e - (len + m))) e)) ho rfl hgl rfl
         (hr.below.drew.alloc hr.below.size _) (by simp) (fun b hb => Below.heap_alloc w.drew _ b hb)
         ⟨by simp only [zaK]; exact hr.below.size, by simp, _, e, (0, 0), by simp only [zaK]; exact heap_alloc_new w.drew _, by
          have : (List.take (old ++ xs).length (olds.toArray ++ cc.toArray ++ Builtin.zeroCells z.cells (grownCap w (len + m) ccap e - (len + m))).toList) = olds ++ cc := by
           simp only [Array.toList_append, List.append_assoc]
           rw [<- List.append_assoc, hlen2, show (len + m) * sz' = (olds ++ cc).length from by rw [List.length_append, hol, hcl, hsz, Nat.add_mul]]
           exact List.take_left
          rw [this]
          exact (hvo.append hcv).ext x, by simp only [zaK]; exact hcur, zeS _⟩
        refine ⟨_, _, _, hrun, hrel, ⟨⟨w.heap.size, 0, grownCap w (len + m) ccap e * sz'⟩, grownCap w (len + m) ccap e, rfl, hcap, hcap2, by simp, ?_, ?_⟩, x, by simp⟩
        ·exact ⟨.grow sz' (old ++ xs), by simp [H.appAt, H.get_set], by simp [O.len, O.cells, hxl, hn], fun _ => by simp⟩
        ·intro _ _ o' ho' _ _
         simp only [H.appAt] at ho'
         rw [H.get_set, if_pos rfl] at ho'
         cases ho'
         rfl
      ·cases he
     ·cases he
    ·cases he
end Go.Am
