/-
  Contracts: Agree of the reference.
-/
import Derived.Test.YtapokdcbhpdceaaO22
namespace Go.Am
open Go.Proofs

def agR (o p : Opn) : List V → List V
  | [a, b, c, d] => shrC o p a b c d
  | _ => []
def agL (fv ov tv kv : V) (F S T : List Int) (K : List Rest) : List (Nat × V × List (List V)) := [(1, fv, F.map fun x => [.int .i64 x]), (1, ov, S.map fun x => [.int .i64 x]), (1, tv, T.map fun x => [.int .i64 x]), (2, kv, K.map restC)]
theorem agS_snoc (a b : List Add) (l : List Int) (f : Int) : agS a b (l ++ [f]) = if ((addB a f).send && (addB b f).take) = true then agS a b l ++ [f] else agS a b l := by
  unfold agS
  rw [List.filter_append, List.filter_cons]
  split <;> simp
theorem agT_snoc (a b : List Add) (l : List Int) (f : Int) : agT a b (l ++ [f]) = if ((addB a f).take && (addB b f).send) = true then agT a b l ++ [f] else agT a b l := by
  unfold agT
  rw [List.filter_append, List.filter_cons]
  split <;> simp
theorem agK_snoc (k : List Rest) (l : List Int) (f : Int) : agK k (l ++ [f]) = agK k l ++ k.filter fun x => x.fam == f := by simp [agK]
theorem agF_len (o p : Opn) (i : Nat) : (agF o p i).length ≤ i := by
  have := List.length_filter_le (fun f => o.fams.contains f && p.fams.contains f) (fr i)
  unfold agF; simp [fr] at this ⊢; omega
theorem agS_len (a b : List Add) (l : List Int) : (agS a b l).length ≤ l.length := List.length_filter_le _ _
theorem agT_len (a b : List Add) (l : List Int) : (agT a b l).length ≤ l.length := List.length_filter_le _ _
theorem agK_len (k : List Rest) : ∀ (l : List Int), (agK k l).length ≤ l.length * k.length
  | [] => by simp [agK]
  | f :: l => by
    have h1 := List.length_filter_le (fun x : Rest => x.fam == f) k
    have h2 := agK_len k l
    unfold agK at h2 ⊢
    rw [List.flatMap_cons, List.length_append, List.length_cons, Nat.add_mul]; omega

set_option maxRecDepth 100000
theorem ragree_ct {h : H} {o p : Opn} {f a k f' a' k' : V} (ho : OpnAt h.get o f a k) (hp : OpnAt h.get p f' a' k') {Q : V → H → Prop}
    (qno : (checkB o && checkB p) = false → ∀ h2, Ge h h2 → h2.WF → Q (.tup [.agg [.int .i64 0, .nilsl, .bool false, .bool false, .nilsl, .nilsl, .bool false, .bool false, .int .i64 0, .nilsl], .int .i64 2]) h2)
    (qok : checkB o = true → checkB p = true → ∀ fv ov tv kv h2, Ge h h2 → h2.WF → ShrAt h2.get o p fv ov tv kv → Q (.tup [.agg (shrC o p fv ov tv kv), .int .i64 0]) h2) : Acalls Try.prog 27 [opnV o f a k, opnV p f' a' k'] h Q := by
  refine acalls_to Try.func27 S.Href10_Agree_code S.Href10_Agree_enter (Nat.le_of_ble_eq_true rfl) fun wf => ?_; simp only [S.Href10_Agree]
  have o1 := ho.fams.one
  have o2 := ho.adds.one
  have o3 := ho.kept.one
  have p1 := hp.fams.one
  have p2 := hp.adds.one
  have p3 := hp.kept.one
  have a1 : ¬ h.next = h.next + 1 + 1 := by omega
  have a2 : ¬ h.next + 1 = h.next + 1 + 1 := by omega
  simp only [opnV]
  simp [o1, o2, o3, p1, p2, p3, a1]
  obtain ⟨hb, hhb⟩ : ∃ hb, hb = ((h.push (.row (opnC o f a k))).push (.row (opnC p f' a' k'))).push (.row [.int .i64 0, .nilsl, .bool false, .bool false, .nilsl, .nilsl, .bool false, .bool false, .int .i64 0, .nilsl]) := ⟨_, rfl⟩
  have gb : Ge h hb := by rw [hhb]; exact (((Ge.refl _).push _).push _).push _
  have wb : hb.WF := by rw [hhb]; exact ((wf.push _).push _).push _
  have nb : hb.next = h.next + 3 := by rw [hhb]; rfl
  have b1 : ¬ h.next = hb.next := by omega
  have b2 : ¬ h.next + 1 = hb.next := by omega
  have c1 : ∀ x, Ge hb x → cellsAt x.get h.next 11 = some (opnC o f a k) := fun x gx => by rw [gx.cells (by omega), hhb]; simp [opnC, a1]
  have c2 : ∀ x, Ge hb x → cellsAt x.get (h.next + 1) 11 = some (opnC p f' a' k') := fun x gx => by rw [gx.cells (by omega), hhb]; simp [opnC]
  have x3 : hb.get (h.next + 2) = some (.row [.int .i64 0, .nilsl, .bool false, .bool false, .nilsl, .nilsl, .bool false, .bool false, .int .i64 0, .nilsl]) := by rw [hhb]; simp
  simp only [opnC] at hhb c1 c2
  rw [← hhb]
  refine rcheck_ct (ho.ge wf gb) rfl _ ?_
  cases hco : checkB o with
  | false =>
    simp [x3]
    refine qno (by simp [hco]) _ (gb.set (by omega) _) (wb.set (by omega) _)
  | true =>
    simp [c2]
    refine rcheck_ct (hp.ge wf gb) rfl _ ?_
    cases hcp : checkB p with
    | false =>
      simp [x3]
      refine qno (by simp [hcp]) _ (gb.set (by omega) _) (wb.set (by omega) _)
    | true =>
      simp [c1, c2]
      refine and_load (i := h.next + 1) (n := 11) (o := 0) (c := p.four) (by simp) (by simp) (c2 _ (by simp)) rfl (by simp) (by simp) (by simp) fun u w => ?_
      simp [c1]
      refine and_load (i := h.next + 1) (n := 11) (o := 0) (c := p.refresh) (by simp) (by simp) (c2 _ (by simp)) rfl (by simp) (by simp) (by simp) fun u' w' => ?_
      simp [c2]
      obtain ⟨H1, hH1⟩ : ∃ H1, H1 = (hb.push (.row [.int .i64 0, .nilsl, .bool false, .bool false, .nilsl, .nilsl, .bool false, .bool false, .int .i64 0, .nilsl])).set hb.next (.row (shrC o p .nilsl .nilsl .nilsl .nilsl)) := ⟨_, rfl⟩
      have g1 : Ge hb H1 := by rw [hH1]; exact ((Ge.refl _).push _).set (Nat.le_refl _) _
      have w1 : H1.WF := by rw [hH1]; exact (wb.push _).set (by simp) _
      have n1 : H1.next = hb.next + 1 := by rw [hH1]; rfl
      have y1 : H1.get hb.next = some (.row (shrC o p .nilsl .nilsl .nilsl .nilsl)) := by rw [hH1]; simp
      have hs1 : hb.next < H1.next := by omega
      have set_self : H1.set hb.next (.row (shrC o p .nilsl .nilsl .nilsl .nilsl)) = H1 := H.ext' rfl fun j => by
        rw [H.get_set]; split
        · rename_i e'; rw [e', y1]
        · rfl
      simp only [shrC, shHold] at hH1
      rw [← hH1]
      have hgb : ∀ {h2 : H} {fv ov tv kv : V} {F S T : List Int} {K : List Rest}, Rws H1 h2 hb.next H1.next (agR o p) (agL fv ov tv kv F S T K) → Ge hb h2 := fun {h2 fv ov tv kv F S T K} X => ⟨by have := X.ge.1; simp at this; omega, fun i hi => by rw [X.ge.get_ne (by omega) (by omega), g1.2 i hi]⟩
      have hr5 : o.fams.length ≤ 5 := by
        have := rising_len o.fams 0 (by have := checkB_parts o; rw [hco] at this; simp at this; exact this.2.1) (by omega); omega
      have hk5 : p.kept.length ≤ 5 := by
        have := rising_len (p.kept.map Rest.fam) 0 (by have := checkB_parts p; rw [hcp] at this; simp at this; exact this.2.2.2.2) (by omega)
        simp at this; omega
      refine loop_up (fun i t h' => ∃ fv ov tv kv : V, (t 2 = .ptr h.next 11 0 ∧ t 3 = .ptr (h.next + 1) 11 0 ∧ t 4 = .ptr (h.next + 1 + 1) 10 0 ∧ t 6 = .ptr hb.next 10 0 ∧ t 7 = .int .i64 ((i + 1 : Nat) : Int)) ∧
        Rws H1 h' hb.next H1.next (agR o p) (agL fv ov tv kv (agF o p i) (agS o.adds p.adds (agF o p i)) (agT o.adds p.adds (agF o p i)) (agK p.kept (agF o p i)))) 5 ⟨.nilsl, .nilsl, .nilsl, .nilsl, by simp, ⟨?_, w1, ?_, ?_⟩⟩ ?_
      · simp only [agL, List.map_cons, List.map_nil, agR]; rw [set_self]; exact Ge.refl _
      · intro x hx
        simp only [agL, agF, fr, agS, agT, agK, List.mem_cons, List.not_mem_nil, or_false] at hx
        rcases hx with rfl | rfl | rfl | rfl <;> exact Gl.nil _ _ _
      · simp [agL, V.ids]
      rintro i t h2 hi ⟨fv, ov, tv, kv, ⟨t2, t3, t4, t6, t7⟩, X⟩ K hK
      have gb2 := hgb X
      have gh2 := gb.trans gb2
      have hw : IntKind.i64.wrap (((i + 1 : Nat) : Int) + 1) = ((i + 1 + 1 : Nat) : Int) := by rw [wrap_i64_id (by omega) (by omega)]; omega
      have k1 := c1 _ gb2
      have k2 := c2 _ gb2
      obtain ⟨fi, hfi⟩ : ∃ fi : Int, fi = ((i + 1 : Nat) : Int) := ⟨_, rfl⟩
      by_cases hlt : i < 5
      · have hlt' : fi ≤ 5 := by omega
        have lF := agF_len o p i
        have lS := agS_len o.adds p.adds (agF o p i)
        have lT := agT_len o.adds p.adds (agF o p i)
        have lK := agK_len p.kept (agF o p i)
        have lK2 : (agF o p i).length * p.kept.length ≤ 5 * 5 := Nat.mul_le_mul (by omega) hk5
        rw [← hfi] at t7 hw
        have hF := agF_succ o p i
        rw [← hfi] at hF
        simp [t2, t7, hlt', k1]
        refine has_ct (ho.fams.ge wf gh2) _ ?_
        simp
        cases e1 : decide (fi ∈ o.fams) with
        | false =>
          simp only [decide_eq_false_iff_not] at e1
          simp [t7, hw]
          refine hK _ _ hlt ⟨fv, ov, tv, kv, by simp [t2, t3, t4, t6], ?_⟩
          rw [hF, if_neg (by simp [e1])]
          exact X
        | true =>
          simp only [decide_eq_true_eq] at e1
          simp [t3, t7, k2]
          refine has_ct (hp.fams.ge wf gh2) _ ?_
          simp
          cases e2 : decide (fi ∈ p.fams) with
          | false =>
            simp only [decide_eq_false_iff_not] at e2
            simp [t7, hw]
            refine hK _ _ hlt ⟨fv, ov, tv, kv, by simp [t2, t3, t4, t6], ?_⟩
            rw [hF, if_neg (by simp [e2])]
            exact X
          | true =>
            simp only [decide_eq_true_eq] at e2
            rw [if_pos (by simp [e1, e2])] at hF
            rw [hF, agS_snoc, agT_snoc, agK_snoc] at hK
            have hca : ∀ {x : H} {fv ov tv kv : V}, x.get hb.next = some (.row (shrC o p fv ov tv kv)) → cellsAt x.get hb.next 10 = some (shrC o p fv ov tv kv) := fun {x fv ov tv kv} e => by rw [cellsAt_of e (by simp [shrC])]; rfl
            have ca := hca (X.ge.get_set hs1)
            obtain ⟨v2, d, ea, v2o, x4, X2⟩ := X.add (bytes := 8) hs1 rfl 0 (show (agL fv ov tv kv (agF o p i) (agS o.adds p.adds (agF o p i)) (agT o.adds p.adds (agF o p i)) (agK p.kept (agF o p i)))[0]? = some (1, fv, (agF o p i).map fun x => [.int .i64 x]) from rfl) (e := [.int .i64 fi]) rfl rfl (by simp) (by simp) (by simp; omega) (by simp; omega)
            simp only [agL, List.map_cons, List.map_nil, agR, shrC] at x4
            simp only [shrC] at ca
            simp [t6, t7, ca]
            rw [ea]
            simp [x4, cells_of_one v2o, solid_of_one v2o, t6]
            have X2 : Rws H1 (((h2.push (.row [.int .i64 fi])).app d).set hb.next (.row (shrC o p v2 ov tv kv))) hb.next H1.next (agR o p) (agL v2 ov tv kv (agF o p i ++ [fi]) (agS o.adds p.adds (agF o p i)) (agT o.adds p.adds (agF o p i)) (agK p.kept (agF o p i))) := by
              have := X2
              simp only [agL, List.set_cons_zero, List.map_cons, List.map_nil, agR] at this
              simpa [agL] using this
            obtain ⟨h3, hh3⟩ : ∃ h3, h3 = ((h2.push (.row [.int .i64 fi])).app d).set hb.next (.row (shrC o p v2 ov tv kv)) := ⟨_, rfl⟩
            rw [← hh3] at X2
            simp only [shrC] at hh3
            rw [← hh3]
            clear hh3 X ca x4 ea k1 k2 gb2 gh2
            have gb3 := hgb X2
            have gh3 := gb.trans gb3
            have k1 := c1 _ gb3
            have k2 := c2 _ gb3
            simp [t2, t7, k1]
            refine add_ct (ho.ge wf gh3) _ ?_
            simp
            refine guard_meet (fun t' h' => (t' 2 = .ptr h.next 11 0 ∧ t' 3 = .ptr (h.next + 1) 11 0 ∧ t' 4 = .ptr (h.next + 1 + 1) 10 0 ∧ t' 6 = .ptr hb.next 10 0 ∧ t' 7 = .int .i64 fi ∧ t' 73 = .bool ((addB o.adds fi).send && (addB p.adds fi).take)) ∧ h3 = h') ?_ ?_
            · intro K' hK'
              cases e3 : (addB o.adds fi).send with
              | false =>
                simp
                exact hK' _ _ (by simp [t2, t3, t4, t6, t7, e3])
              | true =>
                simp [t3, t7, k2]
                refine add_ct (hp.ge wf gh3) _ ?_
                simp
                exact hK' _ _ (by simp [t2, t3, t4, t6, t7, e3])
            clear t2 t3 t4 t6 t7
            rintro t _ ⟨⟨t2, t3, t4, t6, t7, t73⟩, rfl⟩
            simp [t73]
            refine cond_cut (fun t' h' => ∃ ov : V, (t' 2 = .ptr h.next 11 0 ∧ t' 3 = .ptr (h.next + 1) 11 0 ∧ t' 4 = .ptr (h.next + 1 + 1) 10 0 ∧ t' 6 = .ptr hb.next 10 0 ∧ t' 7 = .int .i64 fi) ∧
              Rws H1 h' hb.next H1.next (agR o p) (agL v2 ov tv kv (agF o p i ++ [fi]) (if ((addB o.adds fi).send && (addB p.adds fi).take) = true then agS o.adds p.adds (agF o p i) ++ [fi] else agS o.adds p.adds (agF o p i)) (agT o.adds p.adds (agF o p i)) (agK p.kept (agF o p i)))) ?_ ?_ ?_
            · intro e R hR
              have ca := hca (X2.ge.get_set hs1)
              obtain ⟨v3, d3, ea3, v3o, x5, X3⟩ := X2.add (bytes := 8) hs1 rfl 1 (show (agL v2 ov tv kv (agF o p i ++ [fi]) (agS o.adds p.adds (agF o p i)) (agT o.adds p.adds (agF o p i)) (agK p.kept (agF o p i)))[1]? = some (1, ov, (agS o.adds p.adds (agF o p i)).map fun x => [.int .i64 x]) from rfl) (e := [.int .i64 fi]) rfl rfl (by simp) (by simp) (by simp; omega) (by simp; omega)
              simp only [agL, List.map_cons, List.map_nil, agR, shrC] at x5
              simp only [shrC] at ca
              simp [t6, t7, ca]
              rw [ea3]
              simp [x5, cells_of_one v3o, solid_of_one v3o, t6]
              refine hR _ _ ⟨v3, by simp [t2, t3, t4, t6, t7], ?_⟩
              rw [if_pos e]
              simp only [agL, List.set_cons_succ, List.set_cons_zero, List.map_cons, List.map_nil, agR, shrC] at X3
              simpa [agL] using X3
            · intro e R hR
              simp
              refine hR _ _ ⟨ov, by simp [t2, t3, t4, t6, t7], ?_⟩
              rw [if_neg (by rw [e]; simp)]
              exact X2
            clear t2 t3 t4 t6 t7 t73 X2 k1 k2 gb3 gh3
            rintro t h4 ⟨ov, ⟨t2, t3, t4, t6, t7⟩, X2⟩
            have gb3 := hgb X2
            have gh3 := gb.trans gb3
            have k1 := c1 _ gb3
            have k2 := c2 _ gb3
            obtain ⟨S2, hS2⟩ : ∃ S2, S2 = (if ((addB o.adds fi).send && (addB p.adds fi).take) = true then agS o.adds p.adds (agF o p i) ++ [fi] else agS o.adds p.adds (agF o p i)) := ⟨_, rfl⟩
            rw [← hS2] at X2 hK
            simp [t2, t7, k1]
            refine add_ct (ho.ge wf gh3) _ ?_
            simp
            refine guard_meet (fun t' h' => (t' 2 = .ptr h.next 11 0 ∧ t' 3 = .ptr (h.next + 1) 11 0 ∧ t' 4 = .ptr (h.next + 1 + 1) 10 0 ∧ t' 6 = .ptr hb.next 10 0 ∧ t' 7 = .int .i64 fi ∧ t' 89 = .bool ((addB o.adds fi).take && (addB p.adds fi).send)) ∧ h4 = h') ?_ ?_
            · intro K' hK'
              cases e3 : (addB o.adds fi).take with
              | false =>
                simp
                exact hK' _ _ (by simp [t2, t3, t4, t6, t7, e3])
              | true =>
                simp [t3, t7, k2]
                refine add_ct (hp.ge wf gh3) _ ?_
                simp
                exact hK' _ _ (by simp [t2, t3, t4, t6, t7, e3])
            clear t2 t3 t4 t6 t7
            rintro t _ ⟨⟨t2, t3, t4, t6, t7, t89⟩, rfl⟩
            simp [t89]
            refine cond_cut (fun t' h' => ∃ tv : V, (t' 2 = .ptr h.next 11 0 ∧ t' 3 = .ptr (h.next + 1) 11 0 ∧ t' 4 = .ptr (h.next + 1 + 1) 10 0 ∧ t' 6 = .ptr hb.next 10 0 ∧ t' 7 = .int .i64 fi) ∧
              Rws H1 h' hb.next H1.next (agR o p) (agL v2 ov tv kv (agF o p i ++ [fi]) S2 (if ((addB o.adds fi).take && (addB p.adds fi).send) = true then agT o.adds p.adds (agF o p i) ++ [fi] else agT o.adds p.adds (agF o p i)) (agK p.kept (agF o p i)))) ?_ ?_ ?_
            · intro e R hR
              have ca := hca (X2.ge.get_set hs1)
              obtain ⟨v3, d3, ea3, v3o, x5, X3⟩ := X2.add (bytes := 8) hs1 rfl 2 (show (agL v2 ov tv kv (agF o p i ++ [fi]) S2 (agT o.adds p.adds (agF o p i)) (agK p.kept (agF o p i)))[2]? = some (1, tv, (agT o.adds p.adds (agF o p i)).map fun x => [.int .i64 x]) from rfl) (e := [.int .i64 fi]) rfl rfl (by simp) (by simp) (by simp; omega) (by simp; omega)
              simp only [agL, List.map_cons, List.map_nil, agR, shrC] at x5
              simp only [shrC] at ca
              simp [t6, t7, ca]
              rw [ea3]
              simp [x5, cells_of_one v3o, solid_of_one v3o, t6]
              refine hR _ _ ⟨v3, by simp [t2, t3, t4, t6, t7], ?_⟩
              rw [if_pos e]
              simp only [agL, List.set_cons_succ, List.set_cons_zero, List.map_cons, List.map_nil, agR, shrC] at X3
              simpa [agL] using X3
            · intro e R hR
              simp
              refine hR _ _ ⟨tv, by simp [t2, t3, t4, t6, t7], ?_⟩
              rw [if_neg (by rw [e]; simp)]
              exact X2
            clear t2 t3 t4 t6 t7 t89 X2 k1 k2 gb3 gh3
            rintro t h5 ⟨tv, ⟨t2, t3, t4, t6, t7⟩, X2⟩
            obtain ⟨T2, hT2⟩ : ∃ T2, T2 = (if ((addB o.adds fi).take && (addB p.adds fi).send) = true then agT o.adds p.adds (agF o p i) ++ [fi] else agT o.adds p.adds (agF o p i)) := ⟨_, rfl⟩
            rw [← hT2] at X2 hK
            have hlk := hp.kept.lenG wf (n := p.kept.length) (by simp)
            simp
            refine loop_up (fun j t h' => ∃ kv : V, (t 2 = .ptr h.next 11 0 ∧ t 3 = .ptr (h.next + 1) 11 0 ∧ t 4 = .ptr (h.next + 1 + 1) 10 0 ∧ t 6 = .ptr hb.next 10 0 ∧ t 7 = .int .i64 fi ∧ t 8 = .int .i64 j) ∧
              Rws H1 h' hb.next H1.next (agR o p) (agL v2 ov tv kv (agF o p i ++ [fi]) S2 T2 (agK p.kept (agF o p i) ++ (p.kept.take j).filter fun x => x.fam == fi))) p.kept.length ⟨kv, by simp [t2, t3, t4, t6, t7], by simpa using X2⟩ ?_
            clear t2 t3 t4 t6 t7 X2
            rintro j t h6 hj ⟨kv, ⟨t2, t3, t4, t6, t7, t8⟩, X⟩ K2 hK2
            have gb3 := hgb X
            have gh3 := gb.trans gb3
            have k2 := c2 _ gb3
            have hl6 := hlk _ gh3
            by_cases hjt : j < p.kept.length
            · obtain ⟨pp, q, oo, cc, e1, _, e2, e3, e4, e5⟩ := hp.kept.atG wf (k := j) (by simpa using hjt)
              have e2 := e2 _ gh3
              have e50 := e5 0 (by omega)
              simp at e4 e50
              have hwj := wrap_succ hjt (by omega)
              have htk := List.take_append_getElem hjt
              simp [t3, t7, t8, k2, hl6, hjt, e1, e2, e50]
              refine cond_cut (fun t' h' => ∃ kv : V, (t' 2 = .ptr h.next 11 0 ∧ t' 3 = .ptr (h.next + 1) 11 0 ∧ t' 4 = .ptr (h.next + 1 + 1) 10 0 ∧ t' 6 = .ptr hb.next 10 0 ∧ t' 7 = .int .i64 fi ∧ t' 8 = .int .i64 j) ∧
                Rws H1 h' hb.next H1.next (agR o p) (agL v2 ov tv kv (agF o p i ++ [fi]) S2 T2 (agK p.kept (agF o p i) ++ (p.kept.take (j + 1)).filter fun x => x.fam == fi))) ?_ ?_ ?_
              · intro e R hR
                refine dreg_dwp ?_
                have ca := hca (X.ge.get_set hs1)
                simp only [shrC] at ca
                simp [t3, t6, t8, k2, e1, e2, e3, e4, ca]
                have hr : room = 16 := rfl
                have n6 := X.ge.1
                simp only [H.next_set] at n6
                have lKj : (agK p.kept (agF o p i) ++ (p.kept.take j).filter fun x => x.fam == fi).length ≤ 100 := by
                  have := List.length_filter_le (fun x : Rest => x.fam == fi) (p.kept.take j)
                  rw [List.length_append]; rw [List.length_take] at this; omega
                obtain ⟨v3, d3, ea3, v3o, x5, X3⟩ := X.addAt (bytes := 16) hs1 rfl 3 (show (agL v2 ov tv kv (agF o p i ++ [fi]) S2 T2 (agK p.kept (agF o p i) ++ (p.kept.take j).filter fun x => x.fam == fi))[3]? = some (2, kv, (agK p.kept (agF o p i) ++ (p.kept.take j).filter fun x => x.fam == fi).map restC) from rfl) (e := restC p.kept[j]) rfl rfl (by simp) (fun a ha => by obtain ⟨x, _, rfl⟩ := List.mem_map.1 ha; rfl) (by rw [List.length_map]; omega) (by rw [List.length_map]; omega)
                  (get := upds h6.get [(h6.next + 7 * room, .row [.int .i64 p.kept[j].fam, .bool p.kept[j].kept])]) (q := h6.next + 7 * room) (kk := h6.next + 8 * room) (n' := h6.next + 11 * room) (fun i hi => by rw [upds_one, if_neg (by omega)]) (by rw [upds_one, if_pos rfl]; rfl) (by omega) (by omega) (fun i hi => by rw [upds_one, if_neg (by omega), X.wf i (by omega)])
                rw [ea3]
                simp only [agL, List.map_cons, List.map_nil, agR, shrC] at x5
                simp [x5, cells_of_one v3o, solid_of_one v3o, t6]
                refine dwp_end ?_ ?_
                · intro q hq
                  simp only [List.mem_cons, List.not_mem_nil, or_false] at hq
                  subst hq
                  simp [evAt, apart, I.foot, refOf]
                  omega
                · refine hR _ _ ⟨v3, by simp [t2, t3, t4, t6, t7, t8], ?_⟩
                  rw [← htk, List.filter_append, List.filter_cons, if_pos (by simpa using e)]
                  simp only [agL, List.set_cons_succ, List.set_cons_zero, List.map_cons, List.map_nil, agR, shrC] at X3
                  simpa [agL] using X3
              · intro e R hR
                simp
                refine hR _ _ ⟨kv, by simp [t2, t3, t4, t6, t7, t8], ?_⟩
                rw [← htk, List.filter_append, List.filter_cons, if_neg (by simpa using e)]
                simpa using X
              clear t2 t3 t4 t6 t7 t8 X
              rintro t h7 ⟨kv, ⟨t2, t3, t4, t6, t7, t8⟩, X⟩
              simp [t8, hwj]
              exact hK2 _ _ hjt ⟨kv, by simp [t2, t3, t4, t6, t7], X⟩
            · simp [t3, t7, t8, k2, hl6, hjt, hw]
              refine hK _ _ hlt ⟨v2, ov, tv, kv, by simp [t2, t3, t4, t6], ?_⟩
              rw [List.take_of_length_le (by omega)] at X
              exact X
      · have h5 : i = 5 := by omega
        have n2 := X.ge.1
        simp only [H.next_set] at n2
        subst h5
        rw [← hfi] at t7
        have hgt : ¬ fi ≤ 5 := by omega
        have hF := agF_eq (p := p) hco
        have ra : rising 0 (o.adds.map Add.fam) = true := by
          have := checkB_parts o; rw [hco] at this; simp at this
          have := this.2.2.1; rw [risingA_eq] at this; simp at this; exact this.1
        have rb : rising 0 (p.adds.map Add.fam) = true := by
          have := checkB_parts p; rw [hcp] at this; simp at this
          have := this.2.2.1; rw [risingA_eq] at this; simp at this; exact this.1
        have hS := agS_eq (fl := agF o p 5) ra rb
        have hT := agT_eq (fl := agF o p 5) ra rb
        have hK' : agK p.kept (agF o p 5) = shKept o p := by rw [hF]; exact agK_sh hco hcp
        rw [hS, hT, hK', hF] at X
        have gf := X.gl (1, fv, (shFams o p).map fun x => [.int .i64 x]) (by simp [agL])
        have go := X.gl (1, ov, (bothB o.adds p.adds (shFams o p)).map fun x => [.int .i64 x]) (by simp [agL])
        have gt := X.gl (1, tv, (bothB p.adds o.adds (shFams o p)).map fun x => [.int .i64 x]) (by simp [agL])
        have gk := X.gl (2, kv, (shKept o p).map restC) (by simp [agL])
        have fv1 := gf.one
        have ov1 := go.one
        have tv1 := gt.one
        have kv1 := gk.one
        have x2 := X.ge.get_set hs1
        have ca : cellsAt h2.get hb.next 10 = some (shrC o p fv ov tv kv) := by
          rw [cellsAt_of x2 (by simp [agL, agR, shrC])]; rfl
        have x9 : h2.get (h.next + 1 + 1) = some (.row [.int .i64 0, .nilsl, .bool false, .bool false, .nilsl, .nilsl, .bool false, .bool false, .int .i64 0, .nilsl]) := by rw [gb2.2 _ (by omega)]; exact x3
        simp only [shrC] at ca
        simp only at fv1 ov1 tv1 kv1
        simp [t4, t6, t7, hgt, ca, x9, fv1, ov1, tv1, kv1]
        have lF : (shFams o p).length ≤ 5 := Nat.le_trans (List.length_filter_le _ _) hr5
        have lB : ∀ a b : List Add, (bothB a b (shFams o p)).length ≤ 5 := fun a b => Nat.le_trans (List.length_filter_le _ _) lF
        have lK : (shKept o p).length ≤ 5 := Nat.le_trans (List.length_filter_le _ _) hk5
        have key : ∀ {sz : Nat} {w : V} {es : List (List V)} (ob : O), Gl h2 H1.next sz w es → Gl (h2.set (h.next + 1 + 1) ob) H1.next sz w es := fun ob g => g.keep (by simp) (fun j hj => by have := (g.lo j hj).1; rw [H.get_set, if_neg (by omega)])
        refine qok hco hcp fv ov tv kv _ (gh2.set (by omega) _) (X.wf.set (by omega) _) ⟨(key _ gf).sls (by simp) (by rw [List.length_map]; omega), (key _ go).sls (by simp) (by rw [List.length_map]; have := lB o.adds p.adds; omega), (key _ gt).sls (by simp) (by rw [List.length_map]; have := lB p.adds o.adds; omega), (key _ gk).sls (by simp) (by rw [List.length_map]; omega)⟩
end Go.Am
