/-
  L6, L7, in one text.
-/
import Derived.Test.YtcokdbloajhapaaGreatDoorLA
import Derived.Test.YtcokdbloajhapaaGreatDoorShS
import Derived.Test.YtcokdbloajhapaaGreatDoorSkR
import Derived.Test.YtcokdbloajhapaaGreatDoorAm32
/-
  NlriLays: Withdrawn.
-/
namespace Go.Am
open Go.Proofs

set_option maxRecDepth 100000
theorem len64z {h : H} : Pure Tryz.prog 64 [.int .u64 0] h (.int .i64 0) := by
  refine pure_to Tryz.func64 S.math_bits_Len64_code S.math_bits_Len64_enter rfl (Nat.le_of_ble_eq_true rfl) fun wf => ?_; simp only [S.math_bits_Len64]
  have w : IntKind.u8.wrap 0 = 0 := by decide
  have w2 : IntKind.i64.wrap 0 = 0 := by decide
  simp [w, w2]
theorem lenz {h : H} : Pure Tryz.prog 66 [.int .u64 0] h (.int .i64 0) := by
  refine pure_to Tryz.func66 S.math_bits_Len_code S.math_bits_Len_enter rfl (Nat.le_of_ble_eq_true rfl) fun wf => ?_; simp only [S.math_bits_Len]
  simp
  refine len64z _ ?_
  simp
theorem isortz {h : H} {v c : V} : Pure Tryz.prog 77 [v, .int .i64 0, .int .i64 0, c] h (.tup []) := by
  refine pure_to Tryz.func77 S.slices_insertionSortCmpFunc_api_Nlri_code S.slices_insertionSortCmpFunc_api_Nlri_enter rfl (Nat.le_of_ble_eq_true rfl) fun wf => ?_; simp only [S.slices_insertionSortCmpFunc_api_Nlri]
  have w : IntKind.i64.wrap 1 = 1 := by decide
  simp [w]
  refine loop_up (fun i t h' => (t 2 = .int .i64 0 ∧ t 8 = .int .i64 1) ∧ h' = h) 0 ⟨by simp, rfl⟩ ?_
  rintro i t h' hi ⟨⟨t2, t8⟩, rfl⟩ K hK
  simp [t2, t8]
theorem pdqz {h : H} {v lim c : V} : Pure Tryz.prog 65 [v, .int .i64 0, .int .i64 0, lim, c] h (.tup []) := by
  refine pure_to Tryz.func65 S.slices_pdqsortCmpFunc_api_Nlri_code S.slices_pdqsortCmpFunc_api_Nlri_enter rfl (Nat.le_of_ble_eq_true rfl) fun wf => ?_; simp only [S.slices_pdqsortCmpFunc_api_Nlri]
  have w : IntKind.i64.wrap 0 = 0 := by decide
  simp
  refine loop_up (fun i t h' => (t 0 = v ∧ t 1 = .int .i64 0 ∧ t 2 = .int .i64 0 ∧ t 4 = c) ∧ h' = h) 0 ⟨by simp, rfl⟩ ?_
  rintro i t h' hi ⟨⟨t0, t1, t2, t4⟩, rfl⟩ K hK
  simp [t0, t1, t2, t4, w]
  refine isortz _ ?_
  simp
theorem sortz {h : H} {v c : V} (hv : ∀ g, lenV 1 g v = some (.int .i64 0)) : Pure Tryz.prog 38 [v, c] h (.tup []) := by
  refine pure_to Tryz.func38 S.slices_SortFunc_api_Nlri_api_Nlri_code S.slices_SortFunc_api_Nlri_api_Nlri_enter rfl (Nat.le_of_ble_eq_true rfl) fun wf => ?_; simp only [S.slices_SortFunc_api_Nlri_api_Nlri]
  have w : IntKind.u64.wrap 0 = 0 := by decide
  simp [hv, w]
  refine lenz _ ?_
  simp
  refine pdqz _ ?_
  simp
theorem compactz {h : H} {v : V} (hv : ∀ g, lenV 1 g v = some (.int .i64 0)) {Q : V → H → Prop} (q : Q v h) : Acalls Tryz.prog 39 [v] h Q := by
  refine acalls_to Tryz.func39 S.slices_Compact_api_Nlri_api_Nlri_code S.slices_Compact_api_Nlri_api_Nlri_enter (Nat.le_of_ble_eq_true rfl) fun wf => ?_; simp only [S.slices_Compact_api_Nlri_api_Nlri]
  simp [hv]
  exact q
open Go.Sort in
theorem swo_nl : SWO (ltOf cmpNl) := by
  refine ⟨fun x => ?_, fun x y z h1 h2 => ?_, fun x y z h1 h2 => ?_⟩
  · simp [ltOf, ordr_nl.self x]
  · simp only [ltOf, decide_eq_true_eq] at *
    exact ordr_nl.down _ _ _ h1 h2
  · simp only [ltOf, decide_eq_false_iff_not] at *
    intro h
    have a := ordr_nl.anti x y
    rcases Int.lt_trichotomy (cmpNl y x) 0 with k | k | k
    · exact h2 (ordr_nl.down y x z k h)
    · have := ordr_nl.same y x z k; omega
    · omega
theorem sortn_ct {h : H} {j : Nat} {l : List Nl} (hg : h.get j = some (.grow 6 (l.map nlC).flatten)) (hl : l.length ≤ 1000000) (hne : l ≠ []) {Q : V → H → Prop}
    (q : ∀ l' : List Nl, l'.Perm l → l'.Pairwise (fun x y => ¬ cmpNl y x < 0) → Q (.tup []) (h.set j (.grow 6 (l'.map nlC).flatten))) :
    Acalls Tryz.prog 38 [.sl j (l.length * 6) 0 l.length none, .func (.func 10) [] []] h Q := by
  have hfl := flat_len (map_len6 l)
  simp only [List.length_map] at hfl
  have S : SortIn h j (l.length * 6) 0 6 (l.map nlC) (.grow 6 (l.map nlC).flatten) := ⟨hg, rfl, by rw [len_grow]; exact hfl, by simp [hfl], by simp only [cells_grow, List.drop_zero, List.length_map]; rw [← hfl, List.take_length], map_len6 l, map_one6 l⟩
  refine sortK_ct Tryz.sort38 (F := 38) (g := 10) (k := 6) rfl (by kernel_rfl) Tryz.isAgg27 Tryz.sizeOf27 (by decide) S (encV := nlC) (shV := nlC) (cmpB := cmpNl) swo_nl (fun x _ => WeakL.same (fun v hv => by simp [nlC] at hv; rcases hv with rfl | rfl | rfl | rfl | rfl | rfl <;> rfl)) (by kernel_rfl) rfl (by omega) (List.length_pos_iff.2 hne) (fun x _ y _ h' => ncmp_ct) (fun l' o' hp hs ho => ?_)
  have hle := hp.length_eq
  have hfl' := flat_len (map_len6 l')
  simp only [List.length_map] at hfl'
  have e : o' = .grow 6 (l'.map nlC).flatten := by
    rw [put_grow, if_pos (by rw [hfl', hfl, hle]; omega)] at ho
    cases ho
    unfold putCells
    rw [List.take_zero, List.nil_append, List.drop_of_length_le (by rw [hfl', hfl, hle]; omega), List.append_nil]
  rw [e]
  refine q l' hp (hs.imp fun {x y} hxy => ?_)
  simpa [ltOf] using hxy
/-- A label taken away. -/
theorem flat_bare (l : List Nl) (i : Nat) (hi : i < l.length) : putCells (l.map nlC).flatten (i * 6 + 5) [V.int .u32 0] = ((l.set i (bare l[i])).map nlC).flatten := by
  have e1 := flat_at (map_len6 l) (k := i) (by simpa using hi)
  simp only [List.getElem_map] at e1
  have e2 : (l.map nlC).flatten.take (i * 6 + 5) = (l.map nlC).flatten.take (i * 6) ++ (nlC l[i]).take 5 := by
    rw [List.take_add, ← e1, List.take_take]; rfl
  rw [← flat_set l i (bare l[i]) hi]
  unfold putCells
  rw [e2, show (nlC (bare l[i])).length = 6 from rfl, List.append_assoc, List.append_assoc, List.append_assoc]
  congr 1
theorem nwith_ct {h : H} {v : V} {l : List Nl} (hs : Sls h.get 6 v (l.map nlC)) (hl : l.length ≤ 100000) {Q : V → H → Prop}
    (q : ∀ v' h', Ge h h' → h'.WF → Sls h'.get 6 v' ((putsL cmpNl (l.map bare)).map nlC) → CapOk v' → Q v' h') : Acalls Tryz.prog 17 [v] h Q := by
  refine acalls_to Tryz.func17 S.nlri_Withdrawn_code S.nlri_Withdrawn_enter (Nat.le_of_ble_eq_true rfl) fun wf => ?_; simp only [S.nlri_Withdrawn]
  simp
  refine clone_ct hs (by omega) (fun v1 h1 g1 w1 hv1 => ?_)
  rcases hv1 with ⟨rfl, hv⟩ | ⟨hne, gl⟩
  · have hz : ∀ g, lenV 1 g v1 = some (.int .i64 0) := by rcases hv with rfl | ⟨k, _, rfl⟩ <;> intro g <;> rfl
    simp [hz]
    refine loop_up (fun i t h' => (t 3 = v1 ∧ t 8 = .int .i64 0 ∧ t 9 = .int .i64 0) ∧ h' = h1) 0 ⟨by simp, rfl⟩ ?_
    rintro i t h' hi ⟨⟨t3, t8, t9⟩, rfl⟩ K hK
    simp [t3, t8, t9]
    refine sortz hz _ ?_
    simp [t3]
    refine compactz hz ?_
    simp
    refine q _ _ g1 w1 ?_ ?_
    · rcases hv with rfl | ⟨k, _, rfl⟩
      · exact ⟨.inl ⟨rfl, .inl rfl⟩, by simp [putsL], rfl, by simp [putsL]⟩
      · exact ⟨.inr ⟨k, 0, 0, some 0, rfl⟩, by simp [putsL], by rw [elemsV_sl, if_pos rfl]; rfl, by simp [putsL]⟩
    · rcases hv with rfl | ⟨k, _, rfl⟩
      · trivial
      · exact Nat.le_refl _
  · rcases gl with ⟨e, _⟩ | ⟨_, j, hj1, hj2, rfl, hg⟩
    · exact absurd (by simpa using e) hne
    have hfl := flat_len (map_len6 l)
    simp only [List.length_map] at hfl
    rw [hfl, List.length_map]
    simp
    refine loop_up (fun i t h' => ∃ cur, cur = (l.take i).map bare ++ l.drop i ∧ (t 3 = .sl j (l.length * 6) 0 l.length none ∧ t 8 = .int .i64 l.length ∧ t 9 = .int .i64 (i : Nat)) ∧ h' = h1.set j (.grow 6 (cur.map nlC).flatten)) l.length ⟨l, by simp, by simp, H.ext' rfl fun i => by rw [H.get_set]; split <;> simp_all⟩ ?_
    rintro i t h' hi ⟨cur, hcur, ⟨t3, t8, t9⟩, rfl⟩ K hK
    have hcl : cur.length = l.length := by rw [hcur]; simp; omega
    have hcf : (cur.map nlC).flatten.length = l.length * 6 := by rw [flat_len (map_len6 cur)]; simp [hcl]
    obtain ⟨h2, hh2⟩ : ∃ h2, h2 = h1.set j (.grow 6 (cur.map nlC).flatten) := ⟨_, rfl⟩
    have hgj : h2.get j = some (.grow 6 (cur.map nlC).flatten) := by rw [hh2]; simp
    have w2 : h2.WF := by rw [hh2]; exact w1.set hj2 _
    rw [← hh2]
    by_cases hlt : i < l.length
    · have hw := wrap_succ hlt (by omega)
      have hci : cur[i]'(by omega) = l[i] := by
        subst hcur
        rw [List.getElem_append_right (by simp; omega), List.getElem_drop]
        congr 1; simp; omega
      have hst : storeV h2.get 1 (.ptr j (l.length * 6) (i * 6 + 5)) (.int .u32 0) = some (.set j (.grow 6 ((cur.set i (bare cur[i])).map nlC).flatten)) := by
        rw [storeV_ptr, hgj]
        show (if (O.grow 6 (cur.map nlC).flatten).len = l.length * 6 then _ else _) = _
        rw [if_pos (show (O.grow 6 (cur.map nlC).flatten).len = l.length * 6 from hcf)]
        show (O.put (.grow 6 (cur.map nlC).flatten) (i * 6 + 5) [V.int .u32 0]).map (D.set j) = _
        rw [put_grow, if_pos (by rw [hcf]; simp; omega), flat_bare cur i (by omega)]; rfl
      simp [-storeV_ptr, t3, t8, t9, hlt, hst, hw]
      refine hK _ _ hlt ⟨cur.set i (bare cur[i]), ?_, by simp [t3, t8], by rw [hh2, H.set_set, List.map_set]⟩
      rw [hci, hcur, List.set_append_right _ _ (by simp; omega), List.take_add_one, List.getElem?_eq_getElem hlt]
      have e0 : i - (List.map bare (l.take i)).length = 0 := by simp; omega
      rw [e0, List.drop_eq_getElem_cons hlt, List.set_cons_zero, List.map_append]
      simp only [Option.toList_some, List.map_cons, List.map_nil, List.append_assoc, List.cons_append, List.nil_append]
    · have hi2 : i = l.length := by omega
      have hcb : cur = l.map bare := by rw [hcur, hi2]; simp
      simp [t3, t8, t9, hlt]
      have hcn : cur ≠ [] := fun e => hne (by rw [e] at hcl; exact List.eq_nil_of_length_eq_zero hcl.symm)
      rw [← hcl]
      refine sortn_ct hgj (by omega) hcn (fun l' hp hs' => ?_)
      have hle := hp.length_eq
      simp [t3]
      rw [show l.length = l'.length by omega]
      have hln : l' ≠ [] := fun e => hcn (by rw [e] at hle; exact List.eq_nil_of_length_eq_zero hle.symm)
      refine compactn_ct (by simp) (by omega) hln (fun v' h' k1 k2 w3 s3 c3 => ?_)
      simp
      refine q _ _ ⟨?_, fun x hx => ?_⟩ w3 ?_ c3
      · rw [k2, H.next_set, hh2]; have := g1.1; simpa using this
      · have : x ≠ j := by omega
        rw [k1 x this, H.get_set, if_neg this, hh2, H.get_set, if_neg this, g1.2 x hx]
      · rw [compact_puts ordr_nl (fun a b => cmpNl_eq) hp hs', hcb] at s3
        exact s3
end Go.Am

/-
  NlriLays answers true.
-/
namespace Go.Am
open Go.Proofs

set_option maxRecDepth 100000
theorem lays_ct {h : H} {sl : V} {l : List Nl} {fam : Int} {add : Bool} (hs : Sls h.get 6 sl (l.map nlC)) (hc : CapOk sl) (hf : ∀ n ∈ l, NlFits n) : Pure Tryz.prog 4 [sl, .agg [.int .i64 fam, .bool add]] h (.bool true) := by
  refine pure_to Tryz.func4 S.Hlaw07_NlriLays_code S.Hlaw07_NlriLays_enter rfl (Nat.le_of_ble_eq_true rfl) fun wf => ?_; simp only [S.Hlaw07_NlriLays]
  obtain ⟨h1, hh1⟩ : ∃ h1, h1 = h.push (.row [.int .i64 fam, .bool add]) := ⟨_, rfl⟩
  have g1 : Ge h h1 := by rw [hh1]; exact (Ge.refl _).push _
  have w1 : h1.WF := by rw [hh1]; exact wf.push _
  have n1 : h1.next = h.next + 1 := by rw [hh1]; simp
  have c1 : cellsAt h1.get h.next 2 = some [.int .i64 fam, .bool add] := by rw [hh1]; simp
  have s0 := hs.ge wf g1
  simp
  rw [← hh1]
  refine cut_ct s0 hc (fun v1 h2 g2 w2 gl1 => ?_)
  simp
  refine cut_ct (s0.ge w1 g2) hc (fun v2 h3 g3 w3 gl2 => ?_)
  obtain ⟨m, hm⟩ : ∃ m, m = l.take 60 := ⟨_, rfl⟩
  rw [← hm] at gl1 gl2
  have hml : m.length ≤ 60 := by rw [hm, List.length_take]; omega
  have hfm : ∀ n ∈ m, NlFits n := fun n hn => hf n (by rw [hm] at hn; exact List.mem_of_mem_take hn)
  have hfit : ∀ n ∈ m, NlFit n := fun n hn => ⟨(hfm n hn).id, (hfm n hn).rd⟩
  have s1 : Sls h3.get 6 v1 (m.map nlC) := (gl1.sls (map_len6 _) (by simp; omega)).ge w2 g3
  have s2 : Sls h3.get 6 v2 (m.map nlC) := gl2.sls (map_len6 _) (by simp; omega)
  have c3 : cellsAt h3.get h.next 2 = some [.int .i64 fam, .bool add] := by rw [(g2.trans g3).cells (by omega), c1]
  simp [c3]
  refine encode_ct s1 (by omega) hfit _ ?_
  have key : ∀ (es : List UInt8) (e : Int), True := fun _ _ => trivial
  cases he : encS m fam add with
  | none =>
    simp [c3]
    refine rencode_ct s2 (by omega) hfit _ ?_
    rw [he]
    simp
    refine nwith_ct s1 (by omega) (fun v3 h4 g4 w4 s3 _ => ?_)
    simp
    refine rwith_ct (s2.ge w3 g4) (fun n hn => (hfm n hn).addr) (by omega) (fun v4 h5 g5 w5 s4 _ => ?_)
    simp
    refine same_ct (s3.ge w4 g5) s4 _ ?_
    simp
    refine same_ct (s1.ge w3 (g4.trans g5)) (s2.ge w3 (g4.trans g5)) _ ?_
    simp
    refine works_ct _ _ ?_
    simp
    exact g1.trans (g2.trans (g3.trans (g4.trans g5)))
  | some es =>
    simp [c3]
    refine rencode_ct s2 (by omega) hfit _ ?_
    rw [he]
    simp
    refine nwith_ct s1 (by omega) (fun v3 h4 g4 w4 s3 _ => ?_)
    simp
    refine rwith_ct (s2.ge w3 g4) (fun n hn => (hfm n hn).addr) (by omega) (fun v4 h5 g5 w5 s4 _ => ?_)
    simp
    refine same_ct (s3.ge w4 g5) s4 _ ?_
    simp
    refine same_ct (s1.ge w3 (g4.trans g5)) (s2.ge w3 (g4.trans g5)) _ ?_
    simp
    refine works_ct _ _ ?_
    simp
    exact g1.trans (g2.trans (g3.trans (g4.trans g5)))
end Go.Am
