/-
  CR2, CR8, in one text.
-/
import Derived.Test.YtfbmffkgphgoaaaGreatDoorRA
import Derived.Test.YtfbmffkgphgoaaaGreatDoorShS
import Derived.Test.YtfbmffkgphgoaaaGreatDoorAm39
import Derived.Test.YtfbmffkgphgoaaaGreatDoorRW
/-
  Contracts: lists sorted, read from bytes (written by program, wip/comm/CR2.py).
-/
namespace Go.Am
open Go.Proofs

set_option maxRecDepth 100000
open Go.Sort in
theorem swo_of {α : Type} {c : α → α → Int} (o : Ordr c) : SWO (ltOf c) := by
  refine ⟨fun x => ?_, fun x y z h1 h2 => ?_, fun x y z h1 h2 => ?_⟩
  · simp [ltOf, o.self x]
  · simp only [ltOf, decide_eq_true_eq] at *
    exact o.down _ _ _ h1 h2
  · simp only [ltOf, decide_eq_false_iff_not] at *
    intro h
    have a := o.anti x y
    rcases Int.lt_trichotomy (c y x) 0 with k | k | k
    · exact h2 (o.down y x z k h)
    · have := o.same y x z k; omega
    · omega
theorem flat_one {α : Type} (f : α → V) : ∀ m : List α, (m.map fun x => [f x]).flatten = m.map f
  | [] => rfl
  | a :: m => by simp [flat_one f m]
theorem take4p_ct {h : H} {i : Nat} {l : List UInt8} (r : h.get i = some (rdr l)) (hn : 4 ≤ l.length) {Q : V → H → Prop} (q : Q (.int .u32 (fP (l.take 4) : Nat)) (h.set i (rdr (l.drop 4)))) : Acalls Tryz.prog 28 [.ptr i 2 0] h Q := take4_ct r hn q
theorem chop_mem {α : Type} (k : Nat) (f : List UInt8 → α) : ∀ n s x, x ∈ chop k f n s → ∃ t : List UInt8, t.length ≤ k ∧ x = f t
  | 0, _, _, h => by simp [chop] at h
  | n + 1, s, x, h => by
    rw [chop, List.mem_cons] at h
    rcases h with rfl | h
    · exact ⟨_, by simp; omega, rfl⟩
    · exact chop_mem k f n _ x h

theorem sortP_ct {h : H} {j : Nat} {l : List Nat} (hg : h.get j = some (.grow 1 (l.map cP).flatten)) (hl : l.length ≤ 140737488355328) (hne : l ≠ []) {Q : V → H → Prop}
    (q : ∀ l' : List Nat, l'.Perm l → l'.Pairwise (fun x y => ¬ oN y x < 0) → Q (.tup []) (h.set j (.grow 1 (l'.map cP).flatten))) :
    Acalls Tryz.prog 56 [.sl j (l.length) 0 l.length none, .func (.func 27) [] []] h Q := by
  have fl := flat_one (fun x : Nat => V.int .u32 x) l
  have S : SortIn h j l.length 0 1 (l.map fun x : Nat => [V.int .u32 x]) (.grow 1 (l.map cP).flatten) := ⟨hg, rfl, by rw [len_grow]; show ((l.map fun x : Nat => [V.int .u32 x]).flatten).length = _; rw [fl]; simp, by show 0 + (l.map fun x : Nat => [V.int .u32 x]).length * 1 ≤ ((l.map fun x : Nat => [V.int .u32 x]).flatten).length; rw [fl]; simp, by simp only [cells_grow, List.drop_zero, List.length_map]; rw [List.take_of_length_le (by show ((l.map fun x : Nat => [V.int .u32 x]).flatten).length ≤ _; rw [fl]; simp)]; rfl, by simp, by simp⟩
  refine sort1_ct Tryz.sort56 (F := 56) (g := 27) rfl (by kernel_rfl) S (encV := fun x : Nat => V.int .u32 x) (cmpB := oN) (swo_of ordr_n) (fun x _ => rfl) (by kernel_rfl) rfl (by omega) (List.length_pos_iff.2 hne) (fun x _ y _ h' => cmp32_ct) (fun l' o' hp hs ho => ?_)
  have hle := hp.length_eq
  have fl' := flat_one (fun x : Nat => V.int .u32 x) l'
  have e : o' = .grow 1 (l'.map cP).flatten := by
    have hcl : ((l.map cP).flatten).length = l.length := by show ((l.map fun x : Nat => [V.int .u32 x]).flatten).length = _; rw [fl]; simp
    rw [put_grow, if_pos (by rw [hcl, List.length_map, hle]; omega)] at ho
    cases ho
    unfold putCells
    rw [List.take_zero, List.nil_append, List.drop_of_length_le (by rw [hcl, List.length_map, hle]; omega), List.append_nil]
    show _ = O.grow 1 ((l'.map fun x : Nat => [V.int .u32 x]).flatten)
    rw [fl']
  rw [e]
  refine q l' hp (hs.imp fun {x y} hxy => ?_)
  simpa [ltOf] using hxy
/-- Such a list read. -/
theorem readP_ct {h : H} {s : List UInt8} (hl : s.length ≤ 140737488351232) {Q : V → H → Prop}
    (q : ∀ v' h', Ge h h' → h'.WF → Sls h'.get 1 v' ((decL oN 4 fP s).1.map cP) → Q (.tup [v', .int .i64 (decL oN 4 fP s).2]) h') : Acalls Tryz.prog 26 [.str s, .int .i64 4, .func (.func 27) [] [], .func (.func 28) [] []] h Q := by
  refine acalls_to Tryz.func26 S.comm_read_uint32_code S.comm_read_uint32_enter (Nat.le_of_ble_eq_true rfl) fun wf => ?_; simp only [S.comm_read_uint32]
  have nilS : Sls h.get 1 .nilsl (([] : List Nat).map cP) := ⟨.inl ⟨rfl, .inl rfl⟩, by simp, rfl, by simp⟩
  by_cases h0 : s = []
  · have hd : decL oN 4 fP s = ([], 4) := if_pos (.inl (by simp [h0]))
    subst h0
    rw [hd] at q
    simp
    exact q _ _ (Ge.refl _) wf nilS
  · have hlen0 : 0 < s.length := List.length_pos_iff.2 h0
    by_cases hm : s.length % 4 = 0
    · have hrem : intV .rem .i64 (s.length : Int) 4 = some (.int .i64 0) := by
        show (if (4 : Int) = 0 then none else some (V.int .i64 ((s.length : Int).tmod 4))) = _
        rw [if_neg (by decide), Int.tmod_eq_emod_of_nonneg (by omega)]; congr 2; omega
      have b0 : (s == []) = false := by simpa using h0
      obtain ⟨n, hn⟩ : ∃ n, n = s.length / 4 := ⟨_, rfl⟩
      have hnk : s.length = n * 4 := by omega
      have hd : decL oN 4 fP s = if 64 < (putsL oN (chop 4 fP n s)).length then ([], 3) else (putsL oN (chop 4 fP n s), 0) := by
        unfold decL
        rw [if_neg (by omega), hn]
      simp [b0, hrem]
      refine new_ct ?_
      simp
      obtain ⟨h1, hh1⟩ : ∃ h1, h1 = h.push (rdr s) := ⟨_, rfl⟩
      have g1 : Ge h h1 := by rw [hh1]; exact (Ge.refl _).push _
      have w1 : h1.WF := by rw [hh1]; exact wf.push _
      have n1 : h1.next = h.next + 1 := by rw [hh1]; simp
      have r1 : h1.get h.next = some (rdr s) := by rw [hh1]; simp
      rw [← hh1]
      refine loop_up (fun i t h' => ∃ v, (t 1 = .int .i64 4 ∧ t 2 = .func (.func 27) [] [] ∧ t 3 = .func (.func 28) [] [] ∧ t 10 = .ptr h.next 2 0 ∧ t 11 = v) ∧ Ge h h' ∧ h'.WF ∧ h1.next ≤ h'.next ∧ h'.get h.next = some (rdr (s.drop (i * 4))) ∧ Gl h' h1.next 1 v ((chop 4 fP i s).map cP)) n ⟨.nilsl, by simp, g1, w1, Nat.le_refl _, by simpa using r1, Gl.nil _ _ _⟩ ?_
      rintro i t h' hi ⟨v, ⟨t1, t2, t3, t10, t11⟩, gb, wb, nb, rb, gl⟩ K hK
      simp [t10]
      refine left_ct rb _ ?_
      by_cases hlt : i < n
      · have hle : 4 ≤ (s.drop (i * 4)).length := by
          rw [List.length_drop, hnk, ← Nat.sub_mul]
          have := Nat.mul_le_mul_right 4 (show 1 ≤ n - i by omega)
          omega
        obtain ⟨sl, hsl⟩ : ∃ sl, sl = (s.drop (i * 4)).length := ⟨_, rfl⟩
        rw [← hsl] at hle ⊢
        have hleI : (4 : Int) ≤ (sl : Nat) := by omega
        simp [t1, hleI, t3, t10, t11]
        refine take4p_ct rb (by rw [← hsl]; exact hle) ?_
        rw [List.drop_drop]
        obtain ⟨h2, hh2⟩ : ∃ h2, h2 = h'.set h.next (rdr (s.drop (i * 4 + 4))) := ⟨_, rfl⟩
        rw [← hh2]
        have hx : h.next < h'.next := by omega
        have g2 : Ge h h2 := by rw [hh2]; exact gb.set (Nat.le_refl _) _
        have w2 : h2.WF := by rw [hh2]; exact wb.set hx _
        have gl2 : Gl h2 h1.next 1 v ((chop 4 fP i s).map cP) := by
          refine gl.keep (by rw [hh2]; simp) fun x hx => ?_
          have := (gl.lo x hx).1
          rw [hh2, H.get_set, if_neg (by omega)]
        have n2 : h2.next = h'.next := by rw [hh2]; simp
        have rb2 : h2.get h.next = some (rdr (s.drop (i * 4 + 4))) := by rw [hh2]; simp
        obtain ⟨y, hy⟩ : ∃ y, y = fP ((s.drop (i * 4)).take 4) := ⟨_, rfl⟩
        rw [← hy]
        have gl3 : Gl (h2.push (.row (cP y))) h1.next 1 v ((chop 4 fP i s).map cP) := gl2.keep (by simp) fun x hx => by
          have := (gl2.lo x hx).2
          rw [H.get_push, if_neg (by omega)]
        obtain ⟨v', d, ea, gl4, hn4, hk4, hw4⟩ := gl3.append (bytes := 4) (x := .sl h2.next 1 0 1 (some 1)) (e := cP y) (by simp; omega) (map_lenc cP_len _) (cP_len y) (by simp [elemsV_sl, cP]) rfl (by decide) (by simp [chop_len]; omega) (by simp [chop_len]; omega)
        simp only [cP, H.next_push] at ea
        simp [ea]
        have hk5 := hk4 h.next (fun hx => by have := (gl2.lo _ hx).1; omega) (by simp; omega)
        refine hK _ _ hlt ⟨v', by simp [t1, t2, t3, t10], ?_, ?_, ?_, ?_, ?_⟩
        · refine ⟨Nat.le_trans g2.1 (Nat.le_trans (by simp) hn4), fun x hx => ?_⟩
          simp only [cP] at hk4
          rw [hk4 x (fun hx2 => by have := (gl2.lo _ hx2).1; omega) (by have := g2.1; simp; omega), H.get_push, if_neg (by have := g2.1; omega)]
          exact g2.2 x hx
        · exact hw4 (w2.push _)
        · have h9 := hn4; simp only [cP] at h9; simp only [H.next_push] at h9; omega
        · simp only [cP] at hk5
          rw [hk5, H.get_push, if_neg (by omega), rb2, Nat.add_mul, Nat.one_mul]
        · rw [chop_snoc, List.map_append, List.map_cons, List.map_nil, ← hy]
          exact gl4
      · have hie : i = n := by omega
        subst hie
        have hsd : (s.drop (i * 4)).length = 0 := by rw [List.length_drop]; omega
        have hne : chop 4 fP i s ≠ [] := fun e => by have := chop_len 4 fP i s; rw [e] at this; simp at this; omega
        obtain ⟨l, hlq⟩ : ∃ l, l = chop 4 fP i s := ⟨_, rfl⟩
        have hll : l.length = i := by rw [hlq, chop_len]
        rw [← hlq] at gl hne hd
        rcases gl with ⟨e, _⟩ | ⟨_, j, hj1, hj2, hv, hg⟩
        · exact absurd (by simpa using e) hne
        have hflat : ((l.map cP).flatten).length = l.length * 1 := by have := flat_len (map_lenc cP_len l); simpa using this
        rw [hflat, List.length_map] at hv
        subst hv
        rw [hsd]
        simp [t1, t2, t11]
        refine sortP_ct hg (by omega) hne fun l' hp hs => ?_
        have hl'l := hp.length_eq
        have hne' : l' ≠ [] := fun e => by rw [e] at hl'l; simp at hl'l; exact hne (List.eq_nil_of_length_eq_zero (by omega))
        obtain ⟨h5, hh5⟩ : ∃ h5, h5 = h'.set j (.grow 1 (l'.map cP).flatten) := ⟨_, rfl⟩
        have w5 : h5.WF := by rw [hh5]; exact wb.set hj2 _
        have g5 : Ge h h5 := by rw [hh5]; exact gb.set (by omega) _
        rw [← hh5]
        simp [t11]
        have hcp := compact_puts ordr_n oN_eq hp hs
        have e5 : h5.get j = some (.grow 1 (l'.map cP).flatten) := by rw [hh5]; simp
        rw [← hl'l]
        refine compactP_ct e5 (by omega) hne' fun v6 h6 k6 n6 w6 s6 _ => ?_
        rw [hcp] at s6
        have g6 : Ge h h6 := ⟨by rw [n6]; exact g5.1, fun x hx => by rw [k6 x (by omega)]; exact g5.2 x hx⟩
        have hl6 := s6.len
        simp only [List.length_map] at hl6
        simp [hl6]
        by_cases hb : 64 < (putsL oN l).length
        · have hb' : (64 : Int) < (putsL oN l).length := by omega
          rw [if_pos hb] at hd
          rw [hd] at q
          simp [hb']
          exact q _ _ g6 w6 ⟨.inl ⟨rfl, .inl rfl⟩, by simp, rfl, by simp⟩
        · have hb' : ¬ (64 : Int) < (putsL oN l).length := by omega
          rw [if_neg hb] at hd
          rw [hd] at q
          simp [hb']
          exact q _ _ g6 w6 s6
    · have hrem : intV .rem .i64 (s.length : Int) 4 = some (.int .i64 ((s.length % 4 : Nat) : Int)) := by
        show (if (4 : Int) = 0 then none else some (V.int .i64 ((s.length : Int).tmod 4))) = _
        rw [if_neg (by decide), Int.tmod_eq_emod_of_nonneg (by omega)]; rfl
      obtain ⟨m, hmm⟩ : ∃ m, m = s.length % 4 := ⟨_, rfl⟩
      rw [← hmm] at hrem hm
      have b0 : (s == []) = false := by simpa using h0
      have b1 : ((m : Int) != 0) = true := bne_iff_ne.2 (by omega)
      have hd : decL oN 4 fP s = ([], 4) := if_pos (.inr (by rw [← hmm]; exact hm))
      rw [hd] at q
      simp [b0, hrem, b1]
      exact q _ _ (Ge.refl _) wf nilS
theorem decP_ct {h : H} {s : List UInt8} (hl : s.length ≤ 140737488351232) {Q : V → H → Prop}
    (q : ∀ v' h', Ge h h' → h'.WF → Sls h'.get 1 v' ((decL oN 4 fP s).1.map cP) → Q (.tup [v', .int .i64 (decL oN 4 fP s).2]) h') : Acalls Tryz.prog 6 [.str s] h Q := by
  refine acalls_to Tryz.func6 S.comm_Decode_code S.comm_Decode_enter (Nat.le_of_ble_eq_true rfl) fun wf => ?_; simp only [S.comm_Decode]
  simp
  refine readP_ct hl fun v' h' g w s => ?_
  simp
  exact q v' h' g w s

theorem sortX_ct {h : H} {j : Nat} {l : List Nat} (hg : h.get j = some (.grow 1 (l.map cX).flatten)) (hl : l.length ≤ 140737488355328) (hne : l ≠ []) {Q : V → H → Prop}
    (q : ∀ l' : List Nat, l'.Perm l → l'.Pairwise (fun x y => ¬ oN y x < 0) → Q (.tup []) (h.set j (.grow 1 (l'.map cX).flatten))) :
    Acalls Tryz.prog 61 [.sl j (l.length) 0 l.length none, .func (.func 32) [] []] h Q := by
  have fl := flat_one (fun x : Nat => V.int .u64 x) l
  have S : SortIn h j l.length 0 1 (l.map fun x : Nat => [V.int .u64 x]) (.grow 1 (l.map cX).flatten) := ⟨hg, rfl, by rw [len_grow]; show ((l.map fun x : Nat => [V.int .u64 x]).flatten).length = _; rw [fl]; simp, by show 0 + (l.map fun x : Nat => [V.int .u64 x]).length * 1 ≤ ((l.map fun x : Nat => [V.int .u64 x]).flatten).length; rw [fl]; simp, by simp only [cells_grow, List.drop_zero, List.length_map]; rw [List.take_of_length_le (by show ((l.map fun x : Nat => [V.int .u64 x]).flatten).length ≤ _; rw [fl]; simp)]; rfl, by simp, by simp⟩
  refine sort1_ct Tryz.sort61 (F := 61) (g := 32) rfl (by kernel_rfl) S (encV := fun x : Nat => V.int .u64 x) (cmpB := oN) (swo_of ordr_n) (fun x _ => rfl) (by kernel_rfl) rfl (by omega) (List.length_pos_iff.2 hne) (fun x _ y _ h' => cmp64_ct) (fun l' o' hp hs ho => ?_)
  have hle := hp.length_eq
  have fl' := flat_one (fun x : Nat => V.int .u64 x) l'
  have e : o' = .grow 1 (l'.map cX).flatten := by
    have hcl : ((l.map cX).flatten).length = l.length := by show ((l.map fun x : Nat => [V.int .u64 x]).flatten).length = _; rw [fl]; simp
    rw [put_grow, if_pos (by rw [hcl, List.length_map, hle]; omega)] at ho
    cases ho
    unfold putCells
    rw [List.take_zero, List.nil_append, List.drop_of_length_le (by rw [hcl, List.length_map, hle]; omega), List.append_nil]
    show _ = O.grow 1 ((l'.map fun x : Nat => [V.int .u64 x]).flatten)
    rw [fl']
  rw [e]
  refine q l' hp (hs.imp fun {x y} hxy => ?_)
  simpa [ltOf] using hxy
/-- Such a list read. -/
theorem readX_ct {h : H} {s : List UInt8} (hl : s.length ≤ 140737488351232) {Q : V → H → Prop}
    (q : ∀ v' h', Ge h h' → h'.WF → Sls h'.get 1 v' ((decL oN 8 fX s).1.map cX) → Q (.tup [v', .int .i64 (decL oN 8 fX s).2]) h') : Acalls Tryz.prog 31 [.str s, .int .i64 8, .func (.func 32) [] [], .func (.func 33) [] []] h Q := by
  refine acalls_to Tryz.func31 S.comm_read_uint64_code S.comm_read_uint64_enter (Nat.le_of_ble_eq_true rfl) fun wf => ?_; simp only [S.comm_read_uint64]
  have nilS : Sls h.get 1 .nilsl (([] : List Nat).map cX) := ⟨.inl ⟨rfl, .inl rfl⟩, by simp, rfl, by simp⟩
  by_cases h0 : s = []
  · have hd : decL oN 8 fX s = ([], 4) := if_pos (.inl (by simp [h0]))
    subst h0
    rw [hd] at q
    simp
    exact q _ _ (Ge.refl _) wf nilS
  · have hlen0 : 0 < s.length := List.length_pos_iff.2 h0
    by_cases hm : s.length % 8 = 0
    · have hrem : intV .rem .i64 (s.length : Int) 8 = some (.int .i64 0) := by
        show (if (8 : Int) = 0 then none else some (V.int .i64 ((s.length : Int).tmod 8))) = _
        rw [if_neg (by decide), Int.tmod_eq_emod_of_nonneg (by omega)]; congr 2; omega
      have b0 : (s == []) = false := by simpa using h0
      obtain ⟨n, hn⟩ : ∃ n, n = s.length / 8 := ⟨_, rfl⟩
      have hnk : s.length = n * 8 := by omega
      have hd : decL oN 8 fX s = if 64 < (putsL oN (chop 8 fX n s)).length then ([], 3) else (putsL oN (chop 8 fX n s), 0) := by
        unfold decL
        rw [if_neg (by omega), hn]
      simp [b0, hrem]
      refine new_ct ?_
      simp
      obtain ⟨h1, hh1⟩ : ∃ h1, h1 = h.push (rdr s) := ⟨_, rfl⟩
      have g1 : Ge h h1 := by rw [hh1]; exact (Ge.refl _).push _
      have w1 : h1.WF := by rw [hh1]; exact wf.push _
      have n1 : h1.next = h.next + 1 := by rw [hh1]; simp
      have r1 : h1.get h.next = some (rdr s) := by rw [hh1]; simp
      rw [← hh1]
      refine loop_up (fun i t h' => ∃ v, (t 1 = .int .i64 8 ∧ t 2 = .func (.func 32) [] [] ∧ t 3 = .func (.func 33) [] [] ∧ t 10 = .ptr h.next 2 0 ∧ t 11 = v) ∧ Ge h h' ∧ h'.WF ∧ h1.next ≤ h'.next ∧ h'.get h.next = some (rdr (s.drop (i * 8))) ∧ Gl h' h1.next 1 v ((chop 8 fX i s).map cX)) n ⟨.nilsl, by simp, g1, w1, Nat.le_refl _, by simpa using r1, Gl.nil _ _ _⟩ ?_
      rintro i t h' hi ⟨v, ⟨t1, t2, t3, t10, t11⟩, gb, wb, nb, rb, gl⟩ K hK
      simp [t10]
      refine left_ct rb _ ?_
      by_cases hlt : i < n
      · have hle : 8 ≤ (s.drop (i * 8)).length := by
          rw [List.length_drop, hnk, ← Nat.sub_mul]
          have := Nat.mul_le_mul_right 8 (show 1 ≤ n - i by omega)
          omega
        obtain ⟨sl, hsl⟩ : ∃ sl, sl = (s.drop (i * 8)).length := ⟨_, rfl⟩
        rw [← hsl] at hle ⊢
        have hleI : (8 : Int) ≤ (sl : Nat) := by omega
        simp [t1, hleI, t3, t10, t11]
        refine oneX8_ct rb (by rw [← hsl]; exact hle) ?_
        rw [List.drop_drop]
        obtain ⟨h2, hh2⟩ : ∃ h2, h2 = h'.set h.next (rdr (s.drop (i * 8 + 8))) := ⟨_, rfl⟩
        rw [← hh2]
        have hx : h.next < h'.next := by omega
        have g2 : Ge h h2 := by rw [hh2]; exact gb.set (Nat.le_refl _) _
        have w2 : h2.WF := by rw [hh2]; exact wb.set hx _
        have gl2 : Gl h2 h1.next 1 v ((chop 8 fX i s).map cX) := by
          refine gl.keep (by rw [hh2]; simp) fun x hx => ?_
          have := (gl.lo x hx).1
          rw [hh2, H.get_set, if_neg (by omega)]
        have n2 : h2.next = h'.next := by rw [hh2]; simp
        have rb2 : h2.get h.next = some (rdr (s.drop (i * 8 + 8))) := by rw [hh2]; simp
        obtain ⟨y, hy⟩ : ∃ y, y = fX ((s.drop (i * 8)).take 8) := ⟨_, rfl⟩
        rw [← hy]
        have gl3 : Gl (h2.push (.row (cX y))) h1.next 1 v ((chop 8 fX i s).map cX) := gl2.keep (by simp) fun x hx => by
          have := (gl2.lo x hx).2
          rw [H.get_push, if_neg (by omega)]
        obtain ⟨v', d, ea, gl4, hn4, hk4, hw4⟩ := gl3.append (bytes := 8) (x := .sl h2.next 1 0 1 (some 1)) (e := cX y) (by simp; omega) (map_lenc cX_len _) (cX_len y) (by simp [elemsV_sl, cX]) rfl (by decide) (by simp [chop_len]; omega) (by simp [chop_len]; omega)
        simp only [cX, H.next_push] at ea
        simp [ea]
        have hk5 := hk4 h.next (fun hx => by have := (gl2.lo _ hx).1; omega) (by simp; omega)
        refine hK _ _ hlt ⟨v', by simp [t1, t2, t3, t10], ?_, ?_, ?_, ?_, ?_⟩
        · refine ⟨Nat.le_trans g2.1 (Nat.le_trans (by simp) hn4), fun x hx => ?_⟩
          simp only [cX] at hk4
          rw [hk4 x (fun hx2 => by have := (gl2.lo _ hx2).1; omega) (by have := g2.1; simp; omega), H.get_push, if_neg (by have := g2.1; omega)]
          exact g2.2 x hx
        · exact hw4 (w2.push _)
        · have h9 := hn4; simp only [cX] at h9; simp only [H.next_push] at h9; omega
        · simp only [cX] at hk5
          rw [hk5, H.get_push, if_neg (by omega), rb2, Nat.add_mul, Nat.one_mul]
        · rw [chop_snoc, List.map_append, List.map_cons, List.map_nil, ← hy]
          exact gl4
      · have hie : i = n := by omega
        subst hie
        have hsd : (s.drop (i * 8)).length = 0 := by rw [List.length_drop]; omega
        have hne : chop 8 fX i s ≠ [] := fun e => by have := chop_len 8 fX i s; rw [e] at this; simp at this; omega
        obtain ⟨l, hlq⟩ : ∃ l, l = chop 8 fX i s := ⟨_, rfl⟩
        have hll : l.length = i := by rw [hlq, chop_len]
        rw [← hlq] at gl hne hd
        rcases gl with ⟨e, _⟩ | ⟨_, j, hj1, hj2, hv, hg⟩
        · exact absurd (by simpa using e) hne
        have hflat : ((l.map cX).flatten).length = l.length * 1 := by have := flat_len (map_lenc cX_len l); simpa using this
        rw [hflat, List.length_map] at hv
        subst hv
        rw [hsd]
        simp [t1, t2, t11]
        refine sortX_ct hg (by omega) hne fun l' hp hs => ?_
        have hl'l := hp.length_eq
        have hne' : l' ≠ [] := fun e => by rw [e] at hl'l; simp at hl'l; exact hne (List.eq_nil_of_length_eq_zero (by omega))
        obtain ⟨h5, hh5⟩ : ∃ h5, h5 = h'.set j (.grow 1 (l'.map cX).flatten) := ⟨_, rfl⟩
        have w5 : h5.WF := by rw [hh5]; exact wb.set hj2 _
        have g5 : Ge h h5 := by rw [hh5]; exact gb.set (by omega) _
        rw [← hh5]
        simp [t11]
        have hcp := compact_puts ordr_n oN_eq hp hs
        have e5 : h5.get j = some (.grow 1 (l'.map cX).flatten) := by rw [hh5]; simp
        rw [← hl'l]
        refine compactX_ct e5 (by omega) hne' fun v6 h6 k6 n6 w6 s6 _ => ?_
        rw [hcp] at s6
        have g6 : Ge h h6 := ⟨by rw [n6]; exact g5.1, fun x hx => by rw [k6 x (by omega)]; exact g5.2 x hx⟩
        have hl6 := s6.len
        simp only [List.length_map] at hl6
        simp [hl6]
        by_cases hb : 64 < (putsL oN l).length
        · have hb' : (64 : Int) < (putsL oN l).length := by omega
          rw [if_pos hb] at hd
          rw [hd] at q
          simp [hb']
          exact q _ _ g6 w6 ⟨.inl ⟨rfl, .inl rfl⟩, by simp, rfl, by simp⟩
        · have hb' : ¬ (64 : Int) < (putsL oN l).length := by omega
          rw [if_neg hb] at hd
          rw [hd] at q
          simp [hb']
          exact q _ _ g6 w6 s6
    · have hrem : intV .rem .i64 (s.length : Int) 8 = some (.int .i64 ((s.length % 8 : Nat) : Int)) := by
        show (if (8 : Int) = 0 then none else some (V.int .i64 ((s.length : Int).tmod 8))) = _
        rw [if_neg (by decide), Int.tmod_eq_emod_of_nonneg (by omega)]; rfl
      obtain ⟨m, hmm⟩ : ∃ m, m = s.length % 8 := ⟨_, rfl⟩
      rw [← hmm] at hrem hm
      have b0 : (s == []) = false := by simpa using h0
      have b1 : ((m : Int) != 0) = true := bne_iff_ne.2 (by omega)
      have hd : decL oN 8 fX s = ([], 4) := if_pos (.inr (by rw [← hmm]; exact hm))
      rw [hd] at q
      simp [b0, hrem, b1]
      exact q _ _ (Ge.refl _) wf nilS
theorem decX_ct {h : H} {s : List UInt8} (hl : s.length ≤ 140737488351232) {Q : V → H → Prop}
    (q : ∀ v' h', Ge h h' → h'.WF → Sls h'.get 1 v' ((decL oN 8 fX s).1.map cX) → Q (.tup [v', .int .i64 (decL oN 8 fX s).2]) h') : Acalls Tryz.prog 9 [.str s] h Q := by
  refine acalls_to Tryz.func9 S.comm_DecodeExts_code S.comm_DecodeExts_enter (Nat.le_of_ble_eq_true rfl) fun wf => ?_; simp only [S.comm_DecodeExts]
  simp
  refine readX_ct hl fun v' h' g w s => ?_
  simp
  exact q v' h' g w s

theorem sortL_ct {h : H} {j : Nat} {l : List Lg} (hg : h.get j = some (.grow 3 (l.map cL).flatten)) (hl : l.length ≤ 140737488355328) (hne : l ≠ []) {Q : V → H → Prop}
    (q : ∀ l' : List Lg, l'.Perm l → l'.Pairwise (fun x y => ¬ oL y x < 0) → Q (.tup []) (h.set j (.grow 3 (l'.map cL).flatten))) :
    Acalls Tryz.prog 64 [.sl j (l.length * 3) 0 l.length none, .func (.func 35) [] []] h Q := by
  have hfl := flat_len (map_lenc cL_len l)
  simp only [List.length_map] at hfl
  have S : SortIn h j (l.length * 3) 0 3 (l.map cL) (.grow 3 (l.map cL).flatten) := ⟨hg, rfl, by rw [len_grow]; exact hfl, by simp [hfl], by simp only [cells_grow, List.drop_zero, List.length_map]; rw [← hfl, List.take_length], map_lenc cL_len l, fun e he => by obtain ⟨x, _, rfl⟩ := List.mem_map.1 he; rfl⟩
  refine sortK_ct Tryz.sort64 (F := 64) (g := 35) (k := 3) rfl (by kernel_rfl) Tryz.isAgg44 Tryz.sizeOf44 (by decide) S (encV := cL) (shV := cL) (cmpB := oL) (swo_of ordr_l) (fun x _ => WeakL.same (fun v hv => by simp [cL] at hv; rcases hv with rfl | rfl | rfl <;> rfl)) (by kernel_rfl) rfl (by omega) (List.length_pos_iff.2 hne) (fun x _ y _ h' => larger_ct) (fun l' o' hp hs ho => ?_)
  have hle := hp.length_eq
  have hfl' := flat_len (map_lenc cL_len l')
  simp only [List.length_map] at hfl'
  have e : o' = .grow 3 (l'.map cL).flatten := by
    rw [put_grow, if_pos (by rw [hfl', hfl, hle]; omega)] at ho
    cases ho
    unfold putCells
    rw [List.take_zero, List.nil_append, List.drop_of_length_le (by rw [hfl', hfl, hle]; omega), List.append_nil]
  rw [e]
  refine q l' hp (hs.imp fun {x y} hxy => ?_)
  simpa [ltOf] using hxy
/-- Such a list read. -/
theorem readL_ct {h : H} {s : List UInt8} (hl : s.length ≤ 140737488351232) {Q : V → H → Prop}
    (q : ∀ v' h', Ge h h' → h'.WF → Sls h'.get 3 v' ((decL oL 12 fL s).1.map cL) → Q (.tup [v', .int .i64 (decL oL 12 fL s).2]) h') : Acalls Tryz.prog 34 [.str s, .int .i64 12, .func (.func 35) [] [], .func (.func 36) [] []] h Q := by
  refine acalls_to Tryz.func34 S.comm_read_api_Large_code S.comm_read_api_Large_enter (Nat.le_of_ble_eq_true rfl) fun wf => ?_; simp only [S.comm_read_api_Large]
  have nilS : Sls h.get 3 .nilsl (([] : List Lg).map cL) := ⟨.inl ⟨rfl, .inl rfl⟩, by simp, rfl, by simp⟩
  by_cases h0 : s = []
  · have hd : decL oL 12 fL s = ([], 4) := if_pos (.inl (by simp [h0]))
    subst h0
    rw [hd] at q
    simp
    exact q _ _ (Ge.refl _) wf nilS
  · have hlen0 : 0 < s.length := List.length_pos_iff.2 h0
    by_cases hm : s.length % 12 = 0
    · have hrem : intV .rem .i64 (s.length : Int) 12 = some (.int .i64 0) := by
        show (if (12 : Int) = 0 then none else some (V.int .i64 ((s.length : Int).tmod 12))) = _
        rw [if_neg (by decide), Int.tmod_eq_emod_of_nonneg (by omega)]; congr 2; omega
      have b0 : (s == []) = false := by simpa using h0
      obtain ⟨n, hn⟩ : ∃ n, n = s.length / 12 := ⟨_, rfl⟩
      have hnk : s.length = n * 12 := by omega
      have hd : decL oL 12 fL s = if 64 < (putsL oL (chop 12 fL n s)).length then ([], 3) else (putsL oL (chop 12 fL n s), 0) := by
        unfold decL
        rw [if_neg (by omega), hn]
      simp [b0, hrem]
      refine new_ct ?_
      simp
      obtain ⟨h1, hh1⟩ : ∃ h1, h1 = h.push (rdr s) := ⟨_, rfl⟩
      have g1 : Ge h h1 := by rw [hh1]; exact (Ge.refl _).push _
      have w1 : h1.WF := by rw [hh1]; exact wf.push _
      have n1 : h1.next = h.next + 1 := by rw [hh1]; simp
      have r1 : h1.get h.next = some (rdr s) := by rw [hh1]; simp
      rw [← hh1]
      refine loop_up (fun i t h' => ∃ v, (t 1 = .int .i64 12 ∧ t 2 = .func (.func 35) [] [] ∧ t 3 = .func (.func 36) [] [] ∧ t 10 = .ptr h.next 2 0 ∧ t 11 = v) ∧ Ge h h' ∧ h'.WF ∧ h1.next ≤ h'.next ∧ h'.get h.next = some (rdr (s.drop (i * 12))) ∧ Gl h' h1.next 3 v ((chop 12 fL i s).map cL)) n ⟨.nilsl, by simp, g1, w1, Nat.le_refl _, by simpa using r1, Gl.nil _ _ _⟩ ?_
      rintro i t h' hi ⟨v, ⟨t1, t2, t3, t10, t11⟩, gb, wb, nb, rb, gl⟩ K hK
      simp [t10]
      refine left_ct rb _ ?_
      by_cases hlt : i < n
      · have hle : 12 ≤ (s.drop (i * 12)).length := by
          rw [List.length_drop, hnk, ← Nat.sub_mul]
          have := Nat.mul_le_mul_right 12 (show 1 ≤ n - i by omega)
          omega
        obtain ⟨sl, hsl⟩ : ∃ sl, sl = (s.drop (i * 12)).length := ⟨_, rfl⟩
        rw [← hsl] at hle ⊢
        have hleI : (12 : Int) ≤ (sl : Nat) := by omega
        simp [t1, hleI, t3, t10, t11]
        refine oneL12_ct rb (by rw [← hsl]; exact hle) ?_
        rw [List.drop_drop]
        obtain ⟨h2, hh2⟩ : ∃ h2, h2 = h'.set h.next (rdr (s.drop (i * 12 + 12))) := ⟨_, rfl⟩
        rw [← hh2]
        have hx : h.next < h'.next := by omega
        have g2 : Ge h h2 := by rw [hh2]; exact gb.set (Nat.le_refl _) _
        have w2 : h2.WF := by rw [hh2]; exact wb.set hx _
        have gl2 : Gl h2 h1.next 3 v ((chop 12 fL i s).map cL) := by
          refine gl.keep (by rw [hh2]; simp) fun x hx => ?_
          have := (gl.lo x hx).1
          rw [hh2, H.get_set, if_neg (by omega)]
        have n2 : h2.next = h'.next := by rw [hh2]; simp
        have rb2 : h2.get h.next = some (rdr (s.drop (i * 12 + 12))) := by rw [hh2]; simp
        obtain ⟨y, hy⟩ : ∃ y, y = fL ((s.drop (i * 12)).take 12) := ⟨_, rfl⟩
        rw [← hy]
        have gl3 : Gl (h2.push (.row (cL y))) h1.next 3 v ((chop 12 fL i s).map cL) := gl2.keep (by simp) fun x hx => by
          have := (gl2.lo x hx).2
          rw [H.get_push, if_neg (by omega)]
        obtain ⟨v', d, ea, gl4, hn4, hk4, hw4⟩ := gl3.append (bytes := 12) (x := .sl h2.next 3 0 1 (some 1)) (e := cL y) (by simp; omega) (map_lenc cL_len _) (cL_len y) (by simp [elemsV_sl, cL]) rfl (by decide) (by simp [chop_len]; omega) (by simp [chop_len]; omega)
        simp only [cL, H.next_push] at ea
        simp [cL, ea]
        have hk5 := hk4 h.next (fun hx => by have := (gl2.lo _ hx).1; omega) (by simp; omega)
        refine hK _ _ hlt ⟨v', by simp [t1, t2, t3, t10], ?_, ?_, ?_, ?_, ?_⟩
        · refine ⟨Nat.le_trans g2.1 (Nat.le_trans (by simp) hn4), fun x hx => ?_⟩
          simp only [cL] at hk4
          rw [hk4 x (fun hx2 => by have := (gl2.lo _ hx2).1; omega) (by have := g2.1; simp; omega), H.get_push, if_neg (by have := g2.1; omega)]
          exact g2.2 x hx
        · exact hw4 (w2.push _)
        · have h9 := hn4; simp only [cL] at h9; simp only [H.next_push] at h9; omega
        · simp only [cL] at hk5
          rw [hk5, H.get_push, if_neg (by omega), rb2, Nat.add_mul, Nat.one_mul]
        · rw [chop_snoc, List.map_append, List.map_cons, List.map_nil, ← hy]
          exact gl4
      · have hie : i = n := by omega
        subst hie
        have hsd : (s.drop (i * 12)).length = 0 := by rw [List.length_drop]; omega
        have hne : chop 12 fL i s ≠ [] := fun e => by have := chop_len 12 fL i s; rw [e] at this; simp at this; omega
        obtain ⟨l, hlq⟩ : ∃ l, l = chop 12 fL i s := ⟨_, rfl⟩
        have hll : l.length = i := by rw [hlq, chop_len]
        rw [← hlq] at gl hne hd
        rcases gl with ⟨e, _⟩ | ⟨_, j, hj1, hj2, hv, hg⟩
        · exact absurd (by simpa using e) hne
        have hflat : ((l.map cL).flatten).length = l.length * 3 := by have := flat_len (map_lenc cL_len l); simpa using this
        rw [hflat, List.length_map] at hv
        subst hv
        rw [hsd]
        simp [t1, t2, t11]
        refine sortL_ct hg (by omega) hne fun l' hp hs => ?_
        have hl'l := hp.length_eq
        have hne' : l' ≠ [] := fun e => by rw [e] at hl'l; simp at hl'l; exact hne (List.eq_nil_of_length_eq_zero (by omega))
        obtain ⟨h5, hh5⟩ : ∃ h5, h5 = h'.set j (.grow 3 (l'.map cL).flatten) := ⟨_, rfl⟩
        have w5 : h5.WF := by rw [hh5]; exact wb.set hj2 _
        have g5 : Ge h h5 := by rw [hh5]; exact gb.set (by omega) _
        rw [← hh5]
        simp [t11]
        have hcp := compact_puts ordr_l oL_eq hp hs
        have e5 : h5.get j = some (.grow 3 (l'.map cL).flatten) := by rw [hh5]; simp
        rw [← hl'l]
        refine compactL_ct e5 (by omega) hne' fun v6 h6 k6 n6 w6 s6 _ => ?_
        rw [hcp] at s6
        have g6 : Ge h h6 := ⟨by rw [n6]; exact g5.1, fun x hx => by rw [k6 x (by omega)]; exact g5.2 x hx⟩
        have hl6 := s6.len
        simp only [List.length_map] at hl6
        simp [hl6]
        by_cases hb : 64 < (putsL oL l).length
        · have hb' : (64 : Int) < (putsL oL l).length := by omega
          rw [if_pos hb] at hd
          rw [hd] at q
          simp [hb']
          exact q _ _ g6 w6 ⟨.inl ⟨rfl, .inl rfl⟩, by simp, rfl, by simp⟩
        · have hb' : ¬ (64 : Int) < (putsL oL l).length := by omega
          rw [if_neg hb] at hd
          rw [hd] at q
          simp [hb']
          exact q _ _ g6 w6 s6
    · have hrem : intV .rem .i64 (s.length : Int) 12 = some (.int .i64 ((s.length % 12 : Nat) : Int)) := by
        show (if (12 : Int) = 0 then none else some (V.int .i64 ((s.length : Int).tmod 12))) = _
        rw [if_neg (by decide), Int.tmod_eq_emod_of_nonneg (by omega)]; rfl
      obtain ⟨m, hmm⟩ : ∃ m, m = s.length % 12 := ⟨_, rfl⟩
      rw [← hmm] at hrem hm
      have b0 : (s == []) = false := by simpa using h0
      have b1 : ((m : Int) != 0) = true := bne_iff_ne.2 (by omega)
      have hd : decL oL 12 fL s = ([], 4) := if_pos (.inr (by rw [← hmm]; exact hm))
      rw [hd] at q
      simp [b0, hrem, b1]
      exact q _ _ (Ge.refl _) wf nilS
theorem decL_ct {h : H} {s : List UInt8} (hl : s.length ≤ 140737488351232) {Q : V → H → Prop}
    (q : ∀ v' h', Ge h h' → h'.WF → Sls h'.get 3 v' ((decL oL 12 fL s).1.map cL) → Q (.tup [v', .int .i64 (decL oL 12 fL s).2]) h') : Acalls Tryz.prog 12 [.str s] h Q := by
  refine acalls_to Tryz.func12 S.comm_DecodeLarges_code S.comm_DecodeLarges_enter (Nat.le_of_ble_eq_true rfl) fun wf => ?_; simp only [S.comm_DecodeLarges]
  simp
  refine readL_ct hl fun v' h' g w s => ?_
  simp
  exact q v' h' g w s
end Go.Am

/-
  CommReads answers true.
-/
namespace Go.Am
open Go.Proofs

set_option maxRecDepth 100000
theorem creads_ct {h : H} {s : List UInt8} (hl : s.length ≤ 140737488351232) : Pure Tryz.prog 3 [.str s] h (.bool true) := by
  refine pure_to Tryz.func3 S.Hlaw05_CommReads_code S.Hlaw05_CommReads_enter rfl (Nat.le_of_ble_eq_true rfl) fun wf => ?_; simp only [S.Hlaw05_CommReads]
  simp
  refine decP_ct hl fun v1 h1 g1 w1 s1 => ?_
  simp
  refine rdecP_ct hl fun v2 h2 g2 w2 s2 => ?_
  simp
  refine sameP_ct (s1.ge w1 g2) s2 _ ?_
  simp
  refine decX_ct hl fun v3 h3 g3 w3 s3 => ?_
  simp
  refine rdecX_ct hl fun v4 h4 g4 w4 s4 => ?_
  simp
  refine sameX_ct (s3.ge w3 g4) s4 _ ?_
  simp
  refine decL_ct hl fun v5 h5 g5 w5 s5 => ?_
  simp
  refine rdecL_ct hl fun v6 h6 g6 w6 s6 => ?_
  simp
  refine sameL_ct (s5.ge w5 g6) s6 _ ?_
  simp
  refine works_ct _ _ ?_
  simp
  exact g1.trans (g2.trans (g3.trans (g4.trans (g5.trans g6))))
end Go.Am
