/-
  NM4, NM5, in one text.
-/
import Derived.Test.YtfbmffkgphgoaaaDoorNA
import Derived.Test.YtfbmffkgphgoaaaDoorCW
import Derived.Test.YtfbmffkgphgoaaaDoorC1
import Derived.Test.YtfbmffkgphgoaaaDoorAm33
/-
  CommWith answers true.
-/
namespace Go.Am
open Go.Proofs

set_option maxRecDepth 100000
theorem puts_id {l : List Nat} (h : Rise oN l) : putsL oN l = l := rise_ext ordr_n (rise_puts l) h fun x => mem_puts x l
theorem rise_nodup {l : List Nat} (h : Rise oN l) : l.Nodup := List.Pairwise.imp (fun {a b} h e => by have := (lt_oN a b).1 h; omega) h
theorem rise_at {l : List Nat} (h : Rise oN l) {i : Nat} (hi : i + 1 < l.length) : l[i] < l[i + 1] := (lt_oN _ _).1 (List.pairwise_iff_getElem.1 h i (i + 1) (by omega) hi (by omega))
theorem puts_more (l : List Nat) (c : Nat) : putsL oN (l ++ [c]) = putL oN (putsL oN l) c := by simp [putsL, List.foldl_append]
theorem puts_more_len (l : List Nat) (c : Nat) : (putsL oN l).length ≤ (putsL oN (l ++ [c])).length ∧ (putsL oN (l ++ [c])).length ≤ (putsL oN l).length + 1 := by
  rw [puts_more]
  exact ⟨foldl_put_len oN [c] (putsL oN l), putL_len _ _⟩
theorem mns_mem {l m : List Nat} {x : Nat} : x ∈ mns l m ↔ x ∈ l ∧ x ∉ m := by simp [mns]
theorem mns_self (l : List Nat) : mns (putsL oN l) l = [] := by
  rw [List.eq_nil_iff_forall_not_mem]
  intro x hx
  have := mns_mem.1 hx
  exact this.2 ((mem_puts x l).1 this.1)
theorem mns_one {l : List Nat} {c : Nat} (h : l.Nodup) (hc : c ∈ l) : (mns l [c]).length = l.length - 1 := by
  have : mns l [c] = l.erase c := by
    rw [h.erase_eq_filter]
    unfold mns
    congr 1
    funext x
    simp [bne]
    rfl
  rw [this, List.length_erase_of_mem hc]
theorem sls_one {h : H} {c : Nat} : Sls (h.push (.row [V.int .u32 (c : Int)])).get 1 (.sl h.next 1 0 1 (some 1)) ([c].map cP) :=
  ⟨.inr ⟨_, _, _, _, rfl⟩, by simp [cP], by simp [elemsV_sl, cP], by simp⟩
theorem cwith_ct {h : H} {v : V} {l : List Nat} {c d : Nat} (hs : Sls h.get 1 v (l.map cP)) (hc : CapOk v) : Pure Tryd.prog 7 [v, .int .u32 (c : Nat), .int .u32 (d : Nat)] h (.bool true) := by
  refine pure_to Tryd.func7 S.Hlaw05_CommWith_code S.Hlaw05_CommWith_enter rfl (Nat.le_of_ble_eq_true rfl) fun wf => ?_; simp only [S.Hlaw05_CommWith]
  obtain ⟨v', kp, mp, ep, sp, _⟩ := cut_of 60 hs hc
  have hlen := hs.len
  simp at hlen
  obtain ⟨l6, hl6⟩ : ∃ l6, l6 = l.take 60 := ⟨_, rfl⟩
  rw [← hl6] at sp
  have h60 : l6.length ≤ 60 := by rw [hl6, List.length_take]; omega
  simp only [Int.cast_ofNat_Int] at mp
  simp [hlen, mp, ep]
  refine norm_ct sp (by omega) fun n g ga wa gln => ?_
  have hpl := puts_len_le l6
  obtain ⟨N, hN⟩ : ∃ N, N = putsL oN l6 := ⟨_, rfl⟩
  have hNr : Rise oN N := by rw [hN]; exact rise_puts _
  have hNm : ∀ x, x ∈ N ↔ x ∈ l6 := fun x => by rw [hN]; exact mem_puts x l6
  rw [← hN] at gln hpl
  have sn := gln.sls (map_lenc cP_len _) (by simp; omega)
  have hnl := sn.len
  simp at hnl
  have sl := sp.ge wf ga
  have hll := sl.len
  simp at hll
  simp
  -- rising
  refine loop_cutS (id := 0) (fun t h2 => (t 0 = v' ∧ t 1 = .int .u32 (c : Nat) ∧ t 2 = .int .u32 (d : Nat) ∧ t 7 = n) ∧ g = h2) (fun R hR => ?_) ?_
  · refine loop_up (fun i t h2 => (t 0 = v' ∧ t 1 = .int .u32 (c : Nat) ∧ t 2 = .int .u32 (d : Nat) ∧ t 7 = n ∧ t 8 = .int .i64 ((i + 1 : Nat) : Int)) ∧ g = h2) N.length ⟨by simp, rfl⟩ ?_
    rintro i t h2 hi ⟨⟨t0, t1, t2, t7, t8⟩, rfl⟩ K hK
    obtain ⟨m, hm⟩ : ∃ m, m = i + 1 := ⟨_, rfl⟩
    rw [← hm] at t8
    by_cases hlt : m < N.length
    · obtain ⟨p, qq, o, cs, e1, e2, e3⟩ := sn.at1 (f := fun x : Nat => V.int .u32 x) (k := m) hlt
      obtain ⟨p', qq', o', cs', b1, b2, b3⟩ := sn.at1 (f := fun x : Nat => V.int .u32 x) (k := i) (by omega)
      have wm : IntKind.i64.wrap ((m : Int) - 1) = (i : Int) := by rw [wrap_i64_id (by omega) (by omega)]; omega
      have w1 : IntKind.i64.wrap ((m : Int) + 1) = ((m + 1 : Nat) : Int) := by rw [wrap_i64_id (by omega) (by omega)]; omega
      have hr := rise_at hNr (i := i) (by omega)
      simp only [← hm] at hr
      have hr2 : ¬ N[m] ≤ N[i] := by omega
      obtain ⟨m1, hm1⟩ : ∃ m1, m1 = m + 1 := ⟨_, rfl⟩
      rw [← hm1] at w1
      simp [t7, t8, hnl, hlt]
      refine dreg_of ?_
      simp [t7, t8, e1, e2, e3, wm, b1, b2, b3, hr2, w1]
      refine hK _ _ (by omega) ⟨?_, rfl⟩
      simp [t0, t1, t2, t7, hm1, hm]
    · simp [t7, t8, hnl, hlt]
      exact hR _ _ ⟨⟨t0, t1, t2, t7⟩, rfl⟩
  rintro t _ ⟨⟨t0, t1, t2, t7⟩, rfl⟩
  simp
  -- each is there
  refine loop_cutS (id := 2) (fun t h2 => (t 0 = v' ∧ t 1 = .int .u32 (c : Nat) ∧ t 2 = .int .u32 (d : Nat) ∧ t 7 = n) ∧ g = h2) (fun R hR => ?_) ?_
  · refine loop_up (fun i t h2 => (t 0 = v' ∧ t 1 = .int .u32 (c : Nat) ∧ t 2 = .int .u32 (d : Nat) ∧ t 7 = n ∧ t 9 = .int .i64 (i : Nat)) ∧ g = h2) l6.length ⟨by simp [t0, t1, t2, t7], rfl⟩ ?_
    rintro i t h2 hi ⟨⟨t0, t1, t2, t7, t9⟩, rfl⟩ K hK
    by_cases hlt : i < l6.length
    · obtain ⟨p, qq, o, cs, e1, e2, e3⟩ := sl.at1 (f := fun x : Nat => V.int .u32 x) (k := i) hlt
      have w1 := wrap_succ hlt (by omega)
      have hin : l6[i] ∈ N := (hNm _).2 (List.getElem_mem hlt)
      simp [t0, t7, t9, hll, hlt, e1, e2, e3]
      refine phas_ct sn _ ?_
      simp [hin, t9, w1]
      refine hK _ _ (by omega) ⟨?_, rfl⟩
      simp [t0, t1, t2, t7]
    · simp [t0, t9, hll, hlt]
      exact hR _ _ ⟨⟨t0, t1, t2, t7⟩, rfl⟩
  rintro t _ ⟨⟨t0, t1, t2, t7⟩, rfl⟩
  obtain ⟨W, hW⟩ : ∃ W, W = putsL oN (l6 ++ [c]) := ⟨_, rfl⟩
  have hWl := puts_more_len l6 c
  have hWm : ∀ x, x ∈ W ↔ x ∈ l6 ∨ x = c := fun x => by rw [hW, mem_puts, List.mem_append, List.mem_singleton]
  have hWr : Rise oN W := by rw [hW]; exact rise_puts _
  rw [← hW, ← hN] at hWl
  simp [t0, t1]
  refine with_ct sl (by omega) (fun h64 => by rw [← hW] at h64; omega) fun _ w g2 ga2 wa2 glw => ?_
  rw [← hW] at glw
  have sw := glw.sls (map_lenc cP_len _) (by simp; omega)
  obtain ⟨g3, hg3⟩ : ∃ g3, g3 = g2.push (.row [V.int .u32 (c : Int)]) := ⟨_, rfl⟩
  have ga3 : Ge g2 g3 := by rw [hg3]; exact (Ge.refl _).push _
  have wa3 : g3.WF := by rw [hg3]; exact wa2.push _
  have s1 : Sls g3.get 1 (.sl g2.next 1 0 1 (some 1)) ([c].map cP) := by rw [hg3]; exact sls_one
  simp [t1]
  rw [← hg3]
  refine without_ct (sw.ge wa2 ga3) (by omega) s1 fun o g4 ga4 wa4 so => ?_
  rw [puts_id hWr] at so
  have ga5 := (ga2.trans ga3).trans ga4
  have hOl := mns_one (rise_nodup hWr) ((hWm c).2 (.inr rfl))
  have hOm : ∀ x, x ∈ mns W [c] ↔ x ∈ W ∧ x ≠ c := fun x => by rw [mns_mem, List.mem_singleton]
  obtain ⟨O', hO⟩ : ∃ O', O' = mns W [c] := ⟨_, rfl⟩
  rw [← hO] at so hOl hOm
  have sw4 := (sw.ge wa2 ga3).ge wa3 ga4
  have sn4 := sn.ge wa ga5
  have sl4 := sl.ge wa ga5
  have lw := sw4.len
  have lo := so.len
  have ln := sn4.len
  simp at lw lo ln
  have hcW : c ∈ W := (hWm c).2 (.inr rfl)
  have hcO : c ∉ O' := fun h => ((hOm c).1 h).2 rfl
  have hW0 : 0 < W.length := List.length_pos_of_mem hcW
  have wsub : IntKind.i64.wrap ((W.length : Int) - 1) = (O'.length : Int) := by rw [wrap_i64_id (by omega) (by omega)]; omega
  obtain ⟨n1, hn1⟩ : ∃ n1, n1 = N.length + 1 := ⟨_, rfl⟩
  have wadd : IntKind.i64.wrap ((N.length : Int) + 1) = (n1 : Int) := by rw [wrap_i64_id (by omega) (by omega)]; omega
  have hle1 : N.length ≤ W.length := by omega
  have hle2 : W.length ≤ n1 := by omega
  simp [t1]
  refine phas_ct sw4 _ ?_
  simp [hcW, t1]
  refine phas_ct so _ ?_
  simp [hcO, t1, t2, lw, lo, wsub]
  by_cases hd : d = c
  · subst hd
    simp [ln, lw, hle1, hle2, wadd, t0, t7]
    refine without_ct sl4 (by omega) sl4 fun o2 g6 ga6 wa6 so2 => ?_
    rw [mns_self] at so2
    have lo2 := so2.len
    simp at lo2
    simp [lo2]
    refine works_ct _ _ ?_
    simp
    exact ga.trans (ga5.trans ga6)
  · have hWd : d ∈ W ↔ d ∈ l6 := by simp [hWm, hd]
    have hOd : d ∈ O' ↔ d ∈ l6 := by simp [hOm, hWm, hd]
    have b1 : ((d : Int) != (c : Int)) = true := bne_iff_ne.2 (by omega)
    have eb : ∀ b : Bool, eqV TS.bool (.bool b) (.bool b) = some true := fun b => by cases b <;> rfl
    simp [b1]
    rw [t2]
    refine phas_ct sw4 _ ?_
    simp [t0, t2]
    refine phas_ct sl4 _ ?_
    simp [hWd, t2, eb]
    refine phas_ct so _ ?_
    simp [t0, t2]
    refine phas_ct sl4 _ ?_
    simp [hOd, eb, ln, lw, hle1, hle2, wadd, t0, t7]
    refine without_ct sl4 (by omega) sl4 fun o2 g6 ga6 wa6 so2 => ?_
    rw [mns_self] at so2
    have lo2 := so2.len
    simp at lo2
    simp [lo2]
    refine works_ct _ _ ?_
    simp
    exact ga.trans (ga5.trans ga6)
end Go.Am

/-
  A list of numbers as an argument.
-/
namespace Go.Am
open Go.Proofs

theorem num_of {vs : List V} (h : Lfs [.int .u32] vs) : ∃ n : Nat, vs = cP n ∧ n < 4294967296 := by
  cases h with
  | cons k t =>
    cases t
    obtain ⟨n, rfl, hn⟩ := Lf.nat k rfl
    exact ⟨n, rfl, hn⟩
theorem nums_of : ∀ {ess : List (List V)}, (∀ e ∈ ess, Lfs [.int .u32] e) → ∃ l : List Nat, ess = l.map cP ∧ ∀ n ∈ l, n < 4294967296
  | [], _ => ⟨[], rfl, by simp⟩
  | e :: ess, h => by
    obtain ⟨n, rfl, hn⟩ := num_of (h e (by simp))
    obtain ⟨l, rfl, hl⟩ := nums_of (ess := ess) fun x hx => h x (by simp [hx])
    exact ⟨n :: l, rfl, fun x hx => by
      rcases List.mem_cons.1 hx with rfl | hx
      · exact hn
      · exact hl x hx⟩
end Go.Am
