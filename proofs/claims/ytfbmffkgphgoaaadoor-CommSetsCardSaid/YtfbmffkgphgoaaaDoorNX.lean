/-
  NS2, NM5, in one text.
-/
import Derived.Test.YtfbmffkgphgoaaaDoorNA
import Derived.Test.YtfbmffkgphgoaaaDoorCW
import Derived.Test.YtfbmffkgphgoaaaDoorC1
import Derived.Test.YtfbmffkgphgoaaaDoorAm33
/-
  CommSets answers true.
-/
namespace Go.Am
open Go.Proofs

set_option maxRecDepth 100000
theorem sameP_ct {h : H} {v1 v2 : V} {l m : List Nat} (s1 : Sls h.get 1 v1 (l.map cP)) (s2 : Sls h.get 1 v2 (m.map cP)) : Pure Tryd.prog 24 [v1, v2] h (.bool (decide (l = m))) := by
  refine pure_to Tryd.func24 S.Href05_Same_code S.Href05_Same_enter rfl (Nat.le_of_ble_eq_true rfl) fun wf => ?_; simp only [S.Href05_Same]
  have l1 := s1.lenG wf (n := l.length) (by simp)
  have l2 := s2.lenG wf (n := m.length) (by simp)
  have hb := s1.bound
  simp only [List.length_map] at hb
  by_cases hl : l.length = m.length
  · have bl : ((l.length : Int) != (m.length : Int)) = false := by rw [hl]; simp
    simp [l1, l2, bl]
    refine loop_up (fun i t h' => (t 0 = v1 ∧ t 1 = v2 ∧ t 5 = .int .i64 (i : Nat)) ∧ h' = h ∧ l.take i = m.take i) l.length ⟨by simp, rfl, by simp⟩ ?_
    rintro i t h' hi ⟨⟨t0, t1, t5⟩, rfl, htk⟩ K hK
    by_cases hlt : i < l.length
    · have hlt2 : i < m.length := by omega
      obtain ⟨p, q, o, cs, a1, pl, a3, a5⟩ := s1.at1G (f := fun x : Nat => V.int .u32 x) wf hlt
      obtain ⟨p', q', o', cs', b1, pl', b3, b5⟩ := s2.at1G (f := fun x : Nat => V.int .u32 x) wf hlt2
      have hw := wrap_succ hlt hb
      have a3' := a3 h' (Ge.refl _)
      have b3' := b3 h' (Ge.refl _)
      simp [t0, t1, t5, l1, hlt]
      refine dreg_of ?_
      by_cases hx : l[i] = m[i]
      · have eq : ((l[i] : Int) != (m[i] : Int)) = false := by rw [hx]; simp
        simp [t0, t1, t5, a1, a3', a5, b1, b3', b5, eq, hw]
        refine hK _ _ hlt ⟨by simp [t0, t1], rfl, ?_⟩
        rw [List.take_add_one, List.take_add_one, htk, List.getElem?_eq_getElem hlt, List.getElem?_eq_getElem hlt2, hx]
      · have hne : l ≠ m := fun e => hx (by subst e; rfl)
        have eq : ((l[i] : Int) != (m[i] : Int)) = true := bne_iff_ne.2 (by omega)
        simp [t0, t1, t5, a1, a3', a5, b1, b3', b5, eq, hne]
    · have hie : i = l.length := by omega
      subst hie
      have he : l = m := by rw [← List.take_length (l := l), htk, hl, List.take_length]
      simp [t0, t5, l1, he]
  · have bl : ((l.length : Int) != (m.length : Int)) = true := bne_iff_ne.2 (by omega)
    have hne : l ≠ m := fun e => hl (by rw [e])
    simp [l1, l2, bl, hne]

theorem kept_ct {h : H} {v w : V} {l : List Nat} (c1 : Cut h.get v l) (c2 : Cut h.get w l) (hl : l.length ≤ 90) : Pure Tryd.prog 33 [v, w] h (.bool true) := by
  refine pure_to Tryd.func33 S.Hlaw05_kept_code S.Hlaw05_kept_enter rfl (Nat.le_of_ble_eq_true rfl) fun wf => ?_; simp only [S.Hlaw05_kept]
  have s1 := c1.sls (by omega)
  have s2 := c2.sls (by omega)
  have l1 := s1.len
  have l2 := s2.len
  simp at l1 l2
  obtain ⟨j, rfl, hj⟩ := c1
  have hfl := flat1 (l ++ [77, 78])
  have hfl' : ((l ++ [77, 78]).map cP).flatten.length = l.length + 2 := by rw [hfl]; simp
  obtain ⟨n2, hn2⟩ : ∃ n2, n2 = l.length + 2 := ⟨_, rfl⟩
  obtain ⟨n1, hn1⟩ : ∃ n1, n1 = l.length + 1 := ⟨_, rfl⟩
  rw [← hn2] at hfl'
  have w2 : IntKind.i64.wrap ((l.length : Int) + 2) = (n2 : Int) := by rw [wrap_i64_id (by omega) (by omega)]; omega
  have w1 : IntKind.i64.wrap ((l.length : Int) + 1) = (n1 : Int) := by rw [wrap_i64_id (by omega) (by omega)]; omega
  have e1 : sliceSlV 1 none (some (.int .i64 (n2 : Int))) none (.sl j n2 0 l.length none) = none := by
    simp only [sliceSlV, boundV]
    rw [if_neg (by omega)]
  have e2 : roomV h.get 1 (.int .i64 (n2 : Int)) (.sl j n2 0 l.length none) = some (.sl j n2 0 n2 none) := by
    simp only [roomV, hj]
    rw [if_pos ⟨⟨trivial, trivial, hfl'⟩, by omega, by omega⟩]
    simp
  have e3 : sliceSlV 1 none (some (.int .i64 (l.length : Int))) none (.sl j n2 0 n2 none) = some (.sl j n2 0 l.length none) := by
    simp only [sliceSlV, boundV_none, boundV_nat (show l.length ≤ n2 by omega)]
    rw [if_pos (by omega)]; simp
  have whole : Sls h.get 1 (.sl j n2 0 n2 none) ((l ++ [77, 78]).map cP) := by
    have := slsc_all (l := l ++ [77, 78]) cP_len hj (by simp; omega)
    have hl2 : (l ++ [77, 78]).length = n2 := by simp [hn2]
    simpa [hl2] using this
  obtain ⟨p, q, o, cs, a1, a2, a3⟩ := whole.at1 (f := fun x : Nat => V.int .u32 x) (k := l.length) (by simp)
  obtain ⟨p', q', o', cs', b1, b2, b3⟩ := whole.at1 (f := fun x : Nat => V.int .u32 x) (k := n1) (by simp; omega)
  have a3' : cs[o]? = some (.int .u32 77) := by rw [a3]; simp
  have b3' : cs'[o']? = some (.int .u32 78) := by rw [b3]; simp [hn1]
  rw [← hn2]
  clear a3 b3
  simp [l2, w2, e1, e2, e3]
  rw [← hn2] at s1
  refine sameP_ct s1 s2 _ ?_
  simp [l2, w1, a1, a2, a3', b1, b2, b3']
theorem csets_ct {h : H} {u v : V} {l m : List Nat} {c : Nat} (hu : Sls h.get 1 u (l.map cP)) (cu : CapOk u) (hv : Sls h.get 1 v (m.map cP)) (cv : CapOk v) : Pure Tryd.prog 6 [u, v, .int .u32 (c : Nat)] h (.bool true) := by
  refine pure_to Tryd.func6 S.Hlaw05_CommSets_code S.Hlaw05_CommSets_enter rfl (Nat.le_of_ble_eq_true rfl) fun wf => ?_; simp only [S.Hlaw05_CommSets]
  simp
  refine lcut_ct hu cu fun a h1 g1 w1 ca => ?_
  simp
  refine lcut_ct (hv.ge ‹h.WF› g1) cv fun b h2 g2 w2 cb => ?_
  simp
  have G2 := g1.trans g2
  refine lcut_ct (hu.ge ‹h.WF› G2) cu fun a' h3 g3 w3 ca' => ?_
  simp
  have G3 := G2.trans g3
  refine lcut_ct (hv.ge ‹h.WF› G3) cv fun b' h4 g4 w4 cb' => ?_
  have G4 := G3.trans g4
  have A := ((ca.ge w1 g2).ge w2 g3).ge w3 g4
  have B := (cb.ge w2 g3).ge w3 g4
  have A' := ca'.ge w3 g4
  obtain ⟨x, hx⟩ : ∃ x, x = l.take 90 := ⟨_, rfl⟩
  obtain ⟨y, hy⟩ : ∃ y, y = m.take 90 := ⟨_, rfl⟩
  have lx : x.length ≤ 90 := by rw [hx, List.length_take]; omega
  have ly : y.length ≤ 90 := by rw [hy, List.length_take]; omega
  rw [← hx] at A A'
  rw [← hy] at B cb'
  simp
  refine norm_ct (A.sls (by omega)) (by omega) fun n h5 g5 w5 gn => ?_
  simp
  refine rnorm_ct ((A'.ge w4 g5).sls (by omega)) (by omega) fun n' h6 g6 w6 sn' => ?_
  have sn := (gn.sls (map_lenc cP_len _) (by have := puts_len_le x; simp; omega)).ge w5 g6
  have G6 := g5.trans g6
  simp
  refine sameP_ct sn sn' _ ?_
  simp
  refine phas_ct ((A.ge w4 G6).sls (by omega)) _ ?_
  simp
  refine has_ct ((A'.ge w4 G6).sls (by omega)) _ ?_
  have eb : ∀ b : Bool, eqV TS.bool (.bool b) (.bool b) = some true := fun b => by cases b <;> rfl
  simp [eb]
  refine without_ct ((A.ge w4 G6).sls (by omega)) (by omega) ((B.ge w4 G6).sls (by omega)) fun o h7 g7 w7 so => ?_
  have G7 := G6.trans g7
  simp
  refine rwithout_ct ((A'.ge w4 G7).sls (by omega)) (by omega) ((cb'.ge w4 G7).sls (by omega)) fun o' h8 g8 w8 so' => ?_
  have G8 := G7.trans g8
  simp
  refine sameP_ct (so.ge w7 g8) so' _ ?_
  simp
  have W8 := w8
  refine with_ct ((A.ge w4 G8).sls (by omega)) (by omega) (fun h64 g9 ga9 w9 => ?_) (fun h64 r g9 ga9 w9 gr => ?_)
  · have G9 := G8.trans ga9
    simp
    refine rwith_ct ((A'.ge w4 G9).sls (by omega)) (by omega) (fun _ g10 ga10 w10 => ?_) (fun h65 => absurd h64 (by omega))
    have sa : Sls g10.get 1 .nilsl (([] : List Nat).map cP) := (Gl.nil g10 0 1).sls (by simp) (by simp)
    have sb := sa
    have G10 := G9.trans ga10
    simp
    refine sameP_ct sa sb _ ?_
    simp
    refine kept_ct (A.ge w4 G10) (A'.ge w4 G10) lx _ ?_
    simp
    refine kept_ct (B.ge w4 G10) (cb'.ge w4 G10) ly _ ?_
    simp
    refine works_ct _ _ ?_
    simp
    exact G4.trans G10
  · have G9 := G8.trans ga9
    simp
    refine rwith_ct ((A'.ge w4 G9).sls (by omega)) (by omega) (fun h65 => absurd h64 (by omega)) (fun _ r' g10 ga10 w10 sb => ?_)
    have sa := (gr.sls (map_lenc cP_len _) (by simp; omega)).ge w9 ga10
    have G10 := G9.trans ga10
    simp
    refine sameP_ct sa sb _ ?_
    simp
    refine kept_ct (A.ge w4 G10) (A'.ge w4 G10) lx _ ?_
    simp
    refine kept_ct (B.ge w4 G10) (cb'.ge w4 G10) ly _ ?_
    simp
    refine works_ct _ _ ?_
    simp
    exact G4.trans G10
end Go.Am

/-
  A list of numbers as an argument.
-/
namespace Go.Am
open Go.Proofs

theorem num_of {vs : List V} (h : Lfs [.int .u32] vs) : ∃ n : Nat, vs = cP n ∧ n < 4294967296 := by
  cases h with
  | cons k t =>
    cases t
    obtain ⟨n, rfl, hn⟩ := Lf.nat k rfl
    exact ⟨n, rfl, hn⟩
theorem nums_of : ∀ {ess : List (List V)}, (∀ e ∈ ess, Lfs [.int .u32] e) → ∃ l : List Nat, ess = l.map cP ∧ ∀ n ∈ l, n < 4294967296
  | [], _ => ⟨[], rfl, by simp⟩
  | e :: ess, h => by
    obtain ⟨n, rfl, hn⟩ := num_of (h e (by simp))
    obtain ⟨l, rfl, hl⟩ := nums_of (ess := ess) fun x hx => h x (by simp [hx])
    exact ⟨n :: l, rfl, fun x hx => by
      rcases List.mem_cons.1 hx with rfl | hx
      · exact hn
      · exact hl x hx⟩
end Go.Am
