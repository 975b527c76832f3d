/-
  Contracts: the reference's Of.
-/
import Derived.Test.YtapokdcbhpdceaaO16
namespace Go.Am
open Go.Proofs

/-- An open in the making, in an object 's', with three lists of its own. -/
structure OfAt (base h : H) (s lo : Nat) (r : V → V → V → List V) (fv av kv : V) (fs : List Int) (xs : List Add) (ks : List Rest) : Prop where
  ge : Ge (base.set s (.row (r fv av kv))) h
  wf : h.WF
  f : Gl h lo 1 fv (fs.map fun x => [.int .i64 x])
  a : Gl h lo 3 av (xs.map addC)
  k : Gl h lo 2 kv (ks.map restC)
  d1 : ∀ j ∈ fv.ids, j ∉ av.ids
  d2 : ∀ j ∈ fv.ids, j ∉ kv.ids
  d3 : ∀ j ∈ av.ids, j ∉ kv.ids
theorem OfAt.addF {base h : H} {s lo : Nat} {r : V → V → V → List V} {fv av kv : V} {fs : List Int} {xs : List Add} {ks : List Rest} (X : OfAt base h s lo r fv av kv fs xs ks) (hs : s < lo) (hlo : lo = base.next) (x : Int) (hb : fs.length ≤ 1048576) :
    ∃ v2 d, appendV (h.push (.row [.int .i64 x])).get (h.next + 1) 1 8 fv (.sl h.next 1 0 1 (some 1)) = some (v2, d) ∧ v2.one = true ∧ ((h.push (.row [.int .i64 x])).app d).get s = some (.row (r fv av kv)) ∧
      OfAt base (((h.push (.row [.int .i64 x])).app d).set s (.row (r v2 av kv))) s lo r v2 av kv (fs ++ [x]) xs ks := by
  obtain ⟨hg, hw, gf, ga, gk, d1, d2, d3⟩ := X
  have n2 := hg.1
  simp only [H.next_set] at n2
  have x2 := hg.get_set (by omega)
  obtain ⟨h3, hh3⟩ : ∃ h3, h3 = h.push (.row [.int .i64 x]) := ⟨_, rfl⟩
  have n3 : h3.next = h.next + 1 := by rw [hh3]; rfl
  have g3 : Ge h h3 := by rw [hh3]; simp
  have w3 : h3.WF := by rw [hh3]; exact hw.push _
  have gg := gf.keep (h' := h3) (by omega) (fun j hj => by rw [g3.2 j (gf.lo j hj).2])
  obtain ⟨v2, d, ea, gl', nn, kk, wk, ids'⟩ := gg.append2 (bytes := 8) (x := .sl h.next 1 0 1 (some 1)) (e := [.int .i64 x]) (by omega) (by simp) rfl (by rw [hh3]; simp [elemsV_sl]) (by simp) (by omega) (by rw [List.length_map]; omega) (by rw [List.length_map]; omega)
  rw [n3] at ea
  rw [← hh3]
  have x4 : (h3.app d).get s = some (.row (r fv av kv)) := by rw [kk _ (fun hm => by have := (gg.lo _ hm).1; omega) (by omega), g3.2 _ (by omega), x2]
  refine ⟨v2, d, ea, gl'.one, x4, ⟨by simp; omega, fun j hj => ?_⟩, (wk w3).set (by omega) _, ?_, ?_, ?_, ?_, ?_, ?_⟩
  · simp only [H.next_set] at hj
    rw [H.get_set, H.get_set]
    split
    · rfl
    · rename_i hne
      rw [kk j (fun hm => by have := (gg.lo j hm).1; omega) (by omega), g3.2 j (by omega), hg.get_ne hj hne]
  · have := gl'.keep (h' := (h3.app d).set s (.row (r v2 av kv))) (by simp) (fun j hj => by rw [H.get_set, if_neg (by have := (gl'.lo j hj).1; omega)])
    rw [List.map_append]
    exact this
  · refine ga.keep (by simp; omega) (fun j hj => ?_)
    have := ga.lo j hj
    rw [H.get_set, if_neg (by omega), kk j (fun hm => d1 j hm hj) (by omega), g3.2 j (by omega)]
  · refine gk.keep (by simp; omega) (fun j hj => ?_)
    have := gk.lo j hj
    rw [H.get_set, if_neg (by omega), kk j (fun hm => d2 j hm hj) (by omega), g3.2 j (by omega)]
  · intro j hj hk
    rcases ids' j hj with h1 | h1
    · exact d1 j h1 hk
    · have := (ga.lo j hk).2; omega
  · intro j hj hk
    rcases ids' j hj with h1 | h1
    · exact d2 j h1 hk
    · have := (gk.lo j hk).2; omega
  · exact d3
theorem OfAt.addA {base h : H} {s lo : Nat} {r : V → V → V → List V} {fv av kv : V} {fs : List Int} {xs : List Add} {ks : List Rest} (X : OfAt base h s lo r fv av kv fs xs ks) (hs : s < lo) (hlo : lo = base.next) (x : Add) (hb : xs.length ≤ 1048576) :
    ∃ v2 d, appendV (h.push (.row [.int .i64 x.fam, .bool x.send, .bool x.take])).get (h.next + 1) 3 16 av (.sl h.next 3 0 1 (some 1)) = some (v2, d) ∧ v2.one = true ∧ ((h.push (.row [.int .i64 x.fam, .bool x.send, .bool x.take])).app d).get s = some (.row (r fv av kv)) ∧
      OfAt base (((h.push (.row [.int .i64 x.fam, .bool x.send, .bool x.take])).app d).set s (.row (r fv v2 kv))) s lo r fv v2 kv fs (xs ++ [x]) ks := by
  obtain ⟨hg, hw, gf, ga, gk, d1, d2, d3⟩ := X
  have n2 := hg.1
  simp only [H.next_set] at n2
  have x2 := hg.get_set (by omega)
  obtain ⟨h3, hh3⟩ : ∃ h3, h3 = h.push (.row [.int .i64 x.fam, .bool x.send, .bool x.take]) := ⟨_, rfl⟩
  have n3 : h3.next = h.next + 1 := by rw [hh3]; rfl
  have g3 : Ge h h3 := by rw [hh3]; simp
  have w3 : h3.WF := by rw [hh3]; exact hw.push _
  have gg := ga.keep (h' := h3) (by omega) (fun j hj => by rw [g3.2 j (ga.lo j hj).2])
  obtain ⟨v2, d, ea, gl', nn, kk, wk, ids'⟩ := gg.append2 (bytes := 16) (x := .sl h.next 3 0 1 (some 1)) (e := addC x) (by omega) (by simp) rfl (by rw [hh3]; simp [elemsV_sl]) (by simp) (by omega) (by rw [List.length_map]; omega) (by rw [List.length_map]; omega)
  rw [n3] at ea
  rw [← hh3]
  have x4 : (h3.app d).get s = some (.row (r fv av kv)) := by rw [kk _ (fun hm => by have := (gg.lo _ hm).1; omega) (by omega), g3.2 _ (by omega), x2]
  refine ⟨v2, d, ea, gl'.one, x4, ⟨by simp; omega, fun j hj => ?_⟩, (wk w3).set (by omega) _, ?_, ?_, ?_, ?_, ?_, ?_⟩
  · simp only [H.next_set] at hj
    rw [H.get_set, H.get_set]
    split
    · rfl
    · rename_i hne
      rw [kk j (fun hm => by have := (gg.lo j hm).1; omega) (by omega), g3.2 j (by omega), hg.get_ne hj hne]
  · refine gf.keep (by simp; omega) (fun j hj => ?_)
    have := gf.lo j hj
    rw [H.get_set, if_neg (by omega), kk j (fun hm => d1 j hj hm) (by omega), g3.2 j (by omega)]
  · have := gl'.keep (h' := (h3.app d).set s (.row (r fv v2 kv))) (by simp) (fun j hj => by rw [H.get_set, if_neg (by have := (gl'.lo j hj).1; omega)])
    rw [List.map_append]
    exact this
  · refine gk.keep (by simp; omega) (fun j hj => ?_)
    have := gk.lo j hj
    rw [H.get_set, if_neg (by omega), kk j (fun hm => d3 j hm hj) (by omega), g3.2 j (by omega)]
  · intro j hj hk
    rcases ids' j hk with h1 | h1
    · exact d1 j hj h1
    · have := (gf.lo j hj).2; omega
  · exact d2
  · intro j hj hk
    rcases ids' j hj with h1 | h1
    · exact d3 j h1 hk
    · have := (gk.lo j hk).2; omega
theorem OfAt.addK {base h : H} {s lo : Nat} {r : V → V → V → List V} {fv av kv : V} {fs : List Int} {xs : List Add} {ks : List Rest} (X : OfAt base h s lo r fv av kv fs xs ks) (hs : s < lo) (hlo : lo = base.next) (x : Rest) (hb : ks.length ≤ 1048576) :
    ∃ v2 d, appendV (h.push (.row [.int .i64 x.fam, .bool x.kept])).get (h.next + 1) 2 16 kv (.sl h.next 2 0 1 (some 1)) = some (v2, d) ∧ v2.one = true ∧ ((h.push (.row [.int .i64 x.fam, .bool x.kept])).app d).get s = some (.row (r fv av kv)) ∧
      OfAt base (((h.push (.row [.int .i64 x.fam, .bool x.kept])).app d).set s (.row (r fv av v2))) s lo r fv av v2 fs xs (ks ++ [x]) := by
  obtain ⟨hg, hw, gf, ga, gk, d1, d2, d3⟩ := X
  have n2 := hg.1
  simp only [H.next_set] at n2
  have x2 := hg.get_set (by omega)
  obtain ⟨h3, hh3⟩ : ∃ h3, h3 = h.push (.row [.int .i64 x.fam, .bool x.kept]) := ⟨_, rfl⟩
  have n3 : h3.next = h.next + 1 := by rw [hh3]; rfl
  have g3 : Ge h h3 := by rw [hh3]; simp
  have w3 : h3.WF := by rw [hh3]; exact hw.push _
  have gg := gk.keep (h' := h3) (by omega) (fun j hj => by rw [g3.2 j (gk.lo j hj).2])
  obtain ⟨v2, d, ea, gl', nn, kk, wk, ids'⟩ := gg.append2 (bytes := 16) (x := .sl h.next 2 0 1 (some 1)) (e := restC x) (by omega) (by simp) rfl (by rw [hh3]; simp [elemsV_sl]) (by simp) (by omega) (by rw [List.length_map]; omega) (by rw [List.length_map]; omega)
  rw [n3] at ea
  rw [← hh3]
  have x4 : (h3.app d).get s = some (.row (r fv av kv)) := by rw [kk _ (fun hm => by have := (gg.lo _ hm).1; omega) (by omega), g3.2 _ (by omega), x2]
  refine ⟨v2, d, ea, gl'.one, x4, ⟨by simp; omega, fun j hj => ?_⟩, (wk w3).set (by omega) _, ?_, ?_, ?_, ?_, ?_, ?_⟩
  · simp only [H.next_set] at hj
    rw [H.get_set, H.get_set]
    split
    · rfl
    · rename_i hne
      rw [kk j (fun hm => by have := (gg.lo j hm).1; omega) (by omega), g3.2 j (by omega), hg.get_ne hj hne]
  · refine gf.keep (by simp; omega) (fun j hj => ?_)
    have := gf.lo j hj
    rw [H.get_set, if_neg (by omega), kk j (fun hm => d2 j hj hm) (by omega), g3.2 j (by omega)]
  · refine ga.keep (by simp; omega) (fun j hj => ?_)
    have := ga.lo j hj
    rw [H.get_set, if_neg (by omega), kk j (fun hm => d3 j hj hm) (by omega), g3.2 j (by omega)]
  · have := gl'.keep (h' := (h3.app d).set s (.row (r fv av v2))) (by simp) (fun j hj => by rw [H.get_set, if_neg (by have := (gl'.lo j hj).1; omega)])
    rw [List.map_append]
    exact this
  · exact d1
  · intro j hj hk
    rcases ids' j hk with h1 | h1
    · exact d2 j hj h1
    · have := (gf.lo j hj).2; omega
  · intro j hj hk
    rcases ids' j hk with h1 | h1
    · exact d3 j hj h1
    · have := (ga.lo j hj).2; omega
end Go.Am
