/-
  What is encoded comes back: the plain law.
-/
import Derived.Test.YtapokdcbhpdceaaO30
import Derived.Test.YtapokdcbhpdceaaO5
namespace Go.Am
open Go.Proofs

theorem foldl_val : ∀ (l : List UInt8) (a : Nat), l.foldl (fun a b => a * 256 + b.toNat) a = a * 256 ^ l.length + val l
  | [], a => by simp [val]
  | x :: l, a => by
    have h0 := foldl_val l x.toNat
    have h1 := foldl_val l (a * 256 + x.toNat)
    have e : val (x :: l) = l.foldl (fun a b => a * 256 + b.toNat) x.toNat := by simp [val]
    rw [List.foldl_cons, h1, e, h0, List.length_cons, Nat.pow_succ, Nat.add_mul, Nat.mul_assoc, Nat.mul_comm 256]; omega
theorem val_cons (x : UInt8) (l : List UInt8) : val (x :: l) = x.toNat * 256 ^ l.length + val l := by
  have := foldl_val l x.toNat
  simpa [val] using this
theorem val_be : ∀ n v : Nat, val (be n v) = v % 256 ^ n
  | 0, v => by simp [be, val, Nat.mod_one]
  | n + 1, v => by
    rw [be, val_cons, val_be n v, be_len, Nat.pow_succ, Nat.mod_mul]
    have : (UInt8.ofNat (v / 256 ^ n)).toNat = v / 256 ^ n % 256 := by simp
    rw [this, Nat.mul_comm]; omega
theorem val_be_lt {n v : Nat} (h : v < 256 ^ n) : val (be n v) = v := by rw [val_be, Nat.mod_eq_of_lt h]

theorem eachB_cap {σ : Type} {step : σ → Nat → List UInt8 → Except Nat σ} {st : σ} {code : Nat} {body rest : List UInt8} (hc : code < 256) (hb : body.length < 256) : eachB step st (capB code body ++ rest) = match step st code body with | .ok st' => eachB step st' rest | .error e => .error e := by
  have e : capB code body ++ rest = UInt8.ofNat code :: UInt8.ofNat body.length :: (body ++ rest) := by simp [capB, be]
  have h1 : (UInt8.ofNat code).toNat = code := by simp; omega
  have h2 : (UInt8.ofNat body.length).toNat = body.length := by simp; omega
  rw [e, eachB, h1, h2, if_pos (by simp), List.take_append_of_le_length (Nat.le_refl _), List.take_length, List.drop_append_of_le_length (Nat.le_refl _), List.drop_length, List.nil_append]
  cases step st code body <;> rfl
theorem capS_one {o : Opn} {f : Int} (hf : fam5 f) : capS o 1 (pairB f [0] []) = .ok { o with fams := withB o.fams f } := by
  have h : ∀ f : Int, fam5 f → (pairB f [0] []).length = 4 ∧ fam3 ((pairB f [0] []).take 2 ++ (pairB f [0] []).drop 3) = f := fun f hf => by
    rcases hf with rfl | rfl | rfl | rfl | rfl <;> decide
  obtain ⟨h1, h2⟩ := h f hf
  unfold capS
  rw [if_pos rfl, if_pos h1, h2, if_pos (by rcases hf with rfl | rfl | rfl | rfl | rfl <;> decide)]
theorem fams_back : ∀ (l : List Int) (st : Opn) (rest : List UInt8), (∀ f ∈ l, fam5 f) → eachB capS st (famsB l ++ rest) = eachB capS { st with fams := l.foldl withB st.fams } rest
  | [], st, rest, _ => rfl
  | f :: l, st, rest, h => by
    have hf := h f (by simp)
    rw [famsB, List.append_assoc, eachB_cap (by omega) (by simp [pairB_len]), capS_one hf]
    simp only
    rw [fams_back l _ rest fun x hx => h x (by simp [hx])]
    rfl
theorem withB_snoc {acc : List Int} {f : Int} (h : FamOk (acc ++ [f])) : withB acc f = acc ++ [f] := by
  refine pair_ext _ _ ((fr_pair 5).filter _) h.1 fun x => ?_
  simp only [withB, List.mem_filter, mem_fr, Bool.or_eq_true, beq_iff_eq, List.contains_iff_mem, List.mem_append, List.mem_singleton]
  constructor
  · rintro ⟨_, rfl | hx⟩
    · exact .inr rfl
    · exact .inl hx
  · intro hx
    have := h.2 x (by simpa using hx)
    exact ⟨⟨by omega, by omega⟩, hx.symm⟩
theorem fold_with : ∀ (l acc : List Int), FamOk (acc ++ l) → l.foldl withB acc = acc ++ l
  | [], acc, _ => by simp
  | f :: l, acc, h => by
    have e : acc ++ f :: l = (acc ++ [f]) ++ l := by simp
    rw [List.foldl_cons, withB_snoc ⟨(List.pairwise_append.1 (e ▸ h.1)).1, fun x hx => h.2 x (by simp at hx ⊢; rcases hx with hx | hx <;> simp [hx])⟩, fold_with l (acc ++ [f]) (e ▸ h), e]

theorem key_ext {α : Type} (key : α → Int) : ∀ (a b : List α), (a.Pairwise fun x y => key x < key y) → (b.Pairwise fun x y => key x < key y) → (∀ x, x ∈ a ↔ x ∈ b) → a = b
  | [], [], _, _, _ => rfl
  | [], y :: b, _, _, e => by have := (e y).2 (by simp); cases this
  | x :: a, [], _, _, e => by have := (e x).1 (by simp); cases this
  | x :: a, y :: b, ha, hb, e => by
    cases ha with
    | cons ha1 ha2 =>
      cases hb with
      | cons hb1 hb2 =>
        have hxy : x = y := by
          have h1 := (e x).1 (by simp)
          have h2 := (e y).2 (by simp)
          rcases List.mem_cons.1 h1 with h1 | h1
          · exact h1
          · rcases List.mem_cons.1 h2 with h2 | h2
            · exact h2.symm
            · have := hb1 x h1; have := ha1 y h2; omega
        subst hxy
        refine congrArg (x :: ·) (key_ext key a b ha2 hb2 fun z => ⟨fun hz => ?_, fun hz => ?_⟩)
        · rcases List.mem_cons.1 ((e z).1 (by simp [hz])) with rfl | h
          · have := ha1 z hz; omega
          · exact h
        · rcases List.mem_cons.1 ((e z).2 (by simp [hz])) with rfl | h
          · have := hb1 z hz; omega
          · exact h
theorem arr_at (w : Nat → Option Nat) : ∀ (es : List (Int × Nat)) (ks : List Nat), es.Pairwise (fun a b => a.1 < b.1) → (∀ x ∈ es, 1 ≤ x.1 ∧ x.1 ≤ 5) → ks.length = 6 →
    (∀ x ∈ es, ∀ v, w x.2 = some v → (es.foldl (fun ks x => match w x.2 with | some v => ks.set x.1.toNat v | none => ks) ks).getD x.1.toNat 0 = v) ∧
    ∀ i : Nat, (∀ x ∈ es, x.1 ≠ i) → (es.foldl (fun ks x => match w x.2 with | some v => ks.set x.1.toNat v | none => ks) ks).getD i 0 = ks.getD i 0
  | [], ks, _, _, _ => ⟨by simp, fun _ _ => rfl⟩
  | x :: es, ks, hp, hk, hl => by
    cases hp with
    | cons hp1 hp2 =>
      have hx := hk x (by simp)
      obtain ⟨ks', hks⟩ : ∃ k, k = (match w x.2 with | some v => ks.set x.1.toNat v | none => ks) := ⟨_, rfl⟩
      have hl' : ks'.length = 6 := by rw [hks]; split <;> simp [hl]
      obtain ⟨A, B⟩ := arr_at w es ks' hp2 (fun y hy => hk y (by simp [hy])) hl'
      simp only [List.foldl_cons]
      rw [← hks]
      refine ⟨fun y hy v hv => ?_, fun i hi => ?_⟩
      · rcases List.mem_cons.1 hy with rfl | hy
        · rw [B _ (fun z hz => by have := hp1 z hz; omega), hks, hv]
          simp only
          rw [List.getD_eq_getElem?_getD, List.getElem?_set_self (by omega)]; rfl
        · exact A y hy v hv
      · rw [B i (fun z hz => hi z (by simp [hz])), hks]
        split
        · have := hi x (by simp)
          rw [List.getD_eq_getElem?_getD, List.getElem?_set_ne (by omega), ← List.getD_eq_getElem?_getD]
        · rfl
theorem ents_pair {f : Int} (hf : fam5 f) (b : UInt8) (rest : List UInt8) : ents (pairB f [] [b] ++ rest) = (f, b.toNat) :: ents rest := by
  have key : ∀ f : Int, fam5 f → ∃ x y z : UInt8, (∀ b rest, pairB f [] [b] ++ rest = x :: y :: z :: b :: rest) ∧ fam3 [x, y, z] = f ∧ 0 < f := fun f hf => by
    rcases hf with rfl | rfl | rfl | rfl | rfl
    · exact ⟨0, 1, 1, fun _ _ => rfl, by decide, by decide⟩
    · exact ⟨0, 2, 1, fun _ _ => rfl, by decide, by decide⟩
    · exact ⟨0, 1, 4, fun _ _ => rfl, by decide, by decide⟩
    · exact ⟨0, 1, 128, fun _ _ => rfl, by decide, by decide⟩
    · exact ⟨0, 2, 128, fun _ _ => rfl, by decide, by decide⟩
  obtain ⟨x, y, z, h1, h2, h3⟩ := key f hf
  rw [h1, ents, h2, if_pos h3]
theorem kept_ents : ∀ l : List Rest, (∀ x ∈ l, fam5 x.fam) → ents (keptB l) = l.map fun x => (x.fam, if x.kept then 128 else 0)
  | [], _ => rfl
  | x :: l, h => by
    have ih := kept_ents l fun y hy => h y (by simp [hy])
    rw [keptB, List.map_cons, ← ih]
    cases x.kept with
    | true => exact ents_pair (h x (by simp)) 128 _
    | false => exact ents_pair (h x (by simp)) 0 _
theorem adds_ents : ∀ l : List Add, (∀ x ∈ l, fam5 x.fam) → ents (addsB l) = l.map fun x => (x.fam, (if x.take then 1 else 0) + (if x.send then 2 else 0))
  | [], _ => rfl
  | x :: l, h => by
    have ih := adds_ents l fun y hy => h y (by simp [hy])
    rw [addsB, List.map_cons, ← ih]
    cases x.take <;> cases x.send
    · exact ents_pair (h x (by simp)) 0 _
    · exact ents_pair (h x (by simp)) 2 _
    · exact ents_pair (h x (by simp)) 1 _
    · exact ents_pair (h x (by simp)) 3 _
theorem kept_back {l : List Rest} (hl : FamOk (l.map Rest.fam)) (hf : ∀ x ∈ l, fam5 x.fam) : keptOf (arrB w64 (ents (keptB l))) 6 = l := by
  rw [kept_ents l hf]
  have hp : l.Pairwise fun a b => a.fam < b.fam := by have := hl.1; rw [List.pairwise_map] at this; exact this
  obtain ⟨A, B⟩ := arr_at w64 (l.map fun x => (x.fam, if x.kept then 128 else 0)) [0, 0, 0, 0, 0, 0] (by rw [List.pairwise_map]; exact hp) (fun x hx => by
    obtain ⟨y, hy, rfl⟩ := List.mem_map.1 hx
    have := hl.2 y.fam (List.mem_map_of_mem hy); exact this) rfl
  have A' : ∀ y ∈ l, (arrB w64 (l.map fun x => (x.fam, if x.kept then 128 else 0))).getD y.fam.toNat 0 = if y.kept then 2 else 1 := fun y hy =>
    A (y.fam, if y.kept then 128 else 0) (List.mem_map_of_mem (f := fun x : Rest => (x.fam, if x.kept then 128 else 0)) hy) _ (by cases y.kept <;> simp [w64])
  have B' : ∀ i : Nat, i < 6 → (∀ y ∈ l, y.fam ≠ i) → (arrB w64 (l.map fun x => (x.fam, if x.kept then 128 else 0))).getD i 0 = 0 := fun i hi h => by
    have := B i (fun x hx => by obtain ⟨y, hy, rfl⟩ := List.mem_map.1 hx; exact h y hy)
    have z : ([0, 0, 0, 0, 0, 0] : List Nat).getD i 0 = 0 := by
      have : i = 0 ∨ i = 1 ∨ i = 2 ∨ i = 3 ∨ i = 4 ∨ i = 5 := by omega
      rcases this with rfl | rfl | rfl | rfl | rfl | rfl <;> rfl
    rw [z] at this; exact this
  refine key_ext Rest.fam _ _ ?_ hp fun x => ?_
  · have := (keptOf_ok (ks := arrB w64 (l.map fun x => (x.fam, if x.kept then 128 else 0))) (B' 0 (by omega) (fun y hy => by have := hl.2 y.fam (List.mem_map_of_mem hy); omega))).1
    rw [List.pairwise_map] at this; exact this
  · constructor
    · intro hx
      obtain ⟨i, hi, e⟩ := List.mem_filterMap.1 hx
      have hi := List.mem_range.1 hi
      split at e
      · rename_i hp0
        cases e
        by_cases hex : ∃ y ∈ l, y.fam = i
        · obtain ⟨y, hy, hyi⟩ := hex
          have := A' y hy
          have ti : y.fam.toNat = i := by omega
          rw [ti] at this
          have : (⟨(i : Int), (arrB w64 (l.map fun x => (x.fam, if x.kept then 128 else 0))).getD i 0 == 2⟩ : Rest) = y := by
            rw [this]
            cases y with
            | mk yf yk => simp only at hyi; subst hyi; cases yk <;> rfl
          rw [this]; exact hy
        · rw [B' i hi (fun y hy e => hex ⟨y, hy, e⟩)] at hp0; omega
      · cases e
    · intro hx
      have hb := hl.2 x.fam (List.mem_map_of_mem hx)
      refine List.mem_filterMap.2 ⟨x.fam.toNat, List.mem_range.2 (by omega), ?_⟩
      rw [A' x hx]
      cases x with
      | mk xf xk =>
        simp only at hb
        have : ((xf.toNat : Nat) : Int) = xf := by omega
        cases xk <;> simp [this]
theorem adds_back {l : List Add} (hl : FamOk (l.map Add.fam)) (hf : ∀ x ∈ l, fam5 x.fam) (hw : ∀ x ∈ l, (x.send || x.take) = true) : addsOf (arrB w69 (ents (addsB l))) 6 = l := by
  rw [adds_ents l hf]
  have hp : l.Pairwise fun a b => a.fam < b.fam := by have := hl.1; rw [List.pairwise_map] at this; exact this
  obtain ⟨A, B⟩ := arr_at w69 (l.map fun x => (x.fam, (if x.take then 1 else 0) + (if x.send then 2 else 0))) [0, 0, 0, 0, 0, 0] (by rw [List.pairwise_map]; exact hp) (fun x hx => by
    obtain ⟨y, hy, rfl⟩ := List.mem_map.1 hx
    have := hl.2 y.fam (List.mem_map_of_mem hy); exact this) rfl
  have A' : ∀ y ∈ l, (arrB w69 (l.map fun x => (x.fam, (if x.take then 1 else 0) + (if x.send then 2 else 0)))).getD y.fam.toNat 0 = (if y.take then 1 else 0) + (if y.send then 2 else 0) := fun y hy =>
    A (y.fam, (if y.take then 1 else 0) + (if y.send then 2 else 0)) (List.mem_map_of_mem (f := fun x : Add => (x.fam, (if x.take then 1 else 0) + (if x.send then 2 else 0))) hy) _ (by have := hw y hy; cases h1 : y.take <;> cases h2 : y.send <;> simp_all [w69])
  have B' : ∀ i : Nat, i < 6 → (∀ y ∈ l, y.fam ≠ i) → (arrB w69 (l.map fun x => (x.fam, (if x.take then 1 else 0) + (if x.send then 2 else 0)))).getD i 0 = 0 := fun i hi h => by
    have := B i (fun x hx => by obtain ⟨y, hy, rfl⟩ := List.mem_map.1 hx; exact h y hy)
    have z : ([0, 0, 0, 0, 0, 0] : List Nat).getD i 0 = 0 := by
      have : i = 0 ∨ i = 1 ∨ i = 2 ∨ i = 3 ∨ i = 4 ∨ i = 5 := by omega
      rcases this with rfl | rfl | rfl | rfl | rfl | rfl <;> rfl
    rw [z] at this; exact this
  refine key_ext Add.fam _ _ ?_ hp fun x => ?_
  · have := (addsOf_ok (ks := arrB w69 (l.map fun x => (x.fam, (if x.take then 1 else 0) + (if x.send then 2 else 0)))) (B' 0 (by omega) (fun y hy => by have := hl.2 y.fam (List.mem_map_of_mem hy); omega))).1
    rw [List.pairwise_map] at this; exact this
  · constructor
    · intro hx
      obtain ⟨i, hi, e⟩ := List.mem_filterMap.1 hx
      have hi := List.mem_range.1 hi
      split at e
      · rename_i hp0
        cases e
        by_cases hex : ∃ y ∈ l, y.fam = i
        · obtain ⟨y, hy, hyi⟩ := hex
          have h3 := A' y hy
          have hwy := hw y hy
          have ti : y.fam.toNat = i := by omega
          rw [ti] at h3
          have : (⟨(i : Int), (arrB w69 (l.map fun x => (x.fam, (if x.take then 1 else 0) + (if x.send then 2 else 0)))).getD i 0 &&& 2 != 0, (arrB w69 (l.map fun x => (x.fam, (if x.take then 1 else 0) + (if x.send then 2 else 0)))).getD i 0 &&& 1 != 0⟩ : Add) = y := by
            rw [h3]
            cases y with
            | mk yf ys yt => simp only at hyi; subst hyi; cases ys <;> cases yt <;> first | (simp at hwy; done) | (simp; done) | (congr 1 <;> decide)
          rw [this]; exact hy
        · rw [B' i hi (fun y hy e => hex ⟨y, hy, e⟩)] at hp0; omega
      · cases e
    · intro hx
      have hb := hl.2 x.fam (List.mem_map_of_mem hx)
      have hwx := hw x hx
      refine List.mem_filterMap.2 ⟨x.fam.toNat, List.mem_range.2 (by omega), ?_⟩
      rw [A' x hx]
      cases x with
      | mk xf xs xt =>
        simp only at hb
        have : ((xf.toNat : Nat) : Int) = xf := by omega
        cases xs <;> cases xt <;> first | (simp at hwx; done) | (simp [this])
end Go.Am
