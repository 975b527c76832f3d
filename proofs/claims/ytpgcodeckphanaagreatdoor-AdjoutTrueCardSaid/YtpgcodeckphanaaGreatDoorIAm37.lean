/-
 AM, PART 37. zjh of slices; copies made by append.
-/
import Derived.Test.YtpgcodeckphanaaGreatDoorIAmL
namespace Go.Am

def zcV : V -> Prop
 | .sl _ _ _ len (some c) => len ≤ c
 | _ => True
theorem Gl.cap {h : H} {lo sz : Nat} {v : V} {es : List (List V)} (g : Gl h lo sz v es) : zcV v := by
 rcases g with ⟨_, rfl⟩ | ⟨_, j, _, _, rfl, _⟩ <;> trivial
theorem zbR {d y n : Nat} (h : n ≤ y) (k : IntKind) : zan d y (some (.int k (n : Int))) = some n := by
 simp only [zan]
 rw [if_pos ⟨by omega, by omega⟩]; simp
theorem zgV {sz : Nat} : ∀ {es : List (List V)} (_ : ∀ e ∈ es, e.length = sz) (k : Nat), (es.take k).flatten = es.flatten.take (k * sz)
 | [], _, k => by simp
 | e :: es, _, 0 => by simp
 | e :: es, h, k + 1 => by
  have he := h e (by simp)
  rw [List.take_succ_cons, List.flatten_cons, List.flatten_cons, zgV (fun x hx => h x (by simp [hx])) k, List.take_append, he, Nat.add_mul, Nat.one_mul, List.take_of_length_le (show e.length ≤ k * sz + sz by omega)]
  congr 2; omega
theorem zg4 {sz : Nat} : ∀ {es : List (List V)} (_ : ∀ e ∈ es, e.length = sz) (k : Nat), (es.drop k).flatten = es.flatten.drop (k * sz)
 | [], _, k => by simp
 | e :: es, _, 0 => by simp
 | e :: es, h, k + 1 => by
  have he := h e (by simp)
  rw [List.drop_succ_cons, List.flatten_cons, zg4 (fun x hx => h x (by simp [hx])) k, List.drop_append, he, Nat.add_mul, Nat.one_mul, List.drop_of_length_le (show e.length ≤ k * sz + sz by omega), List.nil_append]
  congr 1; omega
theorem Sls.cells {g : Nat -> Option O} {sz i n off len : Nat} {cap : Option Nat} {es : List (List V)} (s : Sls g sz (.sl i n off len cap) es) (h : len ≠ 0) : len = es.length ∧ ∃ cs, zab g i n = some cs ∧ off + len * sz ≤ cs.length ∧ (cs.drop off).take (len * sz) = es.flatten := by
 have hr := s.read
 rw [zax, if_neg h] at hr
 split at hr
 ·rename_i cs hc
  split at hr
  ·rename_i hle
   simp only [Option.some.injEq, Prod.mk.injEq] at hr
   exact ⟨hr.1, cs, hc, hle, hr.2⟩
  ·cases hr
 ·cases hr
theorem Sls.take {g : Nat -> Option O} {sz : Nat} {v : V} {es : List (List V)} (s : Sls g sz v es) (c : zcV v) {k : Nat} (hk : k ≤ es.length) (kd : IntKind) :
  ∃ v', zay sz none (some (.int kd (k : Int))) none v = some v' ∧ Sls g sz v' (es.take k) ∧ zcV v' := by
 have hb : (es.take k).length < 9223372036854775808 := by have := s.bound; simp; omega
 have hsz : ∀ e ∈ es.take k, e.length = sz := fun e he => s.size e (List.mem_of_mem_take he)
 rcases s.kind with ⟨rfl, rfl | rfl⟩ | ⟨i, n, off, cap, rfl⟩
 ·simp only [List.length_nil, Nat.le_zero_eq] at hk
  subst hk
  exact ⟨.nilsl, by simp [zay, zan], by simpa using s, trivial⟩
 ·simp only [List.length_nil, Nat.le_zero_eq] at hk
  subst hk
  exact ⟨.slz, by simp [zay, zan], by simpa using s, trivial⟩
 ·have sub : ∀ cap', Sls g sz (.sl i n off k cap') (es.take k) := fun cap' => by
   refine ⟨.inr ⟨i, n, off, cap', by rw [List.length_take, Nat.min_eq_left hk]⟩, hsz, ?_, hb⟩
   rw [zax]
   split
   ·rename_i h0; subst h0; simp
   ·rename_i h0
    obtain ⟨_, cs, h1, h2, h3⟩ := s.cells (by omega)
    have hm := Nat.mul_le_mul_right sz hk
    rw [h1]
    simp only
    rw [if_pos (by omega), List.length_take, Nat.min_eq_left hk, zgV s.size, <- h3, List.take_take, Nat.min_eq_left hm]
  cases cap with
  | some m =>
   have hm : es.length ≤ m := c
   refine ⟨.sl i n off k (some m), ?_, sub _, show k ≤ m by omega⟩
   simp only [zay, zbx, zbR (show k ≤ m by omega), Nat.sub_zero, Nat.zero_mul, Nat.add_zero, ite_self]
   rw [if_pos (by omega)]
  | none =>
   by_cases h0 : 0 < es.length
   ·refine ⟨.sl i n off k none, ?_, sub _, trivial⟩
    simp only [zay, zbx, zbR hk, Nat.sub_zero, Nat.zero_mul, Nat.add_zero]
    rw [if_pos h0]
   ·have : es = [] := List.eq_nil_of_length_eq_zero (by omega)
    subst this
    refine ⟨.slz, ?_, ⟨.inl ⟨by simp, .inr rfl⟩, by simp, by simp [zaB], by simp⟩, trivial⟩
    simp only [zay, zbx, zbR hk]
    rw [if_neg (by simp)]
theorem Sls.drop {g : Nat -> Option O} {sz : Nat} {v : V} {es : List (List V)} (s : Sls g sz v es) (c : zcV v) {k : Nat} (hk : k ≤ es.length) (kd : IntKind) :
  ∃ v', zay sz (some (.int kd (k : Int))) none none v = some v' ∧ Sls g sz v' (es.drop k) ∧ zcV v' := by
 have hb : (es.drop k).length < 9223372036854775808 := by have := s.bound; simp; omega
 have hsz : ∀ e ∈ es.drop k, e.length = sz := fun e he => s.size e (List.mem_of_mem_drop he)
 rcases s.kind with ⟨rfl, rfl | rfl⟩ | ⟨i, n, off, cap, rfl⟩
 ·simp only [List.length_nil, Nat.le_zero_eq] at hk
  subst hk
  exact ⟨.nilsl, by simp [zay, zan], by simpa using s, trivial⟩
 ·simp only [List.length_nil, Nat.le_zero_eq] at hk
  subst hk
  exact ⟨.slz, by simp [zay, zan], by simpa using s, trivial⟩
 ·have sub : ∀ cap', Sls g sz (.sl i n (off + k * sz) (es.length - k) cap') (es.drop k) := fun cap' => by
   refine ⟨.inr ⟨i, n, off + k * sz, cap', by rw [List.length_drop]⟩, hsz, ?_, hb⟩
   rw [zax]
   split
   ·rename_i h0; rw [List.drop_of_length_le (by omega)]; rfl
   ·rename_i h0
    obtain ⟨_, cs, h1, h2, h3⟩ := s.cells (by omega)
    have hm : k * sz + (es.length - k) * sz = es.length * sz := by rw [<- Nat.add_mul]; congr 1; omega
    rw [h1]
    simp only
    rw [if_pos (by omega), List.length_drop, zg4 s.size, <- h3, List.drop_take, List.drop_drop]
    congr 2
    ·congr 1; omega
  have emp : ∀ cap' o', es.length - k = 0 -> Sls g sz (.sl i n o' (es.length - k) cap') (es.drop k) := fun cap' o' h0 => by
   rw [List.drop_of_length_le (by omega), h0]
   exact ⟨.inr ⟨i, n, o', cap', rfl⟩, by simp, by rw [zax, if_pos rfl]; rfl, by simp⟩
  cases cap with
  | some m =>
   have hm : es.length ≤ m := c
   refine ⟨.sl i n (if m = k then off else off + k * sz) (es.length - k) (some (m - k)), ?_, ?_, show es.length - k ≤ m - k by omega⟩
   ·simp only [zay, zbx, zbR hk]
    rw [if_pos hm]
   ·split
    ·exact emp _ _ (by omega)
    ·exact sub _
  | none =>
   by_cases h0 : k < es.length
   ·refine ⟨.sl i n (off + k * sz) (es.length - k) none, ?_, sub _, trivial⟩
    simp only [zay, zbx, zbR hk]
    rw [if_pos h0]
   ·refine ⟨.slz, ?_, ⟨.inl ⟨List.drop_of_length_le (by omega), .inr rfl⟩, by rw [List.drop_of_length_le (by omega)]; simp, by rw [List.drop_of_length_le (by omega)]; simp [zaB], hb⟩, trivial⟩
    simp only [zay, zbx, zbR hk]
    rw [if_neg h0]
end Go.Am
