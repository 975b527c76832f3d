/-
 AM, PART 10. Regions that draw their order: the order of the text serves for every order, where what is unordered does not zbD.
-/
import Derived.Test.YtpgcodeckphanaaGreatDoorIAm9
namespace Go.Am

def A.rd : A -> List Nat
 | .t i => [i]
 | .c _ => []
def zi9 : Option A -> List Nat
 | some a => a.rd
 | none => []
def I.rd : I -> List Nat
 | .mov x | .box x | .mkIface _ x | .nilchk x | .un _ x | .convInt _ x | .convId x | .bytesOf x | .strOf x | .fieldAddr _ x | .field _ _ _ x | .extract x _ | .len _ x | .load _ _ x => x.rd
 | .pick c a b => c.rd ++ (a.rd ++ b.rd)
 | .alloc _ | .makeMap => []
 | .clearSl _ _ x | .clearMap x => x.rd
 | .lookup _ _ _ x k | .mapDel _ x k | .copy _ x k => x.rd ++ k.rd
 | .mapSet _ x k v => x.rd ++ (k.rd ++ v.rd)
 | .build _ ps => ps.flatMap fun p => p.2.2.rd
 | .buildSlice _ _ _ ps => ps.flatMap fun p => p.2.rd
 | .store _ a x | .resl _ a x | .bin _ a x | .eq _ _ a x | .indexAddr _ a x | .indexAddrArr _ _ a x | .indexStr a x | .ext _ a x | .indexArr _ _ _ a x | .makeSlice _ _ _ a x | .append _ _ a x => a.rd ++ x.rd
 | .sliceStr x l h => x.rd ++ (zi9 l ++ zi9 h)
 | .sliceSl _ x l h m | .sliceArr _ _ x l h m => x.rd ++ (zi9 l ++ (zi9 h ++ zi9 m))
 | .makeFunc _ f c => f.flatMap A.rd ++ c.flatMap A.rd
 | .minmax _ x r => x.rd ++ r.flatMap A.rd
 | .pcall _ _ r => r.flatMap A.rd
def X.rd : X -> List Nat
 | .op i => i.rd
 | .call f args => f.rd ++ args.flatMap A.rd
def SI.looks (s : SI) : List Nat := s.ins.rd ++ (match s.guard with | some (d, _) => [d] | none => [])
def I.cls : I -> Nat
 | .load _ _ _ | .strOf _ | .lookup _ _ _ _ _ | .resl _ _ _ => 1
 | .len k _ => if k = 2 then 1 else 0
 | .alloc _ | .box _ | .buildSlice _ _ _ _ | .store _ _ _ | .bytesOf _ | .makeSlice _ _ _ _ _ | .append _ _ _ _ | .makeMap | .mapSet _ _ _ _ | .mapDel _ _ _ | .copy _ _ _ | .clearSl _ _ _ | .clearMap _ => 2
 | _ => 0
def SI.cls (s : SI) : Nat := match s.ins with | .op i => i.cls | .call _ _ => 2

theorem A.ev_congr {x : A} {t t' : Nat -> V} (e : ∀ k ∈ x.rd, t k = t' k) : x.ev t = x.ev t' := by
 cases x with
 | t i => exact e i (by simp [A.rd])
 | c v => rfl
theorem zcr {xs : List A} {t t' : Nat -> V} (e : ∀ k ∈ xs.flatMap A.rd, t k = t' k) : xs.map (·.ev t) = xs.map (·.ev t') :=
 List.map_congr_left fun x hx => A.ev_congr fun k hk => e k (List.mem_flatMap.2 ⟨x, hx, hk⟩)
theorem zbF {x : Option A} {t t' : Nat -> V} (e : ∀ k ∈ zi9 x, t k = t' k) : x.map (·.ev t) = x.map (·.ev t') := by
 cases x with
 | none => rfl
 | some x => simp only [Option.map_some, Option.some.injEq]; exact A.ev_congr e

theorem zd4 {i : I} {t t' : Nat -> V} {get : Nat -> Option O} {next : Nat} (e : ∀ k ∈ i.rd, t k = t' k) : exec i t get next = exec i t' get next := by
 cases i <;> simp only [I.rd, List.mem_append, or_imp, forall_and, List.not_mem_nil, false_implies, implies_true] at e <;> simp only [exec]
 case mov => rw [A.ev_congr e]
 case pick => rw [A.ev_congr e.1, A.ev_congr e.2.1, A.ev_congr e.2.2]
 case box => rw [A.ev_congr e]
 case mkIface => rw [A.ev_congr e]
 case build ps =>
  rename_i z
  have : (ps.map fun (o, n, x) => (o, n, A.ev t x)) = ps.map fun (o, n, x) => (o, n, A.ev t' x) :=
   List.map_congr_left fun p hp => by
    obtain ⟨o, n, x⟩ := p
    simp only [Prod.mk.injEq, true_and]
    exact A.ev_congr fun k hk => e k (List.mem_flatMap.2 ⟨_, hp, hk⟩)
  rw [this]
 case buildSlice sz len z ps =>
  have : (ps.map fun (k, x) => (k * sz, sz, A.ev t x)) = ps.map fun (k, x) => (k * sz, sz, A.ev t' x) :=
   List.map_congr_left fun p hp => by
    obtain ⟨o, x⟩ := p
    simp only [Prod.mk.injEq, true_and]
    exact A.ev_congr fun k hk => e k (List.mem_flatMap.2 ⟨_, hp, hk⟩)
  rw [this]
 case load => rw [A.ev_congr e]
 case store => rw [A.ev_congr e.1, A.ev_congr e.2]
 case nilchk => rw [A.ev_congr e]
 case bin => rw [A.ev_congr e.1, A.ev_congr e.2]
 case eq => rw [A.ev_congr e.1, A.ev_congr e.2]
 case un => rw [A.ev_congr e]
 case convInt => rw [A.ev_congr e]
 case convId => rw [A.ev_congr e]
 case bytesOf => rw [A.ev_congr e]
 case strOf => rw [A.ev_congr e]
 case fieldAddr => rw [A.ev_congr e]
 case field => rw [A.ev_congr e]
 case indexAddr => rw [A.ev_congr e.1, A.ev_congr e.2]
 case indexAddrArr => rw [A.ev_congr e.1, A.ev_congr e.2]
 case indexStr => rw [A.ev_congr e.1, A.ev_congr e.2]
 case indexArr => rw [A.ev_congr e.1, A.ev_congr e.2]
 case ext => rw [A.ev_congr e.1, A.ev_congr e.2]
 case pcall => rw [zcr e]
 case sliceStr => rw [A.ev_congr e.1, zbF e.2.1, zbF e.2.2]
 case sliceSl => rw [A.ev_congr e.1, zbF e.2.1, zbF e.2.2.1, zbF e.2.2.2]
 case resl => rw [A.ev_congr e.1, A.ev_congr e.2]
 case sliceArr => rw [A.ev_congr e.1, zbF e.2.1, zbF e.2.2.1, zbF e.2.2.2]
 case makeSlice => rw [A.ev_congr e.1, A.ev_congr e.2]
 case makeFunc => rw [zcr e.1, zcr e.2]
 case extract => rw [A.ev_congr e]
 case len => rw [A.ev_congr e]
 case append => rw [A.ev_congr e.1, A.ev_congr e.2]
 case minmax => rw [A.ev_congr e.1, zcr e.2]
 case lookup => rw [A.ev_congr e.1, A.ev_congr e.2]
 case mapSet => rw [A.ev_congr e.1, A.ev_congr e.2.1, A.ev_congr e.2.2]
 case mapDel => rw [A.ev_congr e.1, A.ev_congr e.2]
 case copy => rw [A.ev_congr e.1, A.ev_congr e.2]
 case clearSl => rw [A.ev_congr e]
 case clearMap => rw [A.ev_congr e]

theorem zea {o : Option V} {v : V} {d : D} (e : zam o = some (v, d)) : d = .keep := (zaE e).2

theorem zcl {i : I} {t : Nat -> V} {get : Nat -> Option O} {next : Nat} {v : V} {d : D} (hc : i.cls ≠ 2) (e : exec i t get next = some (v, d)) : d = .keep := by
 cases i <;> simp only [I.cls, ne_eq, not_true_eq_false] at hc <;> simp only [exec] at e
 case convId => split at e <;> first | (simp only [Option.some.injEq, Prod.mk.injEq] at e; exact e.2.symm) | cases e
 case fieldAddr => split at e <;> first | (simp only [Option.some.injEq, Prod.mk.injEq] at e; exact e.2.symm) | cases e
 case field => split at e <;> first | exact zea e | cases e
 case extract => split at e <;> first | exact zea e | cases e
 all_goals first
  | exact zea e
  | (simp only [Option.some.injEq, Prod.mk.injEq] at e; exact e.2.symm)

theorem zjZ {i : I} {t : Nat -> V} {get get' : Nat -> Option O} {next next' : Nat} (hc : i.cls = 0) : exec i t get next = exec i t get' next' := by
 cases i
 case len k x =>
  simp only [exec]
  congr 1
  unfold lenV
  split <;> first | rfl | (split <;> first | rfl | (rename_i h2; simp [I.cls, h2] at hc))
 all_goals first | rfl | (exact absurd hc (by simp [I.cls]))

def zaQ : V -> List Nat
 | .ptr i _ _ | .sl i _ _ _ _ | .map i => [i]
 | _ => []
def I.foot (t : Nat -> V) : I -> List Nat
 | .load _ _ a | .store _ a _ | .strOf a | .resl _ a _ => zaQ (a.ev t)
 | .len k a => if k = 2 then zaQ (a.ev t) else []
 | .append _ _ s x => zaQ (s.ev t) ++ zaQ (x.ev t)
 | .lookup _ _ _ x _ | .mapSet _ x _ _ | .mapDel _ x _ | .clearSl _ _ x | .clearMap x => zaQ (x.ev t)
 | .copy _ d s => zaQ (d.ev t) ++ zaQ (s.ev t)
 | _ => []

theorem zdY {get get' : Nat -> Option O} {i n : Nat} (e : get i = get' i) : zab get i n = zab get' i n := by simp [zab, e]
theorem zb9 {get get' : Nat -> Option O} {sz : Nat} {v : V} (e : ∀ i ∈ zaQ v, get i = get' i) : zaB get sz v = zaB get' sz v := by
 unfold zaB
 split
 ·split
  ·rfl
  ·rw [zdY (e _ (by simp [zaQ]))]
 all_goals rfl
theorem zfn {get get' : Nat -> Option O} {v : V} (e : ∀ i ∈ zaQ v, get i = get' i) : zcB get v = zcB get' v := by
 unfold zcB
 split
 ·rfl
 ·rw [e _ (by simp [zaQ])]
 ·rfl
theorem zgL {i : I} {t : Nat -> V} {get get' : Nat -> Option O} {k : Nat} (e : ∀ j ∈ i.foot t, get j = get' j) : exec i t get k = exec i t get' k := by
 cases i <;> simp only [exec] <;> simp only [I.foot] at e
 case load agg n a =>
  congr 1
  unfold zdj
  split
  ·rename_i j m off hv
   rw [zdY (e j (by simp [hv, zaQ]))]
  ·rfl
  ·rfl
 case store n a x =>
  congr 1
  unfold zdF
  split
  ·split
   ·rename_i j m off hv
    rw [e j (by simp [hv, zaQ])]
   ·rfl
  ·rfl
 case resl sz x hi =>
  congr 2
  unfold zi7
  split
  ·rename_i i n off len hv
   rw [e i (by simp [hv, zaQ])]
  ·rfl
 case strOf x =>
  congr 1
  unfold zen
  split
  ·rfl
  ·rw [zb9 e]
 case len kd x =>
  congr 1
  unfold lenV
  split <;> try rfl
  rename_i j hv
  split
  ·rename_i h2
   rw [if_pos h2] at e
   rw [e j (by simp [hv, zaQ])]
  ·rfl
 case append sz b s x =>
  have e1 : ∀ i ∈ zaQ (s.ev t), get i = get' i := fun i hi => e i (by simp [hi])
  have e2 : ∀ i ∈ zaQ (x.ev t), get i = get' i := fun i hi => e i (by simp [hi])
  unfold zaG
  rw [zb9 e2]
  split
  ·rfl
  ·split
   ·rfl
   ·split
    ·rfl
    ·split
     ·rfl
     ·rename_i j n off len c hs
      rw [e1 j (by simp [hs, zaQ]), zb9 (v := s.ev t) e1]
     ·rename_i j n off len hs
      rw [e1 j (by simp [hs, zaQ])]
     ·rfl
 case lookup kd z ok x k =>
  congr 1
  unfold zcw
  rw [zfn e]
 case mapSet kd x k v =>
  congr 1
  unfold zcj
  split
  ·split
   ·rename_i j hv
    rw [e j (by simp [hv, zaQ])]
   ·rfl
  ·rfl
 case mapDel kd x k =>
  congr 1
  unfold zch
  split
  ·split
   ·rfl
   ·rename_i j hv
    rw [e j (by simp [hv, zaQ])]
   ·rfl
  ·rfl
 case copy sz d s =>
  have e1 : ∀ i ∈ zaQ (d.ev t), get i = get' i := fun i hi => e i (by simp [hi])
  have e2 : ∀ i ∈ zaQ (s.ev t), get i = get' i := fun i hi => e i (by simp [hi])
  unfold zhy
  rw [zb9 e2]
  split
  ·rfl
  ·split
   ·rfl
   ·rfl
   ·rename_i j n off len c hs
    rw [e1 j (by simp [hs, zaQ])]
   ·rfl
 case clearSl sz z x =>
  congr 1
  unfold zcz
  split
  ·rfl
  ·rfl
  ·rename_i j n off len c hs
   rw [e j (by simp [hs, zaQ])]
  ·rfl
 case clearMap x =>
  congr 1
  unfold zbY
  split
  ·rfl
  ·rename_i j hs
   rw [e j (by simp [hs, zaQ])]
  ·rfl

theorem zhz {get : Nat -> Option O} {kd : KD} {x k v : V} {j : Nat} {o : O} (e : zcj get kd x k v = some (.set j o)) : ∃ o', get j = some o' := by
 unfold zcj at e
 split at e
 ·split at e
  ·split at e
   ·rename_i es ho
    split at e
    ·cases e
    ·simp only [Option.some.injEq, D.set.injEq] at e; obtain ⟨rfl, _⟩ := e; exact ⟨_, ho⟩
    ·simp only [Option.some.injEq, D.set.injEq] at e; obtain ⟨rfl, _⟩ := e; exact ⟨_, ho⟩
   ·cases e
  ·cases e
 ·cases e
theorem zhk {get : Nat -> Option O} {kd : KD} {x k : V} {j : Nat} {o : O} (e : zch get kd x k = some (.set j o)) : ∃ o', get j = some o' := by
 unfold zch at e
 split at e
 ·split at e
  ·cases e
  ·split at e
   ·rename_i es ho
    split at e
    ·cases e
    ·simp only [Option.some.injEq, D.set.injEq] at e; obtain ⟨rfl, _⟩ := e; exact ⟨_, ho⟩
    ·simp only [Option.some.injEq, D.set.injEq] at e; obtain ⟨rfl, _⟩ := e; exact ⟨_, ho⟩
   ·cases e
  ·cases e
 ·cases e
theorem zjq {get : Nat -> Option O} {sz : Nat} {x k v : V} {j : Nat} {o : O} (e : zhy get sz x k = some (v, .set j o)) : ∃ o', get j = some o' := by
 unfold zhy at e
 split at e
 ·cases e
 ·split at e
  ·cases e
  ·cases e
  ·split at e
   ·cases e
   ·split at e
    ·split at e
     ·rename_i o' ho
      split at e
      ·obtain ⟨_, _, e⟩ := zae e
       simp only [Prod.mk.injEq, D.set.injEq] at e; obtain ⟨_, rfl, _⟩ := e; exact ⟨_, ho⟩
      ·cases e
     ·cases e
    ·cases e
  ·cases e
theorem zgu {get : Nat -> Option O} {z : List V} {x : V} {j : Nat} {o : O} (e : zcz get z x = some (.set j o)) : ∃ o', get j = some o' := by
 unfold zcz at e
 split at e
 ·cases e
 ·cases e
 ·split at e
  ·cases e
  ·split at e
   ·rename_i o' ho
    split at e
    ·obtain ⟨_, _, e⟩ := zae e
     simp only [D.set.injEq] at e; obtain ⟨rfl, _⟩ := e; exact ⟨_, ho⟩
    ·cases e
   ·cases e
 ·cases e
theorem zgj {get : Nat -> Option O} {x : V} {j : Nat} {o : O} (e : zbY get x = some (.set j o)) : ∃ o', get j = some o' := by
 unfold zbY at e
 split at e
 ·cases e
 ·split at e
  ·rename_i es ho
   simp only [Option.some.injEq, D.set.injEq] at e; obtain ⟨rfl, _⟩ := e; exact ⟨_, ho⟩
  ·cases e
 ·cases e
theorem zlg {i : I} {t : Nat -> V} {get : Nat -> Option O} {k : Nat} {v : V} {j : Nat} {o : O} (e : exec i t get k = some (v, .set j o)) : ∃ o', get j = some o' := by
 by_cases hc : i.cls = 2
 case neg => have := zcl hc e; cases this
 cases i <;> simp only [exec] at e
 case alloc => simp at e
 case box => split at e <;> simp at e
 case buildSlice => obtain ⟨_, _, e⟩ := zae e; simp at e
 case store n a x =>
  obtain ⟨d, hd, e⟩ := zae e
  simp only [Prod.mk.injEq] at e; obtain ⟨_, rfl⟩ := e
  unfold zdF at hd
  split at hd
  ·split at hd
   ·split at hd
    ·rename_i o' ho
     split at hd
     ·obtain ⟨_, _, hd⟩ := zae hd; cases hd; exact ⟨o', ho⟩
     ·cases hd
    ·cases hd
   ·cases hd
  ·cases hd
 case bytesOf => split at e <;> first | (split at e <;> simp at e) | cases e
 case makeMap => simp at e
 case mapSet kd x k v =>
  obtain ⟨d, hd, e⟩ := zae e
  simp only [Prod.mk.injEq] at e; obtain ⟨_, rfl⟩ := e
  exact zhz hd
 case mapDel kd x k =>
  obtain ⟨d, hd, e⟩ := zae e
  simp only [Prod.mk.injEq] at e; obtain ⟨_, rfl⟩ := e
  exact zhk hd
 case copy sz d s => exact zjq e
 case clearSl sz z x =>
  obtain ⟨d, hd, e⟩ := zae e
  simp only [Prod.mk.injEq] at e; obtain ⟨_, rfl⟩ := e
  exact zgu hd
 case clearMap x =>
  obtain ⟨d, hd, e⟩ := zae e
  simp only [Prod.mk.injEq] at e; obtain ⟨_, rfl⟩ := e
  exact zgj hd
 case makeSlice => unfold zaH at e; split at e <;> first | (split at e <;> simp at e) | cases e
 case append sz b s x =>
  unfold zaG at e
  split at e
  ·cases e
  ·split at e
   ·split at e <;> simp at e
   ·split at e
    ·cases e
    ·split at e
     ·split at e <;> simp at e
     ·split at e
      ·split at e
       ·rename_i o' ho
        split at e
        ·obtain ⟨_, _, e⟩ := zae e
         simp only [Prod.mk.injEq, D.set.injEq] at e
         obtain ⟨_, rfl, _⟩ := e
         exact ⟨o', ho⟩
        ·cases e
       ·cases e
      ·split at e
       ·split at e <;> simp at e
       ·cases e
     ·split at e
      ·rename_i s1 cs ho
       split at e
       ·simp only [Option.some.injEq, Prod.mk.injEq, D.set.injEq] at e
        obtain ⟨_, rfl, _⟩ := e
        exact ⟨_, ho⟩
       ·cases e
      ·cases e
     ·cases e
 all_goals (exfalso; revert hc; simp only [I.cls]; first | omega | (split <;> omega))

inductive Pre (ops : Array Oper) : Nat -> Nat -> Prop
 | edge {j : Nat} {o : Oper} {e : Edge} : ops[j]? = some o -> e ∈ o.after -> Region.binds .any e = true -> Pre ops e.on j
 | step {i j : Nat} {o : Oper} {e : Edge} : ops[j]? = some o -> e ∈ o.after -> Region.binds .any e = true -> Pre ops i e.on -> Pre ops i j

def zo9 (acc : List Nat) (es : List Edge) : Nat := es.foldl (fun m e => if Region.binds .any e && decide (e.on < acc.length) then m ||| (2 ^ e.on ||| acc.getD e.on 0) else m) 0
def zeb : List Oper -> List Nat -> List Nat
 | [], acc => acc
 | o :: l, acc => zeb l (acc ++ [zo9 acc o.after.toList])

theorem zfs {acc : List Nat} {i : Nat} : ∀ (es : List Edge) (m : Nat), (es.foldl (fun m e => if Region.binds .any e && decide (e.on < acc.length) then m ||| (2 ^ e.on ||| acc.getD e.on 0) else m) m).testBit i = true ->
  m.testBit i = true ∨ ∃ e ∈ es, Region.binds .any e = true ∧ e.on < acc.length ∧ (i = e.on ∨ (acc.getD e.on 0).testBit i = true)
 | [], m, h => .inl h
 | e :: es, m, h => by
  simp only [List.foldl_cons] at h
  rcases zfs es _ h with h1 | ⟨e', he', rest⟩
  ·split at h1
   ·rename_i hb
    simp only [Bool.and_eq_true, decide_eq_true_eq] at hb
    simp only [Nat.testBit_or, Bool.or_eq_true, Nat.testBit_two_pow, decide_eq_true_eq] at h1
    rcases h1 with h1 | h1 | h1
    ·exact .inl h1
    ·exact .inr ⟨e, by simp, hb.1, hb.2, .inl h1.symm⟩
    ·exact .inr ⟨e, by simp, hb.1, hb.2, .inr h1⟩
   ·exact .inl h1
  ·exact .inr ⟨e', by simp [he'], rest⟩

theorem zc4 {ops : Array Oper} : ∀ (l : List Oper) (acc : List Nat), (∀ k : Nat, l[k]? = ops[acc.length + k]?) -> (∀ j i : Nat, j < acc.length -> (acc.getD j 0).testBit i = true -> Pre ops i j) ->
  ∀ j i : Nat, ((zeb l acc).getD j 0).testBit i = true -> Pre ops i j
 | [], acc, _, hacc, j, i, h => by
  simp only [zeb] at h
  by_cases hj : j < acc.length
  ·exact hacc j i hj h
  ·rw [List.getD_eq_getElem?_getD, List.getElem?_eq_none (by omega)] at h
   simp at h
 | o :: l, acc, hl, hacc, j, i, h => by
  refine zc4 l _ (fun k => by have := hl (k + 1); simpa [Nat.add_assoc, Nat.add_comm 1 k] using this) (fun j i hj hb => ?_) j i h
  rw [List.getD_eq_getElem?_getD] at hb
  by_cases hlt : j < acc.length
  ·rw [List.getElem?_append_left hlt, <- List.getD_eq_getElem?_getD] at hb
   exact hacc j i hlt hb
  ·have : j = acc.length := by simp at hj; omega
   subst this
   simp only [List.getElem?_append_right (Nat.le_refl _), Nat.sub_self, List.getElem?_cons_zero, Option.getD_some] at hb
   have ho : ops[acc.length]? = some o := by simpa using (hl 0).symm
   rcases zfs o.after.toList 0 hb with h0 | ⟨e, he, hb2, hlt2, hh⟩
   ·simp at h0
   ·rcases hh with rfl | hh
    ·exact .edge ho (by simpa using he) hb2
    ·exact .step ho (by simpa using he) hb2 (hacc _ _ hlt2 hh)

def zbD (a b : SI) : Bool :=
 (match a.dst with | some d => b.looks.contains d | none => false) ||
 (match b.dst with | some d => a.looks.contains d | none => false) ||
 (a.dst.isSome && a.dst == b.dst)

def zbp (ops : Array Oper) (sis : List SI) : Bool :=
 let ms := zeb ops.toList []
 (List.range sis.length).all (fun j => (List.range j).all fun i => !zbD (sis.getD i default) (sis.getD j default) || (ms.getD j 0).testBit i) &&
 (List.range ops.size).all fun j => (ops.getD j default).after.all fun e => !Region.binds .any e || decide (e.on < j)
def zbG (ops : Array Oper) (sis : List SI) : List (Nat × Nat) :=
 let ms := zeb ops.toList []
 (List.range sis.length).flatMap fun j => ((List.range j).filter fun i =>
  !(ms.getD j 0).testBit i && ((sis.getD i default).cls == 2 && (sis.getD j default).cls != 0 || (sis.getD i default).cls != 0 && (sis.getD j default).cls == 2)).map fun i => (i, j)

structure Ev where
 rd : List Nat
 up : List (Nat × O)
 deriving Inhabited
def D.ups (k : Nat) : D -> List (Nat × O)
 | .keep => []
 | .set i o => [(i, o)]
 | .push o => [(k, o)]
def upds (get : Nat -> Option O) : List (Nat × O) -> Nat -> Option O
 | [], i => get i
 | (k, o) :: l, i => if i = k then some o else upds get l i
def room : Nat := 16
def names (k : Nat) : List O -> List (Nat × O)
 | [] => []
 | o :: os => (k, o) :: names (k + 1) os
def shift (k e : Nat) (i : Nat) : Nat := if k ≤ i ∧ i < k + room then i - k + e else i
def zaS (h : H) : List O -> H
 | [] => h
 | o :: os => zaS (h.push o) os

def zfB (P : Program) (f : V) (args : List V) (get : Nat -> Option O) (k e : Nat) (v : V) (rd : List Nat) (os : List O) : Prop :=
 os.length ≤ room ∧ (∀ i ∈ v.ids, i < e) ∧ (∀ o ∈ os, ∀ i ∈ o.ids, i < e) ∧
 ∀ h2 : H, h2.next = e -> (∀ i ∈ rd, h2.get i = get i) -> zdA P f args h2 fun v' h' => v' = v.ren (shift k e) ∧ h' = zaS h2 (os.map (O.ren (shift k e)))

def evAt (evs : List Ev) (i : Nat) : Ev := evs.getD i default
def apart (a b : Ev) : Prop := (∀ x ∈ a.up, x.1 ∉ b.rd ∧ ∀ y ∈ b.up, x.1 ≠ y.1) ∧ ∀ y ∈ b.up, y.1 ∉ a.rd

def Dwp (P : Program) (K : Tm -> H -> Prop) (fr : List (Nat × Nat)) (e0 e1 : Nat) : List SI -> Tm -> (Nat -> Option O) -> List Ev -> Prop
 | [], t, get, evs => (∀ p ∈ fr, apart (evAt evs p.1) (evAt evs p.2)) ∧ ∃ nx, nx ≤ e1 ∧ (∀ i, nx ≤ i -> i < e1 -> get i = none) ∧ K t ⟨nx, get⟩
 | i :: is, t, get, evs =>
  match zao i.guard t with
  | none => False
  | some false => Dwp P K fr e0 e1 is (t.put i.dst .undef) get (evs ++ [⟨[], []⟩])
  | some true =>
   match i.ins with
   | .call f args => ∃ v rd os, zfB P (f.ev t) (args.map (·.ev t)) get (e0 + evs.length * room) e1 v rd os ∧
     Dwp P K fr e0 e1 is (t.put i.dst v) (upds get (names (e0 + evs.length * room) os)) (evs ++ [⟨rd, names (e0 + evs.length * room) os⟩])
   | .op ins => match exec ins t get (e0 + evs.length * room) with
    | some (v, d) => Dwp P K fr e0 e1 is (t.put i.dst v) (upds get (d.ups (e0 + evs.length * room))) (evs ++ [⟨ins.foot t, d.ups (e0 + evs.length * room)⟩])
    | none => False

def StepOk (P : Program) (e1 k : Nat) (s : SI) (t : Tm) (get : Nat -> Option O) (v : V) (ev : Ev) : Prop :=
 match zao s.guard t with
 | none => False
 | some false => v = .undef ∧ ev = ⟨[], []⟩
 | some true => match s.ins with
  | .call f args => ∃ rd os, zfB P (f.ev t) (args.map (·.ev t)) get k e1 v rd os ∧ ev = ⟨rd, names k os⟩
  | .op i => ∃ d, exec i t get k = some (v, d) ∧ ev = ⟨i.foot t, d.ups k⟩

structure Trace (P : Program) (K : Tm -> H -> Prop) (fr : List (Nat × Nat)) (e0 e1 n0 : Nat) (sis : List SI) (t : Tm) (get : Nat -> Option O) (tf : Nat -> Tm) (gf : Nat -> Nat -> Option O) (vf : Nat -> V) (ef : Nat -> Ev) (evs : List Ev) : Prop where
 t0 : tf 0 = t
 g0 : gf 0 = get
 step : ∀ (j : Nat) (s : SI), sis[j]? = some s -> StepOk P e1 (e0 + (n0 + j) * room) s (tf j) (gf j) (vf j) (ef j) ∧ tf (j + 1) = (tf j).put s.dst (vf j) ∧ gf (j + 1) = upds (gf j) (ef j).up
 evof : ∀ j, j < sis.length -> evAt evs (n0 + j) = ef j
 fin : (∀ p ∈ fr, apart (evAt evs p.1) (evAt evs p.2)) ∧ ∃ nx, nx ≤ e1 ∧ (∀ i, nx ≤ i -> i < e1 -> gf sis.length i = none) ∧ K (tf sis.length) ⟨nx, gf sis.length⟩

theorem Dwp.trace {P : Program} {K : Tm -> H -> Prop} {fr : List (Nat × Nat)} {e0 e1 : Nat} : ∀ {sis : List SI} {t : Tm} {get : Nat -> Option O} {evs : List Ev}, Dwp P K fr e0 e1 sis t get evs ->
  ∃ tf gf vf ef evs', Trace P K fr e0 e1 evs.length sis t get tf gf vf ef (evs ++ evs')
 | [], t, get, evs, d => ⟨fun _ => t, fun _ => get, fun _ => .dead, fun _ => default, [], rfl, rfl, by simp, by simp, by rw [List.append_nil]; exact d⟩
 | s :: sis, t, get, evs, d => by
  have key : ∀ (v : V) (ev : Ev), StepOk P e1 (e0 + evs.length * room) s t get v ev -> Dwp P K fr e0 e1 sis (t.put s.dst v) (upds get ev.up) (evs ++ [ev]) ->
    ∃ tf gf vf ef evs', Trace P K fr e0 e1 evs.length (s :: sis) t get tf gf vf ef (evs ++ evs') := by
   intro v ev hs d'
   obtain ⟨tf, gf, vf, ef, evs', tr⟩ := Dwp.trace d'
   refine ⟨fun k => if k = 0 then t else tf (k - 1), fun k => if k = 0 then get else gf (k - 1), fun k => if k = 0 then v else vf (k - 1), fun k => if k = 0 then ev else ef (k - 1), ev :: evs', rfl, rfl, ?_, ?_, ?_⟩
   ·intro j s' hj
    cases j with
    | zero =>
     simp at hj; subst hj
     simp only [if_true, Nat.zero_add, if_false, Nat.sub_self, tr.t0, tr.g0, show (1 : Nat) ≠ 0 from by omega, Nat.add_zero]
     exact ⟨hs, trivial, trivial⟩
    | succ j =>
     simp only [List.getElem?_cons_succ] at hj
     have := tr.step j s' hj
     simpa [Nat.add_assoc, Nat.add_comm 1 j] using this
   ·intro j hj
    cases j with
    | zero => simp [evAt]
    | succ j =>
     have := tr.evof j (by simpa using hj)
     simpa [Nat.add_assoc, Nat.add_comm 1 j] using this
   ·simpa using tr.fin
  simp only [Dwp] at d
  split at d
  ·exact d.elim
  ·rename_i hg
   exact key .undef ⟨[], []⟩ (by simp [StepOk, hg]) d
  ·rename_i hg
   split at d
   ·rename_i f args hi
    obtain ⟨v, rd, os, hc, d⟩ := d
    exact key v ⟨rd, names _ os⟩ (by simp only [StepOk, hg, hi]; exact ⟨rd, os, hc, rfl⟩) d
   ·rename_i i hi
    split at d
    ·rename_i v dd hex
     exact key v ⟨i.foot t, dd.ups _⟩ (by simp only [StepOk, hg, hi]; exact ⟨dd, hex, rfl⟩) d
    ·exact d.elim

theorem StepOk.congr {P : Program} {e1 k : Nat} {s : SI} {t t' : Tm} {get get' : Nat -> Option O} {v : V} {ev : Ev} (hs : StepOk P e1 k s t get v ev) (ht : ∀ i ∈ s.looks, t i = t' i) (hh : ∀ i ∈ ev.rd, get i = get' i) : StepOk P e1 k s t' get' v ev := by
 have hg : zao s.guard t = zao s.guard t' := by
  unfold zao
  cases hgs : s.guard with
  | none => rfl
  | some p =>
   obtain ⟨d, w⟩ := p
   have := ht d (by simp [SI.looks, hgs])
   simp only [this]
 unfold StepOk at hs ⊢
 rw [<- hg]
 split at hs
 ·exact hs.elim
 ·exact hs
 ·split at hs
  ·rename_i f args hi
   obtain ⟨rd, os, hc, rfl⟩ := hs
   have e1 : f.ev t = f.ev t' := A.ev_congr fun k hk => ht k (by simp [SI.looks, hi, X.rd, hk])
   have e2 : args.map (·.ev t) = args.map (·.ev t') := zcr fun k hk => ht k (by
    simp only [SI.looks, hi, X.rd, List.mem_append]; exact .inl (.inr hk))
   rw [<- e1, <- e2]
   obtain ⟨a, b, c, d⟩ := hc
   exact ⟨rd, os, ⟨a, b, c, fun h2 hn hrd => d h2 hn fun i hi => (hrd i hi).trans (hh i hi).symm⟩, rfl⟩
  ·rename_i i hi
   obtain ⟨d, he, rfl⟩ := hs
   have ea : exec i t get k = exec i t' get k := zd4 fun k hk => ht k (by simp [SI.looks, hi, X.rd, hk])
   have ef : i.foot t = i.foot t' := by
    cases i <;> simp only [I.foot]
    case load a => rw [A.ev_congr fun k hk => ht k (by simp [SI.looks, hi, X.rd, I.rd, hk])]
    case store n a x => rw [A.ev_congr (x := a) fun k hk => ht k (by simp [SI.looks, hi, X.rd, I.rd, hk])]
    case resl n a x => rw [A.ev_congr (x := a) fun k hk => ht k (by simp [SI.looks, hi, X.rd, I.rd, hk])]
    case strOf a => rw [A.ev_congr fun k hk => ht k (by simp [SI.looks, hi, X.rd, I.rd, hk])]
    case len a => rw [A.ev_congr fun k hk => ht k (by simp [SI.looks, hi, X.rd, I.rd, hk])]
    case append s x => rw [A.ev_congr (x := s) fun k hk => ht k (by simp [SI.looks, hi, X.rd, I.rd, hk]), A.ev_congr (x := x) fun k hk => ht k (by simp [SI.looks, hi, X.rd, I.rd, hk])]
    case copy d s => rw [A.ev_congr (x := d) fun k hk => ht k (by simp [SI.looks, hi, X.rd, I.rd, hk]), A.ev_congr (x := s) fun k hk => ht k (by simp [SI.looks, hi, X.rd, I.rd, hk])]
    case lookup x _ => rw [A.ev_congr (x := x) fun k hk => ht k (by simp [SI.looks, hi, X.rd, I.rd, hk])]
    case mapSet x _ _ => rw [A.ev_congr (x := x) fun k hk => ht k (by simp [SI.looks, hi, X.rd, I.rd, hk])]
    case mapDel x _ => rw [A.ev_congr (x := x) fun k hk => ht k (by simp [SI.looks, hi, X.rd, I.rd, hk])]
    case clearSl x => rw [A.ev_congr (x := x) fun k hk => ht k (by simp [SI.looks, hi, X.rd, I.rd, hk])]
    case clearMap x => rw [A.ev_congr (x := x) fun k hk => ht k (by simp [SI.looks, hi, X.rd, I.rd, hk])]
   refine ⟨d, ?_, by rw [ef]⟩
   rw [<- zgL (get := get) (get' := get') (fun j hj => hh j (by rw [<- ef] at hj; exact hj)), <- ea]
   exact he
end Go.Am
