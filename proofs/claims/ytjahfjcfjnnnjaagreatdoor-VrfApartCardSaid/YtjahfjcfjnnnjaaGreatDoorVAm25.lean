/-
  AM, PART 25. The walk of a drawn region by simp (calls in it that make objects); 'a && b.f' without a split.
-/
import Derived.Test.YtjahfjcfjnnnjaaGreatDoorVAm24
namespace Go.Am

variable {P : Program}
def dopK (P : Program) (K : Tm → H → Prop) (fr : List (Nat × Nat)) (e0 e1 : Nat) (d : Option Nat) (ft : List Nat) (is : List SI) (t : Tm) (get : Nat → Option O) (evs : List Ev) (r : Option (V × D)) : Prop :=
  match r with
  | some (v, dd) => Dwp P K fr e0 e1 is (t.put d v) (upds get (dd.ups (e0 + evs.length * room))) (evs ++ [⟨ft, dd.ups (e0 + evs.length * room)⟩])
  | none => False
def dcallK (P : Program) (K : Tm → H → Prop) (fr : List (Nat × Nat)) (e0 e1 : Nat) (d : Option Nat) (f : V) (args : List V) (is : List SI) (t : Tm) (get : Nat → Option O) (evs : List Ev) : Prop :=
  ∃ v rd os, callEv P f args get (e0 + evs.length * room) e1 v rd os ∧
    Dwp P K fr e0 e1 is (t.put d v) (upds get (names (e0 + evs.length * room) os)) (evs ++ [⟨rd, names (e0 + evs.length * room) os⟩])
section
variable (K : Tm → H → Prop) (fr : List (Nat × Nat)) (e0 e1 : Nat) (d : Option Nat) (is : List SI) (t : Tm) (get : Nat → Option O) (evs : List Ev)
@[simp] theorem dopK_some (ft : List Nat) (v : V) (dd : D) : dopK P K fr e0 e1 d ft is t get evs (some (v, dd)) = Dwp P K fr e0 e1 is (t.put d v) (upds get (dd.ups (e0 + evs.length * room))) (evs ++ [⟨ft, dd.ups (e0 + evs.length * room)⟩]) := _root_.id rfl
@[simp] theorem Dwp_op (i : I) : Dwp P K fr e0 e1 (⟨d, none, .op i⟩ :: is) t get evs = dopK P K fr e0 e1 d (i.foot t) is t get evs (exec i t get (e0 + evs.length * room)) := by
  simp only [Dwp, guardV, dopK]
  cases exec i t get (e0 + evs.length * room) <;> rfl
@[simp] theorem Dwp_call (f : A) (args : List A) : Dwp P K fr e0 e1 (⟨d, none, .call f args⟩ :: is) t get evs = dcallK P K fr e0 e1 d (f.ev t) (args.map (·.ev t)) is t get evs := by
  simp only [Dwp, guardV, dcallK]
@[simp] theorem ups_keep (k : Nat) : D.keep.ups k = [] := _root_.id rfl
@[simp] theorem ups_set (k i : Nat) (o : O) : (D.set i o).ups k = [(i, o)] := _root_.id rfl
@[simp] theorem ups_push (k : Nat) (o : O) : (D.push o).ups k = [(k, o)] := _root_.id rfl
@[simp] theorem upds_nil : upds get [] = get := _root_.id rfl
theorem upds_one (k : Nat) (o : O) (i : Nat) : upds get [(k, o)] i = if i = k then some o else get i := _root_.id rfl
@[simp] theorem cellsAt_upds (k : Nat) (o : O) (i n : Nat) : cellsAt (upds get [(k, o)]) i n = if i = k then (if o.len = n then some o.cells else none) else cellsAt get i n := by
  unfold cellsAt
  rw [upds_one]
  by_cases e : i = k <;> simp [e]
end
theorem dreg_dwp {fr : List (Nat × Nat)} {Q : Exit → Tm → H → Prop} {ops : List SI} {t : Tm} {h : H} (q : Dwp P (Q .normal) fr h.next (h.next + ops.length * room) ops t h.get []) : Cwp P (.dreg fr ops) Q t h := .inr (.inl q)
theorem dcall_of {K : Tm → H → Prop} {fr : List (Nat × Nat)} {e0 e1 : Nat} {d : Option Nat} {f : V} {args : List V} {is : List SI} {t : Tm} {get : Nat → Option O} {evs : List Ev} {v : V} {rd : List Nat} {os : List O}
    (c : callEv P f args get (e0 + evs.length * room) e1 v rd os) (k : Dwp P K fr e0 e1 is (t.put d v) (upds get (names (e0 + evs.length * room) os)) (evs ++ [⟨rd, names (e0 + evs.length * room) os⟩])) : dcallK P K fr e0 e1 d f args is t get evs := ⟨v, rd, os, c, k⟩
theorem dwp_end {K : Tm → H → Prop} {fr : List (Nat × Nat)} {e0 e1 : Nat} {t : Tm} {get : Nat → Option O} {evs : List Ev} (ap : ∀ p ∈ fr, apart (evAt evs p.1) (evAt evs p.2)) (k : K t ⟨e1, get⟩) : Dwp P K fr e0 e1 [] t get evs :=
  ⟨ap, e1, Nat.le_refl _, fun i h1 h2 => absurd h1 (by omega), k⟩

def glV (k : Nat) (l : List V) (len : Nat) : V := if l = [] then .nilsl else .sl k l.length 0 len none
def glO (sz : Nat) (l : List V) : List O := if l = [] then [] else [.grow sz l]
theorem glV_one {k len : Nat} {l : List V} : (glV k l len).one = true := by unfold glV; split <;> rfl
theorem glV_ids {k e : Nat} {l : List V} {len : Nat} (h : k < e) : ∀ i ∈ (glV k l len).ids, i < e := by
  unfold glV; split <;> simp [V.ids, h]
theorem names_gl {k sz : Nat} {l : List V} {x : Nat × O} (h : x ∈ names k (glO sz l)) : x.1 = k := by
  unfold glO at h
  split at h
  · simp [names] at h
  · simp only [names, List.mem_cons, List.not_mem_nil, or_false] at h
    rw [h]
theorem upds_gl_at {get : Nat → Option O} {k sz : Nat} {l : List V} (h : l ≠ []) : upds get (names k (glO sz l)) k = some (.grow sz l) := by
  simp only [glO, h, if_false, names]; rw [upds_one, if_pos rfl]
theorem upds_gl {get : Nat → Option O} {k sz : Nat} {l : List V} {i : Nat} (h : i ≠ k) : upds get (names k (glO sz l)) i = get i := by
  unfold glO; split
  · rfl
  · simp only [names]; rw [upds_one, if_neg h]
theorem callEv_list {f : FuncId} {first cap args : List V} {h : H} {get : Nat → Option O} {k e sz len : Nat} {cells : List V} (hk : k + room ≤ e) (hn : h.next ≤ e) (hg : ∀ i, i < h.next → get i = h.get i) (hids : V.idss cells = [])
    (c : ∀ h2, Ge h h2 → ∀ Q : V → H → Prop, (cells = [] → Q .nilsl h2) → (cells ≠ [] → Q (.sl h2.next cells.length 0 len none) (h2.push (.grow sz cells))) → Acalls P f (first ++ args ++ cap) h2 Q) :
    callEv P (.func (.func f) first cap) args get k e (glV k cells len) (List.range h.next) (glO sz cells) := by
  have hr : room = 16 := rfl
  refine ⟨by unfold glO; split <;> simp [room], glV_ids (by omega), ?_, fun h2 hn2 hrd => ?_⟩
  · unfold glO
    split
    · simp
    · intro o ho i hi
      simp only [List.mem_cons, List.not_mem_nil, or_false] at ho
      subst ho
      simp only [O.ids, hids, List.not_mem_nil] at hi
  · refine c h2 ⟨by omega, fun i hi => by rw [hrd i (by simpa using hi), hg i hi]⟩ _ (fun he => ?_) (fun he => ?_)
    · simp only [glV, glO, he, if_pos]
      exact ⟨rfl, rfl⟩
    · simp only [glV, glO, he, if_false]
      have hs : shift k e k = h2.next := by unfold shift; rw [if_pos (by omega)]; omega
      refine ⟨by simp [V.ren, hs], ?_⟩
      simp only [List.map_cons, List.map_nil, pushes, O.ren]
      rw [V.rens_id cells (by rw [hids]; simp)]
theorem gl_of {get : Nat → Option O} {nx lo k sz : Nat} {es : List (List V)} (h1 : lo ≤ k) (h2 : k < nx) (hsz : sz ≠ 0) (hs : ∀ e ∈ es, e.length = sz) (hg : es ≠ [] → get k = some (.grow sz es.flatten)) : Gl ⟨nx, get⟩ lo sz (glV k es.flatten es.length) es := by
  have hf : es.flatten = [] ↔ es = [] := by
    constructor
    · intro h
      cases es with
      | nil => rfl
      | cons a l =>
        have ha := hs a (by simp)
        simp only [List.flatten_cons, List.append_eq_nil_iff] at h
        rw [h.1] at ha
        exact absurd ha.symm hsz
    · rintro rfl; rfl
  by_cases e : es = []
  · left; simp [e, glV]
  · right
    exact ⟨e, k, h1, h2, by simp only [glV, hf, e, if_false], hg e⟩
end Go.Am
