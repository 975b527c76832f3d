/-
 SX1, SX2, SX2b, SX3, SX3b, SX4, SX5, SX6, in one text.
-/
import Derived.Test.YtjahfjcfjnnnjaaGreatDoorMMA
import Derived.Sort.AssemblyPlain
namespace Go.Am
open Go.Proofs
open Go.Sort (swp insInner insOuter insertionSort siftDown heapBuild heapPop heapSort PermIn)

set_option maxRecDepth 100000
theorem zbm {body : (Exit -> Tm -> H -> Prop) -> Tm -> H -> Prop} {Q : Exit -> Tm -> H -> Prop} {t : Tm} {h : H} {id : Nat} (J : Tm -> H -> Prop) (ha : ∀ R : Exit -> Tm -> H -> Prop, (∀ t' h', J t' h' -> R .normal t' h') -> zfb body (zcs id R) t h) (k : ∀ t' h', J t' h' -> Q .normal t' h') : zfb body (zcs id Q) t h := ha Q k
theorem ziu {P : Program} {K : Tm -> H -> Prop} {ops : List SI} {t : Tm} {h : H} (J : Tm -> H -> Prop) (ha : ∀ K' : Tm -> H -> Prop, (∀ t' h', J t' h' -> K' t' h') -> Swp P K' ops t h) (k : ∀ t' h', J t' h' -> K t' h') : Swp P K ops t h := ha K k
def uV (x : Nat) : V := .int .u64 x
def R (d : Array Nat) : O := .grow 1 (d.toList.map uV)
def lt32 (a b : Nat) : Bool := decide (a < b)
theorem zkf : Go.Sort.SWO lt32 := ⟨fun x => by simp [lt32], fun x y z => by simp [lt32]; omega, fun x y z => by simp [lt32]; omega⟩
theorem za2 {h : H} {a b : Nat} : Pure Tryz.prog 92 [.int .u64 (a : Nat), .int .u64 (b : Nat)] h (.bool (lt32 a b)) := by
 refine zak Tryz.func92 S.a68c S.a68e rfl (Nat.le_of_ble_eq_true rfl) fun wf => ?_; simp only [S.a68]
 simp
 refine zgc _ ?_
 simp [lt32]
theorem R_ix {j n i : Nat} (h : i < n) : zaM 1 (.sl j n 0 n none) (.int .i64 (i : Int)) = some (.ptr j n i) := by
 simp only [zb5, Int.toNat_natCast]
 rw [if_pos ⟨by omega, by omega⟩]; simp
theorem zmX {g : Nat -> Option O} {j n : Nat} {d : Array Nat} (hg : g j = some (R d)) (hn : d.size = n) : ∃ cs, zad g j n = some cs ∧ ∀ i, i < n -> cs[i]? = some (.int .u64 ((d[i]! : Nat) : Int)) := by
 refine ⟨d.toList.map uV, by rw [zae hg (by simp [R, O.len, O.cells, hn])]; rfl, fun i hi => ?_⟩
 have hi' : i < d.size := by omega
 rw [List.getElem?_map, Array.getElem?_toList, Array.getElem?_eq_getElem hi', getElem!_pos d i hi']
 rfl
theorem R_st {g : Nat -> Option O} {j n i x : Nat} {d : Array Nat} (hg : g j = some (R d)) (hn : d.size = n) (hi : i < n) : zch g 1 (.ptr j n i) (.int .u64 (x : Int)) = some (.set j (R (d.setIfInBounds i x))) := by
 have hl : (R d).len = n := by simp [R, O.len, O.cells, hn]
 have hput : O.put (R d) i [uV x] = some (R (d.setIfInBounds i x)) := by
  unfold R
  rw [ziq, if_pos (by simp; omega)]
  congr 2
  unfold zaL
  rw [Array.toList_setIfInBounds, List.map_set, List.set_eq_take_append_cons_drop, if_pos (by simp; omega)]
  simp
 rw [zaI, hg]
 show (if (R d).len = n then _ else _) = _
 rw [if_pos hl]
 show (O.put (R d) i [uV x]).map (D.set j) = _
 rw [hput]; rfl
theorem zqp (d : Array Nat) (i x : Nat) : (d.setIfInBounds i x).size = d.size := by simp
theorem zqz {h : H} {j n p q x y : Nat} {d : Array Nat} (hg : h.get j = some (R d)) (hn : d.size = n) (hp : p < n) (hq : q < n) (hx : x = d[p]!) (hy : y = d[q]!) :
  ∃ d1, zch h.get 1 (.ptr j n p) (.int .u64 (y : Int)) = some (.set j (R d1)) ∧ zch (h.set j (R d1)).get 1 (.ptr j n q) (.int .u64 (x : Int)) = some (.set j (R (swp d p q))) := by
 refine ⟨d.setIfInBounds p y, R_st hg hn hp, ?_⟩
 have e2 := R_st (g := (h.set j (R (d.setIfInBounds p y))).get) (j := j) (x := x) (d := d.setIfInBounds p y) (by simp) (by rw [zqp, hn]) hq
 rw [e2]
 unfold swp
 rw [hx, hy]
theorem zru (h : H) (j : Nat) (o : O) : (h.set j o).get j = some o := by simp
theorem zqg {h : H} {j n a b : Nat} {d : Array Nat} (hg : h.get j = some (R d)) (hn : d.size = n) (hb : b ≤ n) (hab : a ≤ b) (hN : n ≤ 1000000) {Q : V -> H -> Prop} (q : Q (.tup []) (h.set j (R (insertionSort lt32 d a b)))) :
  Acalls Tryz.prog 86 [.sl j n 0 n none, .int .i64 (a : Nat), .int .i64 (b : Nat)] h Q := by
 refine zam Tryz.func86 S.a62c S.a62e (Nat.le_of_ble_eq_true rfl) fun wf => ?_; simp only [S.a62]
 have w1 : IntKind.i64.wrap ((a : Int) + 1) = ((a + 1 : Nat) : Int) := by rw [zai (by omega) (by omega)]; omega
 obtain ⟨res, hres⟩ : ∃ res, res = insertionSort lt32 d a b := ⟨_, rfl⟩
 rw [<- hres] at q
 simp [w1]
 refine zap (fun k t h' => ∃ i d', i = a + 1 + k ∧ (t 0 = .sl j n 0 n none ∧ t 1 = .int .i64 (a : Nat) ∧ t 2 = .int .i64 (b : Nat) ∧ t 6 = .int .i64 (i : Nat)) ∧ h' = h.set j (R d') ∧ d'.size = n ∧ res = insOuter lt32 a b i d') (b - (a + 1)) ⟨a + 1, d, by omega, by simp, H.ext' rfl fun i => by (rw [H.get_set]; split <;> simp_all), hn, hres⟩ ?_
 rintro k t h' hk ⟨i, d', hi, ⟨t0, t1, t2, t6⟩, rfl, hd', hout⟩ K hK
 by_cases hlt : i < b
 ·have wi : IntKind.i64.wrap ((i : Int) + 1) = ((i + 1 : Nat) : Int) := by rw [zai (by omega) (by omega)]; omega
  rw [insOuter, if_pos hlt] at hout
  simp [t2, t6, hlt]
  refine zbm (id := 2) (fun t g => (t 0 = .sl j n 0 n none ∧ t 1 = .int .i64 (a : Nat) ∧ t 2 = .int .i64 (b : Nat) ∧ t 6 = .int .i64 (i : Nat)) ∧ ∃ d'', d'' = insInner lt32 a i d' ∧ d''.size = n ∧ g = h.set j (R d'')) (fun RR hR => ?_) ?_
  ·refine zap (fun m t g => ∃ jj d'', jj = i - m ∧ (t 0 = .sl j n 0 n none ∧ t 1 = .int .i64 (a : Nat) ∧ t 2 = .int .i64 (b : Nat) ∧ t 6 = .int .i64 (i : Nat) ∧ t 7 = .int .i64 (jj : Nat)) ∧ g = h.set j (R d'') ∧ d''.size = n ∧ m ≤ i ∧ insInner lt32 a i d' = insInner lt32 a jj d'') i ⟨i, d', by omega, by simp [t0, t1, t2, t6], rfl, hd', by omega, rfl⟩ ?_
   rintro m t g hm ⟨jj, d'', hjj, ⟨u0, u1, u2, u6, u7⟩, rfl, hd'', hmi, hinn⟩ K2 hK2
   simp
   refine zar ?_
   by_cases haj : a < jj
   ·obtain ⟨p, rfl⟩ : ∃ p, jj = p + 1 := ⟨jj - 1, by omega⟩
    obtain ⟨jj, hjp⟩ : ∃ jj, jj = p + 1 := ⟨_, rfl⟩
    rw [<- hjp] at u7 haj hjj
    have wm : IntKind.i64.wrap ((jj : Int) - 1) = (p : Int) := by rw [zai (by omega) (by omega)]; omega
    obtain ⟨cs, hc, hat⟩ := zmX (zru h j (R d'')) hd''
    obtain ⟨x, hx⟩ : ∃ x, x = d''[p + 1]! := ⟨_, rfl⟩
    obtain ⟨y, hy⟩ : ∃ y, y = d''[p]! := ⟨_, rfl⟩
    have ax := hat jj (by omega)
    have ay := hat p (by omega)
    rw [hjp, <- hx, <- hjp] at ax
    rw [<- hy] at ay
    have i1 := R_ix (j := j) (show jj < n by omega)
    have i2 := R_ix (j := j) (show p < n by omega)
    obtain ⟨g0, hg0⟩ : ∃ g0, g0 = h.set j (R d'') := ⟨_, rfl⟩
    rw [<- hg0] at hc ⊢
    simp [u0, u1, u7, haj, wm, i1, i2, hc, ax, ay]
    refine za6 (za2 (a := x) (b := y)) ?_
    rw [insInner, <- hx, <- hy] at hinn
    have haj2 : decide (p + 1 > a) = true := decide_eq_true (by omega)
    rw [haj2, Bool.true_and] at hinn
    cases hl : lt32 x y with
    | true =>
     rw [hl, if_pos rfl] at hinn
     obtain ⟨d1, s1, s2⟩ := zqz (h := g0) (j := j) (p := jj) (q := p) (x := x) (y := y) (by rw [hg0]; simp) hd'' (by omega) (by omega) (by rw [hjp]; exact hx) hy
     simp
     refine zar ?_
     simp [-zaI, u0, u7, wm, i1, i2, hc, ax, ay, s1, s2]
     refine hK2 _ _ (by omega) ⟨p, swp d'' (p + 1) p, by omega, by simp [u0, u1, u2, u6], by rw [hg0, hjp, H.set_set], by rw [Go.Sort.size_swp, hd''], by omega, hinn⟩
    | false =>
     rw [hl, if_neg (by simp)] at hinn
     simp
     exact hR _ _ ⟨by simp [u0, u1, u2, u6], d'', hinn.symm, hd'', hg0⟩
   ·have hst : insInner lt32 a jj d'' = d'' := by
     cases jj with
     | zero => rfl
     | succ p =>
      have haj2 : decide (p + 1 > a) = false := decide_eq_false (by omega)
      rw [insInner, haj2]; simp
    simp [u1, u7, haj]
    exact hR _ _ ⟨by simp [u0, u1, u2, u6], d'', by rw [hinn, hst], hd'', rfl⟩
  ·rintro t g ⟨⟨u0, u1, u2, u6⟩, d'', hd2, hsz, rfl⟩
   simp [u6, wi]
   refine hK _ _ (by omega) ⟨i + 1, d'', by omega, by simp [u0, u1, u2], rfl, hsz, by rw [hout, hd2]⟩
 ·rw [insOuter, if_neg hlt] at hout
  simp [t2, t6, hlt]
  rw [<- hout]
  exact q
end Go.Am

namespace Go.Am
open Go.Proofs
open Go.Sort (swp siftDown heapBuild heapPop heapSort PermIn permIn_trans permIn_refl swp_permIn size_swp)

set_option maxRecDepth 100000
theorem zb7 {g : H} {j n p q : Nat} {d : Array Nat} (hg : g.get j = some (R d)) (hn : d.size = n) (hp : p < n) (hq : q < n) :
  ∃ cs x y, x = d[p]! ∧ y = d[q]! ∧ zad g.get j n = some cs ∧ cs[p]? = some (.int .u64 (x : Int)) ∧ cs[q]? = some (.int .u64 (y : Int)) ∧ zaM 1 (.sl j n 0 n none) (.int .i64 (p : Int)) = some (.ptr j n p) ∧ zaM 1 (.sl j n 0 n none) (.int .i64 (q : Int)) = some (.ptr j n q) ∧
   ∃ d1, zch g.get 1 (.ptr j n p) (.int .u64 (y : Int)) = some (.set j (R d1)) ∧ zch (g.set j (R d1)).get 1 (.ptr j n q) (.int .u64 (x : Int)) = some (.set j (R (swp d p q))) := by
 obtain ⟨cs, hc, hat⟩ := zmX hg hn
 obtain ⟨d1, s1, s2⟩ := zqz (h := g) hg hn hp hq rfl rfl
 exact ⟨cs, _, _, rfl, rfl, hc, hat p hp, hat q hq, R_ix hp, R_ix hq, d1, s1, s2⟩
theorem w64 {z : Int} {n : Nat} (e : z = n) (h : n < 9223372036854775808) : IntKind.i64.wrap z = (n : Int) := by subst e; exact zeN h
theorem zfK {h : H} {j : Nat} {d : Array Nat} (hg : h.get j = some (R d)) : h = h.set j (R d) := H.ext' rfl fun i => by rw [H.get_set]; split <;> simp_all
theorem zpR {h : H} {j n a b : Nat} {d : Array Nat} (hg : h.get j = some (R d)) (hn : d.size = n) (hb : b ≤ n) (hab : a < b) (hN : n ≤ 1000000) {Q : V -> H -> Prop} (q : ∀ d', PermIn a b d d' -> Q (.tup []) (h.set j (R d'))) :
  Acalls Tryz.prog 90 [.sl j n 0 n none, .int .i64 (a : Nat), .int .i64 (b : Nat)] h Q := by
 refine zam Tryz.func90 S.a66c S.a66e (Nat.le_of_ble_eq_true rfl) fun wf => ?_; simp only [S.a66]
 have w1 : IntKind.i64.wrap ((b : Int) - 1) = ((b - 1 : Nat) : Int) := w64 (by omega) (by omega)
 simp [w1]
 refine zap (fun k t h' => ∃ i jj d', i = a + k ∧ jj + k + 1 = b ∧ (t 0 = .sl j n 0 n none ∧ t 6 = .int .i64 (i : Nat) ∧ t 7 = .int .i64 (jj : Nat)) ∧ h' = h.set j (R d') ∧ d'.size = n ∧ PermIn a b d d') n ⟨a, b - 1, d, by omega, by omega, by simp, zfK hg, hn, permIn_refl _ _ _⟩ ?_
 rintro k t h' hk ⟨i, jj, d', hi, hjj, ⟨t0, t6, t7⟩, hh', hd', hp⟩ K hK
 by_cases hlt : i < jj
 ·obtain ⟨cs, x, y, hx, hy, hc, ax, ay, ip, iq, d1, s1, s2⟩ := zb7 (g := h') (j := j) (p := i) (q := jj) (by rw [hh']; simp) hd' (by omega) (by omega)
  have wi : IntKind.i64.wrap ((i : Int) + 1) = ((i + 1 : Nat) : Int) := w64 (by omega) (by omega)
  have wj : IntKind.i64.wrap ((jj : Int) - 1) = ((jj - 1 : Nat) : Int) := w64 (by omega) (by omega)
  simp [t6, t7, hlt]
  refine zar ?_
  simp [-zaI, t0, t6, t7, ip, iq, hc, ax, ay, s1, s2, wi, wj]
  refine hK _ _ (by omega) ⟨i + 1, jj - 1, swp d' i jj, by omega, by omega, by simp [t0], by rw [hh', H.set_set], by rw [size_swp, hd'], permIn_trans _ _ _ a b hp (swp_permIn d' a b i jj (by omega) (by omega) (by omega) (by omega) (by omega))⟩
 ·simp [t6, t7, hlt]
  rw [hh']
  exact q d' hp
theorem zkk {h : H} {j n lo hi first : Nat} {d : Array Nat} (hg : h.get j = some (R d)) (hn : d.size = n) (hf : first + hi ≤ n) (hlo : lo ≤ n) (hN : n ≤ 1000000) {Q : V -> H -> Prop} (q : Q (.tup []) (h.set j (R (siftDown lt32 hi first lo d)))) :
  Acalls Tryz.prog 126 [.sl j n 0 n none, .int .i64 (lo : Nat), .int .i64 (hi : Nat), .int .i64 (first : Nat)] h Q := by
 refine zam Tryz.func126 S.a94c S.a94e (Nat.le_of_ble_eq_true rfl) fun wf => ?_; simp only [S.a94]
 obtain ⟨res, hres⟩ : ∃ res, res = siftDown lt32 hi first lo d := ⟨_, rfl⟩
 rw [<- hres] at q
 simp
 refine zap (fun k t h' => ∃ root d', k ≤ root ∧ root ≤ n ∧ (t 0 = .sl j n 0 n none ∧ t 2 = .int .i64 (hi : Nat) ∧ t 3 = .int .i64 (first : Nat) ∧ t 8 = .int .i64 (root : Nat)) ∧ h' = h.set j (R d') ∧ d'.size = n ∧ res = siftDown lt32 hi first root d') n ⟨lo, d, by omega, hlo, by simp, zfK hg, hn, hres⟩ ?_
 rintro k t h' hk ⟨root, d', hkr, hrn, ⟨t0, t2, t3, t8⟩, hh', hd', hr⟩ K hK
 rw [siftDown] at hr
 obtain ⟨c, hc0⟩ : ∃ c, c = 2 * root + 1 := ⟨_, rfl⟩
 have wm : IntKind.i64.wrap (2 * (root : Int)) = ((2 * root : Nat) : Int) := w64 (by omega) (by omega)
 have wc : IntKind.i64.wrap (((2 * root : Nat) : Int) + 1) = (c : Int) := w64 (by omega) (by omega)
 obtain ⟨r2, hr2⟩ : ∃ r2, r2 = 2 * root := ⟨_, rfl⟩
 rw [<- hr2] at wm wc
 rw [<- hc0] at hr
 by_cases hge : c ≥ hi
 ·rw [dif_pos hge] at hr
  simp [t8, t2, wm, wc, hge]
  rw [hh', <- hr]
  exact q
 ·rw [dif_neg hge] at hr
  have wc1 : IntKind.i64.wrap ((c : Int) + 1) = ((c + 1 : Nat) : Int) := w64 (by omega) (by omega)
  have wf : IntKind.i64.wrap ((first : Int) + (c : Int)) = ((first + c : Nat) : Int) := w64 (by omega) (by omega)
  have wf1 : IntKind.i64.wrap (((first + c : Nat) : Int) + 1) = ((first + c + 1 : Nat) : Int) := w64 (by omega) (by omega)
  have wr : IntKind.i64.wrap ((first : Int) + (root : Int)) = ((first + root : Nat) : Int) := w64 (by omega) (by omega)
  obtain ⟨c1, hc1⟩ : ∃ c1, c1 = c + 1 := ⟨_, rfl⟩
  obtain ⟨fc, hfc⟩ : ∃ fc, fc = first + c := ⟨_, rfl⟩
  obtain ⟨fr, hfr⟩ : ∃ fr, fr = first + root := ⟨_, rfl⟩
  rw [<- hc1] at wc1
  rw [<- hfc] at wf wf1
  obtain ⟨fc1, hfc1⟩ : ∃ fc1, fc1 = fc + 1 := ⟨_, rfl⟩
  rw [<- hfc1] at wf1
  rw [<- hfr] at wr
  have e2 : 2 * root + 2 = c1 := by omega
  have hroot : root < c := by omega
  rw [<- hfc, <- hfr, e2, <- hc1, <- hfc1] at hr
  simp [t8, t2, wm, wc, hge]
  refine zar ?_
  -- the greater child
  refine ziu (fun t' g => ∃ b : Bool, (t' 0 = .sl j n 0 n none ∧ t' 2 = .int .i64 (hi : Nat) ∧ t' 3 = .int .i64 (first : Nat) ∧ t' 8 = .int .i64 (root : Nat) ∧ t' 9 = .int .i64 (c : Nat) ∧ t' 36 = .bool b) ∧ g = h' ∧ b = (decide (c1 < hi) && lt32 d'[fc]! d'[fc1]!)) (fun K' hK' => ?_) ?_
  ·by_cases hlt : c1 < hi
   ·obtain ⟨cs, x, y, hx, hy, hcs, ax, ay, ip, iq, _⟩ := zb7 (g := h') (j := j) (p := fc) (q := fc1) (by rw [hh']; simp) hd' (by omega) (by omega)
    simp [t0, t2, t3, wc1, hlt, wf, wf1, ip, iq, hcs, ax, ay]
    refine za6 (za2 (a := x) (b := y)) ?_
    simp
    exact hK' _ _ ⟨lt32 x y, by simp [t0, t2, t3, t8], rfl, by rw [hx, hy, decide_eq_true hlt, Bool.true_and]⟩
   ·simp [t2, wc1, hlt]
    exact hK' _ _ ⟨false, by simp [t0, t2, t3, t8], rfl, by rw [decide_eq_false hlt, Bool.false_and]⟩
  ·rintro t' g ⟨b, ⟨u0, u2, u3, u8, u9, u36⟩, rfl, hbb⟩
   obtain ⟨child, hch⟩ : ∃ child, child = if b = true then c1 else c := ⟨_, rfl⟩
   have hc2 : child = c ∨ (child = c1 ∧ c1 < hi) := by
    cases b with
    | false => exact .inl hch
    | true =>
     refine .inr ⟨hch, ?_⟩
     have : decide (c1 < hi) = true := by
      cases e : decide (c1 < hi) with
      | true => rfl
      | false => rw [e, Bool.false_and] at hbb; cases hbb
     exact of_decide_eq_true this
   have hr2 : res = if (!lt32 d'[fr]! d'[first + child]!) = true then d' else siftDown lt32 hi first child (swp d' fr (first + child)) := by
    rw [<- hbb] at hr
    cases b with
    | false =>
     simp only [Bool.false_eq_true, if_false] at hr hch
     rw [hch, <- hfc]; exact hr
    | true =>
     simp only [if_true] at hr hch
     rw [hch]
     rw [dif_pos (by rcases hc2 with h | h <;> omega)] at hr
     exact hr
   simp [u36]
   refine zcO (fun t'' g' => (t'' 0 = .sl j n 0 n none ∧ t'' 2 = .int .i64 (hi : Nat) ∧ t'' 3 = .int .i64 (first : Nat) ∧ t'' 8 = .int .i64 (root : Nat) ∧ t'' 9 = .int .i64 (child : Nat)) ∧ g' = g) (fun e RR hR => ?_) (fun e RR hR => ?_) ?_
   ·rw [e, if_pos rfl] at hch
    simp [u9, wc1]
    exact hR _ _ ⟨by simp [u0, u2, u3, u8, hch], rfl⟩
   ·rw [e] at hch
    simp only [Bool.false_eq_true, if_false] at hch
    simp
    exact hR _ _ ⟨by simp [u0, u2, u3, u8, u9, hch], rfl⟩
   ·clear u0 u2 u3 u8 u9 u36
    rintro t2 g' ⟨⟨u0, u2, u3, u8, u9⟩, rfl⟩
    obtain ⟨fh, hfh⟩ : ∃ fh, fh = first + child := ⟨_, rfl⟩
    have wh : IntKind.i64.wrap ((first : Int) + (child : Int)) = (fh : Int) := w64 (by omega) (by omega)
    rw [<- hfh] at hr2
    obtain ⟨cs, x, y, hx, hy, hcs, ax, ay, ip, iq, d1, s1, s2⟩ := zb7 (g := g') (j := j) (p := fr) (q := fh) (by rw [hh']; simp) hd' (by omega) (by omega)
    rw [<- hx, <- hy] at hr2
    simp
    refine zar ?_
    simp [u0, u3, u8, u9, wr, wh, ip, iq, hcs, ax, ay]
    refine za6 (za2 (a := x) (b := y)) ?_
    cases hl : lt32 x y with
    | false =>
     rw [hl] at hr2
     simp at hr2
     simp
     rw [hh', <- hr2]
     exact q
    | true =>
     rw [hl] at hr2
     simp at hr2
     simp
     refine zar ?_
     simp [-zaI, u0, u3, u8, u9, wr, wh, ip, iq, hcs, ax, ay, s1, s2]
     exact hK _ _ (by omega) ⟨child, swp d' fr fh, by omega, by omega, by simp [u0, u2, u3], by rw [hh', H.set_set], by rw [size_swp, hd'], hr2⟩
end Go.Am

namespace Go.Am
open Go.Proofs
open Go.Sort (swp siftDown heapBuild heapPop heapSort PermIn permIn_trans permIn_refl swp_permIn size_swp)

set_option maxRecDepth 100000
theorem zg1 (hi first : Nat) : ∀ (root : Nat) (d : Array Nat), (siftDown lt32 hi first root d).size = d.size := by
 intro root d
 fun_induction siftDown lt32 hi first root d <;> simp_all [size_swp]
theorem zn7 {h : H} {j n a b : Nat} {d : Array Nat} (hg : h.get j = some (R d)) (hn : d.size = n) (hb : b ≤ n) (hab : a < b) (hN : n ≤ 1000000) {Q : V -> H -> Prop} (q : Q (.tup []) (h.set j (R (heapSort lt32 d a b)))) :
  Acalls Tryz.prog 87 [.sl j n 0 n none, .int .i64 (a : Nat), .int .i64 (b : Nat)] h Q := by
 refine zam Tryz.func87 S.a63c S.a63e (Nat.le_of_ble_eq_true rfl) fun wf => ?_; simp only [S.a63]
 obtain ⟨hi, hhi⟩ : ∃ hi, hi = b - a := ⟨_, rfl⟩
 obtain ⟨top, htop⟩ : ∃ top, top = (hi - 1) / 2 := ⟨_, rfl⟩
 have w1 : IntKind.i64.wrap ((b : Int) - (a : Int)) = (hi : Int) := w64 (by omega) (by omega)
 have w2 : IntKind.i64.wrap ((hi : Int) - 1) = ((hi - 1 : Nat) : Int) := w64 (by omega) (by omega)
 have q2 : intV .quo .i64 ((hi - 1 : Nat) : Int) 2 = some (.int .i64 (top : Int)) := by
  show (if (2 : Int) = 0 then none else some (V.int .i64 (IntKind.i64.wrap (((hi - 1 : Nat) : Int).tdiv 2)))) = _
  rw [if_neg (by decide), Int.tdiv_eq_ediv_of_nonneg (by omega), zai (by omega) (by omega), htop]; rfl
 obtain ⟨him, hhim⟩ : ∃ m, m = hi - 1 := ⟨_, rfl⟩
 rw [<- hhim] at w2 q2
 obtain ⟨d1, hd1⟩ : ∃ d1, d1 = heapBuild lt32 hi a (top + 1) d := ⟨_, rfl⟩
 have hq : heapSort lt32 d a b = heapPop lt32 a hi d1 := by unfold heapSort; rw [<- hhi, <- htop, <- hd1]
 rw [hq] at q
 obtain ⟨res, hres⟩ : ∃ res, res = heapPop lt32 a hi d1 := ⟨_, rfl⟩
 rw [<- hres] at q
 simp [w1, w2, q2]
 refine zbm (id := 0) (fun t g => (t 0 = .sl j n 0 n none ∧ t 6 = .int .i64 (a : Nat) ∧ t 7 = .int .i64 0 ∧ t 8 = .int .i64 (hi : Nat)) ∧ d1.size = n ∧ g = h.set j (R d1)) (fun RR hR => ?_) ?_
 ·refine zap (fun m t g => ∃ k d', k + m = top + 1 ∧ (t 0 = .sl j n 0 n none ∧ t 6 = .int .i64 (a : Nat) ∧ t 7 = .int .i64 0 ∧ t 8 = .int .i64 (hi : Nat) ∧ t 9 = .int .i64 ((k : Int) - 1)) ∧ g = h.set j (R d') ∧ d'.size = n ∧ d1 = heapBuild lt32 hi a k d') (top + 1) ⟨top + 1, d, by omega, by simp, zfK hg, hn, hd1⟩ ?_
  rintro m t g hm ⟨k, d', hkm, ⟨t0, t6, t7, t8, t9⟩, hgg, hd', hbd⟩ K hK
  by_cases hk : 0 < k
  ·obtain ⟨p, rfl⟩ : ∃ p, k = p + 1 := ⟨k - 1, by omega⟩
   have e9 : (((p + 1 : Nat) : Int) - 1) = (p : Int) := by omega
   rw [e9] at t9
   have wp : IntKind.i64.wrap ((p : Int) - 1) = (p : Int) - 1 := zai (by omega) (by omega)
   have p0 : (0 : Int) ≤ p := by omega
   simp [t0, t6, t8, t9, p0]
   refine zkk (n := n) (d := d') (by rw [hgg]; simp) hd' (by omega) (by omega) hN ?_
   simp [t9, wp]
   refine hK _ _ (by omega) ⟨p, siftDown lt32 hi a p d', by omega, by simp [t0, t6, t7, t8], by rw [hgg, H.set_set], by rw [zg1, hd'], hbd⟩
  ·have hk0 : k = 0 := by omega
   subst hk0
   simp [t9]
   exact hR _ _ ⟨by simp [t0, t6, t7, t8], by rw [hbd]; exact hd', by rw [hgg, hbd]; rfl⟩
 ·rintro t g ⟨⟨t0, t6, t7, t8⟩, hs1, hgg⟩
  simp [t8, w2]
  refine zap (fun m t g => ∃ k d', k + m = hi ∧ (t 0 = .sl j n 0 n none ∧ t 6 = .int .i64 (a : Nat) ∧ t 7 = .int .i64 0 ∧ t 10 = .int .i64 ((k : Int) - 1)) ∧ g = h.set j (R d') ∧ d'.size = n ∧ res = heapPop lt32 a k d') hi ⟨hi, d1, by omega, by simp [t0, t6, t7]; omega, hgg, hs1, hres⟩ ?_
  clear t0 t6 t7 t8 hgg hs1
  rintro m t g hm ⟨k, d', hkm, ⟨t0, t6, t7, t10⟩, hgg, hd', hbd⟩ K hK
  by_cases hk : 0 < k
  ·obtain ⟨p, rfl⟩ : ∃ p, k = p + 1 := ⟨k - 1, by omega⟩
   have e9 : (((p + 1 : Nat) : Int) - 1) = (p : Int) := by omega
   rw [e9] at t10
   have wp : IntKind.i64.wrap ((p : Int) - 1) = (p : Int) - 1 := zai (by omega) (by omega)
   have p0 : (0 : Int) ≤ p := by omega
   have wa : IntKind.i64.wrap ((a : Int) + (p : Int)) = ((a + p : Nat) : Int) := w64 (by omega) (by omega)
   obtain ⟨ap, hap⟩ : ∃ ap, ap = a + p := ⟨_, rfl⟩
   rw [<- hap] at wa
   obtain ⟨cs, x, y, hx, hy, hcs, ax, ay, ip, iq, dd, s1, s2⟩ := zb7 (g := g) (j := j) (p := a) (q := ap) (by rw [hgg]; simp) hd' (by omega) (by omega)
   simp [t10, p0]
   refine zar ?_
   simp [-zaI, t0, t6, t7, t10, wa, ip, iq, hcs, ax, ay, s1, s2]
   refine zkk (n := n) (lo := 0) (hi := p) (first := a) (d := swp d' a ap) (by simp) (by rw [size_swp, hd']) (by omega) (by omega) hN ?_
   simp [t10, wp]
   refine hK _ _ (by omega) ⟨p, siftDown lt32 p a 0 (swp d' a ap), by omega, by simp [t0, t6, t7], by rw [hgg, H.set_set], by rw [zg1, size_swp, hd'], by rw [hap]; exact hbd⟩
  ·have hk0 : k = 0 := by omega
   subst hk0
   simp [t10]
   rw [hgg, show d' = res from hbd.symm]
   exact q
end Go.Am

namespace Go.Am
open Go.Proofs
open Go.Sort (swp PermIn permIn_trans permIn_refl swp_permIn size_swp)

set_option maxRecDepth 100000
theorem Acalls.turns {P : Program} {f : FuncId} {args : List V} {h : H} {i : Nat} {Q : V -> H -> Prop} (hi : ∃ o, h.get i = some o)
  (c : h.WF -> Acalls P f args h fun v h1 => ∃ o', o'.ids = [] ∧ Ge (h.set i o') h1 ∧ v.ids = [] ∧ Q v (h.set i o')) (he : zaa P f = true) : Acalls P f args h Q := by
 refine Acalls.cl he fun wf cl => Acalls.rename ((c wf).mono ?_)
 rintro v h1 ⟨o', ho, hg, hv, hq⟩
 obtain ⟨oi, hoi⟩ := hi
 have hlt := wf.lt hoi
 have w2 : (h.set i o').WF := wf.set hlt _
 have liv : ∀ k, (∃ o, h.get k = some o) -> ∃ o, (h.set i o').get k = some o := fun k ⟨o, hk⟩ => by
  rw [H.get_set]; split
  ·exact ⟨_, rfl⟩
  ·exact ⟨o, hk⟩
 refine ⟨id, v, h.set i o', (V.ren_id (σ := id) v (fun _ _ => rfl)).symm, ⟨fun k o hk => by rw [show o.ren id = o from O.ren_id (σ := id) o (fun _ _ => rfl)]; exact hg.keeps w2 k o hk, fun _ _ _ _ _ _ e => e, fun k o hk j hj => ?_, w2⟩, fun k hk => (by rw [hv] at hk; cases hk), fun k o hk => ⟨rfl, liv k ⟨o, hk⟩⟩, hq⟩
 rw [H.get_set] at hk
 split at hk
 ·cases hk
  rw [ho] at hj; cases hj
 ·exact liv j (cl k o hk j hj)
theorem Acalls.quiet {P : Program} {f : FuncId} {args : List V} {h : H} {Q : V -> H -> Prop} (he : zaa P f = true) (c : h.WF -> Acalls P f args h fun v h1 => v.ids = [] ∧ Ge h h1 ∧ Q v h) : Acalls P f args h Q :=
 Acalls.wf he fun w => Acalls.drop ((c w).mono (by
  rintro v h1 ⟨hi, hg, hq⟩
  exact ⟨fun i o ho => by rw [hg.2 i (w.lt ho)]; exact ho, by simp [hi], hq⟩))
theorem zrB (d : Array Nat) : (R d).ids = [] := by
 show V.idss (d.toList.map uV) = []
 induction d.toList with
 | nil => rfl
 | cons a l ih => rw [List.map_cons]; show (uV a).ids ++ V.idss (l.map uV) = []; rw [ih]; rfl
theorem zf6 {h : H} {j n sw p q : Nat} {d : Array Nat} (hg : h.get j = some (R d)) (hn : d.size = n) (hne : sw ≠ j) {s : Int} (hs : h.get sw = some (.row [.int .i64 s])) (hp : p < n) (hq : q < n) (hN : n ≤ 1000000) {Q : V -> H -> Prop}
  (qq : ∀ x y s', ((x = p ∧ y = q) ∨ (x = q ∧ y = p)) -> Q (.tup [.int .i64 (x : Nat), .int .i64 (y : Nat)]) (h.set sw (.row [.int .i64 s']))) :
  Acalls Tryz.prog 155 [.sl j n 0 n none, .int .i64 (p : Nat), .int .i64 (q : Nat), .ptr sw 1 0] h Q := by
 refine zam Tryz.func155 S.a112c S.a112e (Nat.le_of_ble_eq_true rfl) fun wf => ?_; simp only [S.a112]
 obtain ⟨cs, x, y, hx, hy, hcs, ax, ay, ip, iq, _⟩ := zb7 (g := h) (j := j) (p := p) (q := q) hg hn hp hq
 have hss : h = h.set sw (.row [.int .i64 s]) := H.ext' rfl fun i => by rw [H.get_set]; split <;> simp_all
 have c1 : zad h.get sw 1 = some [.int .i64 s] := by rw [zae hs (by rfl)]; rfl
 simp
 refine zar ?_
 simp [ip, iq, hcs, ax, ay]
 refine za6 (za2 (a := y) (b := x)) ?_
 cases lt32 y x with
 | true =>
  simp [c1, hs]
  exact qq q p _ (.inr ⟨rfl, rfl⟩)
 | false =>
  simp
  rw [hss]
  exact qq p q _ (.inl ⟨rfl, rfl⟩)
theorem zhf {h : H} {j n sw a b c : Nat} {d : Array Nat} (hg : h.get j = some (R d)) (hn : d.size = n) (hne : sw ≠ j) {s : Int} (hs : h.get sw = some (.row [.int .i64 s])) (ha : a < n) (hb : b < n) (hc : c < n) (hN : n ≤ 1000000) {Q : V -> H -> Prop}
  (qq : ∀ x s', (x = a ∨ x = b ∨ x = c) -> Q (.int .i64 (x : Nat)) (h.set sw (.row [.int .i64 s']))) :
  Acalls Tryz.prog 130 [.sl j n 0 n none, .int .i64 (a : Nat), .int .i64 (b : Nat), .int .i64 (c : Nat), .ptr sw 1 0] h Q := by
 refine zam Tryz.func130 S.a98c S.a98e (Nat.le_of_ble_eq_true rfl) fun wf => ?_; simp only [S.a98]
 simp
 refine zf6 hg hn hne hs ha hb hN fun x1 y1 s1 h1 => ?_
 have hj1 : ¬ j = sw := fun e => hne e.symm
 simp
 refine zf6 (j := j) (d := d) (s := s1) (by simp [hj1, hg]) hn hne (by simp) (p := y1) (q := c) (by omega) hc hN fun x2 y2 s2 h2 => ?_
 simp
 refine zf6 (j := j) (d := d) (s := s2) (by simp [hj1, hg]) hn hne (by simp) (p := x1) (q := x2) (by omega) (by omega) hN fun x3 y3 s3 h3 => ?_
 simp
 exact qq y3 s3 (by omega)
theorem ze1 {h : H} {j n sw a : Nat} {d : Array Nat} (hg : h.get j = some (R d)) (hn : d.size = n) (hne : sw ≠ j) {s : Int} (hs : h.get sw = some (.row [.int .i64 s])) (h1 : 1 ≤ a) (ha : a + 1 < n) (hN : n ≤ 1000000) {Q : V -> H -> Prop}
  (qq : ∀ x s', (x = a - 1 ∨ x = a ∨ x = a + 1) -> Q (.int .i64 (x : Nat)) (h.set sw (.row [.int .i64 s']))) :
  Acalls Tryz.prog 129 [.sl j n 0 n none, .int .i64 (a : Nat), .ptr sw 1 0] h Q := by
 refine zam Tryz.func129 S.a97c S.a97e (Nat.le_of_ble_eq_true rfl) fun wf => ?_; simp only [S.a97]
 have w1 : IntKind.i64.wrap ((a : Int) - 1) = ((a - 1 : Nat) : Int) := w64 (by omega) (by omega)
 have w2 : IntKind.i64.wrap ((a : Int) + 1) = ((a + 1 : Nat) : Int) := w64 (by omega) (by omega)
 obtain ⟨a1, e1⟩ : ∃ a1, a1 = a - 1 := ⟨_, rfl⟩
 obtain ⟨a2, e2⟩ : ∃ a2, a2 = a + 1 := ⟨_, rfl⟩
 rw [<- e1] at w1
 rw [<- e2] at w2
 simp [w1, w2]
 refine zhf (j := j) (d := d) (s := s) hg hn hne hs (a := a1) (b := a) (c := a2) (by omega) (by omega) (by omega) hN fun x s' hx => ?_
 simp
 exact qq x s' (by omega)
theorem quoN (m k r : Nat) (hk : 0 < k) (hm : m < 1000000000) (h : m / k = r) : intV .quo .i64 (m : Int) (k : Int) = some (.int .i64 (r : Int)) := by
 show (if (k : Int) = 0 then none else some (V.int .i64 (IntKind.i64.wrap ((m : Int).tdiv k)))) = _
 have hr : r ≤ m := by rw [<- h]; exact Nat.div_le_self _ _
 rw [if_neg (by omega), Int.tdiv_eq_ediv_of_nonneg (by omega), <- Int.natCast_ediv, h, zai (by omega) (by omega)]
theorem zlA {h : H} {j n a b : Nat} {d : Array Nat} (hg : h.get j = some (R d)) (hn : d.size = n) (hb : b ≤ n) (hab : a + 12 < b) (hN : n ≤ 1000000) {Q : V -> H -> Prop}
  (qq : ∀ p k : Nat, a ≤ p -> p < b -> (k = 0 ∨ k = 1 ∨ k = 2) -> Q (.tup [.int .i64 (p : Nat), .int .i64 (k : Nat)]) h) :
  Acalls Tryz.prog 89 [.sl j n 0 n none, .int .i64 (a : Nat), .int .i64 (b : Nat)] h Q := by
 refine Acalls.quiet (by kernel_rfl) fun wf0 => ?_
 refine zam Tryz.func89 S.a65c S.a65e (Nat.le_of_ble_eq_true rfl) fun wf => ?_; simp only [S.a65]
 obtain ⟨l, hl⟩ : ∃ l, l = b - a := ⟨_, rfl⟩
 obtain ⟨q4, hq4⟩ : ∃ q4, q4 = l / 4 := ⟨_, rfl⟩
 have w1 : IntKind.i64.wrap ((b : Int) - (a : Int)) = (l : Int) := w64 (by omega) (by omega)
 have qq4 : intV .quo .i64 (l : Int) 4 = some (.int .i64 (q4 : Int)) := quoN l 4 q4 (by omega) (by omega) hq4.symm
 have m1 : IntKind.i64.wrap (q4 : Int) = (q4 : Int) := w64 rfl (by omega)
 have m2 : IntKind.i64.wrap ((q4 : Int) * 2) = ((q4 * 2 : Nat) : Int) := w64 (by omega) (by omega)
 have m3 : IntKind.i64.wrap ((q4 : Int) * 3) = ((q4 * 3 : Nat) : Int) := w64 (by omega) (by omega)
 have i1 : IntKind.i64.wrap ((a : Int) + (q4 : Int)) = ((a + q4 : Nat) : Int) := w64 (by omega) (by omega)
 have i2 : IntKind.i64.wrap ((a : Int) + ((q4 * 2 : Nat) : Int)) = ((a + q4 * 2 : Nat) : Int) := w64 (by omega) (by omega)
 have i3 : IntKind.i64.wrap ((a : Int) + ((q4 * 3 : Nat) : Int)) = ((a + q4 * 3 : Nat) : Int) := w64 (by omega) (by omega)
 obtain ⟨q42, e2⟩ : ∃ x, x = q4 * 2 := ⟨_, rfl⟩
 obtain ⟨q43, e3⟩ : ∃ x, x = q4 * 3 := ⟨_, rfl⟩
 rw [<- e2] at m2 i2
 rw [<- e3] at m3 i3
 obtain ⟨x1, ex1⟩ : ∃ x, x = a + q4 := ⟨_, rfl⟩
 obtain ⟨x2, ex2⟩ : ∃ x, x = a + q42 := ⟨_, rfl⟩
 obtain ⟨x3, ex3⟩ : ∃ x, x = a + q43 := ⟨_, rfl⟩
 rw [<- ex1] at i1
 rw [<- ex2] at i2
 rw [<- ex3] at i3
 have l8 : (8 : Int) ≤ l := by omega
 have hlt := wf0.lt hg
 have hne : h.next ≠ j := by omega
 have hjn : ¬ j = h.next := by omega
 simp [w1, qq4, m1, m2, m3, i1, i2, i3, l8]
 refine zcO (fun t g => ∃ p1 p2 p3 s, (t 0 = .sl j n 0 n none ∧ t 9 = .ptr h.next 1 0 ∧ t 10 = .int .i64 (p1 : Nat) ∧ t 11 = .int .i64 (p2 : Nat) ∧ t 12 = .int .i64 (p3 : Nat)) ∧ (a ≤ p1 ∧ p1 < b) ∧ (a ≤ p2 ∧ p2 < b) ∧ (a ≤ p3 ∧ p3 < b) ∧ g = h.push (.row [.int .i64 s])) (fun e RR hR => ?_) (fun e RR hR => ?_) ?_
 ·have l50 : 50 ≤ l := by have := of_decide_eq_true e; omega
  simp
  refine ze1 (j := j) (n := n) (d := d) (s := 0) (by simp [hjn, hg]) hn hne (by simp) (a := x1) (by omega) (by omega) hN fun y1 s1 hy1 => ?_
  rw [H.push_set]
  simp
  refine ze1 (j := j) (n := n) (d := d) (s := s1) (by simp [hjn, hg]) hn hne (by simp) (a := x2) (by omega) (by omega) hN fun y2 s2 hy2 => ?_
  rw [H.push_set]
  simp
  refine ze1 (j := j) (n := n) (d := d) (s := s2) (by simp [hjn, hg]) hn hne (by simp) (a := x3) (by omega) (by omega) hN fun y3 s3 hy3 => ?_
  rw [H.push_set]
  simp
  clear w1 qq4 m1 m2 m3 i1 i2 i3 l8
  have k1 : a ≤ y1 ∧ y1 < b := by omega
  have k2 : a ≤ y2 ∧ y2 < b := by omega
  have k3 : a ≤ y3 ∧ y3 < b := by omega
  refine hR _ _ ⟨y1, y2, y3, s3, ?_, k1, k2, k3, rfl⟩
  simp only [Tm.put_some]
  simp
 ·simp
  clear w1 qq4 m1 m2 m3 i1 i2 i3 l8
  have k1 : a ≤ x1 ∧ x1 < b := by omega
  have k2 : a ≤ x2 ∧ x2 < b := by omega
  have k3 : a ≤ x3 ∧ x3 < b := by omega
  refine hR _ _ ⟨x1, x2, x3, 0, ?_, k1, k2, k3, rfl⟩
  simp
 ·clear w1 qq4 m1 m2 m3 i1 i2 i3 l8 e2 e3 ex1 ex2 ex3 hq4 hl
  rintro t g ⟨p1, p2, p3, s, ⟨t0, t9, t10, t11, t12⟩, b1, b2, b3, rfl⟩
  simp [t0, t9, t10, t11, t12]
  refine zhf (j := j) (n := n) (d := d) (s := s) (by simp [hjn, hg]) hn hne (by simp) (a := p1) (b := p2) (c := p3) (Nat.lt_of_lt_of_le b1.2 hb) (Nat.lt_of_lt_of_le b2.2 hb) (Nat.lt_of_lt_of_le b3.2 hb) hN fun x s' hx => ?_
  rw [H.push_set]
  have hx1 : a ≤ x := by rcases hx with rfl | rfl | rfl; exact b1.1; exact b2.1; exact b3.1
  have hx2 : x < b := by rcases hx with rfl | rfl | rfl; exact b1.2; exact b2.2; exact b3.2
  by_cases z0 : s' = 0
  ·simp [t9, z0, V.ids]
   exact ⟨rfl, qq x 1 hx1 hx2 (.inr (.inl rfl))⟩
  ·have zb : (s' == 0) = false := beq_eq_false_iff_ne.2 z0
   by_cases z12 : s' = 12
   ·simp [t9, z12, V.ids]
    exact ⟨rfl, qq x 2 hx1 hx2 (.inr (.inr rfl))⟩
   ·have zc : (s' == 12) = false := beq_eq_false_iff_ne.2 z12
    simp [t9, zb, zc, V.ids]
    exact ⟨rfl, qq x 0 hx1 hx2 (.inl rfl)⟩
end Go.Am

namespace Go.Am
open Go.Proofs
open Go.Sort (swp PermIn permIn_trans permIn_refl swp_permIn size_swp)

set_option maxRecDepth 100000
theorem zoc (z : Int) : ∃ m : Nat, IntKind.u64.wrap z = (m : Int) ∧ m < 18446744073709551616 := by
 refine ⟨(IntKind.u64.wrap z).toNat, ?_, ?_⟩ <;> simp only [IntKind.wrap, IntKind.bits, IntKind.signed, Bool.false_and, Bool.false_eq_true, if_false] <;> omega
theorem znR {h : H} {n : Nat} (hn : n ≤ 1000000) : ∃ k : Nat, k ≤ 64 ∧ (∀ i, i ≤ 64 -> (i < k ↔ 2 ^ i ≤ n)) ∧ ∀ h : H, Pure Tryz.prog 127 [.int .i64 (n : Nat)] h (.int .u64 (2 ^ k : Nat)) := by
 obtain ⟨k, hk, hi, hlen⟩ := zgk (v := n) (by omega)
 have hk20 : k ≤ 20 := by
  rcases Nat.lt_or_ge 20 k with c | c
  ·have := (hi 20 (by omega)).1 c
   have e : 2 ^ 20 = 1048576 := by decide
   omega
  ·exact c
 refine ⟨k, hk, hi, fun h => ?_⟩
 refine zak Tryz.func127 S.a95c S.a95e rfl (Nat.le_of_ble_eq_true rfl) fun wf => ?_; simp only [S.a95]
 have wu : IntKind.u64.wrap (n : Int) = n := zez (by omega)
 simp [wu]
 refine (show Pure Tryz.prog 54 [.int .u64 (n : Nat)] h (.int .i64 (k : Nat)) from ?_) _ ?_
 ·refine zak Tryz.func54 S.a37c S.a37e rfl (Nat.le_of_ble_eq_true rfl) fun wf => ?_; simp only [S.a37]
  simp
  refine hlen h _ ?_
  simp
 ·have hp : (2 : Nat) ^ k ≤ 2 ^ 20 := Nat.pow_le_pow_right (by omega) hk20
  have hs2 : IntKind.u64.wrap (2 ^ min k IntKind.u64.bits) = ((2 ^ k : Nat) : Int) := by
   have e1 : min k IntKind.u64.bits = k := by simp [IntKind.bits]; omega
   rw [e1, show (2 : Int) ^ k = ((2 ^ k : Nat) : Int) by simp]
   have e20 : (2 : Nat) ^ 20 = 1048576 := by decide
   exact zez (by omega)
  simp
  rw [hs2]; simp
theorem znB {h : H} {sw x : Nat} (hs : h.get sw = some (.row [.int .u64 (x : Nat)])) {Q : V -> H -> Prop} (q : ∀ m : Nat, m < 18446744073709551616 -> Q (.int .u64 (m : Nat)) (h.set sw (.row [.int .u64 (m : Nat)]))) :
  Acalls Tryz.prog 128 [.ptr sw 1 0] h Q := by
 refine zam Tryz.func128 S.a96c S.a96e (Nat.le_of_ble_eq_true rfl) fun wf => ?_; simp only [S.a96]
 have c1 : zad h.get sw 1 = some [.int .u64 (x : Nat)] := by rw [zae hs (by rfl)]; rfl
 have xr : ∀ a b : Int, ∃ m : Nat, intV .xor .u64 a b = some (.int .u64 (m : Nat)) ∧ m < 18446744073709551616 := fun a b => by
  obtain ⟨m, hm, hl⟩ := zoc ((BitVec.ofInt 64 a ^^^ BitVec.ofInt 64 b).toNat : Int)
  exact ⟨m, by show some (V.int .u64 (IntKind.u64.wrap ((BitVec.ofInt 64 a ^^^ BitVec.ofInt 64 b).toNat : Int))) = _; rw [hm], hl⟩
 simp
 refine zar ?_
 obtain ⟨m1, e1, l1⟩ := xr (x : Int) (IntKind.u64.wrap ((x : Int) * 2 ^ min 13 IntKind.u64.bits))
 simp [c1, hs, e1]
 refine zar ?_
 obtain ⟨m2, e2, l2⟩ := xr (m1 : Int) ((m1 : Int).fdiv (2 ^ min 7 IntKind.u64.bits))
 simp [e2]
 refine zar ?_
 obtain ⟨m3, e3, l3⟩ := xr (m2 : Int) (IntKind.u64.wrap ((m2 : Int) * 2 ^ min 17 IntKind.u64.bits))
 simp [e3]
 exact q m3 l3
theorem zk7 {h : H} {j : Nat} (hj : j ≠ h.next) (o x : O) : (h.push o).set j x = (h.set j x).push o := H.ext' rfl fun i => by
 simp only [H.get_set, H.get_push, H.next_set]
 by_cases e1 : i = j
 ·by_cases e2 : i = h.next
  ·exact absurd (e1.symm.trans e2) hj
  ·simp [e1, hj]
 ·simp [e1]
theorem zn9 (m k : Nat) (hm : m < 18446744073709551616) (hk : 2 ^ k ≤ 2000000) : intV .and .u64 (m : Int) ((2 ^ k - 1 : Nat) : Int) = some (.int .u64 ((m % 2 ^ k : Nat) : Int)) := by
 have p0 : 0 < 2 ^ k := Nat.pos_of_ne_zero (by simp)
 have h1 : (BitVec.ofInt 64 (m : Int)).toNat = m := by simp; omega
 obtain ⟨z, hz⟩ : ∃ z, z = 2 ^ k - 1 := ⟨_, rfl⟩
 have h2 : (BitVec.ofInt 64 (z : Int)).toNat = z := by simp; omega
 have hl : m % 2 ^ k < 2 ^ k := Nat.mod_lt _ p0
 rw [<- hz]
 show some (V.int .u64 (IntKind.u64.wrap ((BitVec.ofInt 64 (m : Int) &&& BitVec.ofInt 64 (z : Int)).toNat : Int))) = _
 rw [BitVec.toNat_and, h1, h2, hz, Nat.and_two_pow_sub_one_eq_mod, zez (by omega)]
theorem zlr {h : H} {j n a b : Nat} {d : Array Nat} (hg : h.get j = some (R d)) (hn : d.size = n) (hb : b ≤ n) (hab : a + 12 < b) (hN : n ≤ 900000) {Q : V -> H -> Prop} (q : ∀ d', PermIn a b d d' -> Q (.tup []) (h.set j (R d'))) :
  Acalls Tryz.prog 88 [.sl j n 0 n none, .int .i64 (a : Nat), .int .i64 (b : Nat)] h Q := by
 refine Acalls.turns (i := j) ⟨_, hg⟩ (fun wf => ?_) (by kernel_rfl)
 refine zam Tryz.func88 S.a64c S.a64e (Nat.le_of_ble_eq_true rfl) fun wf => ?_; simp only [S.a64]
 obtain ⟨l, hl⟩ : ∃ l, l = b - a := ⟨_, rfl⟩
 obtain ⟨q4, hq4⟩ : ∃ q4, q4 = l / 4 := ⟨_, rfl⟩
 obtain ⟨k, hk, hi, hpow⟩ := znR (h := h) (n := l) (by omega)
 have hk1 : 1 ≤ k := by
  have := (hi 0 (by omega)).2 (by simp; omega)
  omega
 have hk2 : 2 ^ k ≤ 2 * l := by
  have := (hi (k - 1) (by omega)).1 (by omega)
  obtain ⟨m, rfl⟩ : ∃ m, k = m + 1 := ⟨k - 1, by omega⟩
  rw [Nat.pow_succ]
  simp only [Nat.add_sub_cancel] at this
  omega
 have p0 : 0 < 2 ^ k := Nat.pos_of_ne_zero (by simp)
 have w1 : IntKind.i64.wrap ((b : Int) - (a : Int)) = (l : Int) := w64 (by omega) (by omega)
 have wu : IntKind.u64.wrap (l : Int) = l := zez (by omega)
 have l8 : (8 : Int) ≤ l := by omega
 have qq4 : intV .quo .i64 (l : Int) 4 = some (.int .i64 (q4 : Int)) := quoN l 4 q4 (by omega) (by omega) hq4.symm
 obtain ⟨q42, e2⟩ : ∃ x, x = q4 * 2 := ⟨_, rfl⟩
 obtain ⟨s0, es0⟩ : ∃ x, x = a + q42 := ⟨_, rfl⟩
 have m2 : IntKind.i64.wrap ((q4 : Int) * 2) = (q42 : Int) := w64 (by omega) (by omega)
 have i1 : IntKind.i64.wrap ((a : Int) + (q42 : Int)) = (s0 : Int) := w64 (by omega) (by omega)
 have i2 : IntKind.i64.wrap ((s0 : Int) - 1) = ((s0 - 1 : Nat) : Int) := w64 (by omega) (by omega)
 have i3 : IntKind.i64.wrap ((s0 : Int) + 1) = ((s0 + 1 : Nat) : Int) := w64 (by omega) (by omega)
 obtain ⟨s1, es1⟩ : ∃ x, x = s0 - 1 := ⟨_, rfl⟩
 obtain ⟨s2, es2⟩ : ∃ x, x = s0 + 1 := ⟨_, rfl⟩
 rw [<- es1] at i2
 rw [<- es2] at i3
 have hlt := wf.lt hg
 have hne : j ≠ h.next := by omega
 obtain ⟨md, hmd⟩ : ∃ md, md = 2 ^ k := ⟨_, rfl⟩
 have wmd : IntKind.u64.wrap ((md : Int) - 1) = ((2 ^ k - 1 : Nat) : Int) := by rw [hmd, show (((2 ^ k : Nat) : Int) - 1) = ((2 ^ k - 1 : Nat) : Int) by omega]; exact zez (by omega)
 simp [w1, l8, wu]
 refine hpow _ _ ?_
 rw [<- hmd]
 simp [qq4, m2, i1, i2]
 refine zap (fun r t g => ∃ (m : Nat) (d' : Array Nat), (t 0 = .sl j n 0 n none ∧ t 1 = .int .i64 (a : Nat) ∧ t 6 = .int .i64 (l : Nat) ∧ t 7 = .ptr h.next 1 0 ∧ t 8 = .int .u64 (md : Nat) ∧ t 9 = .int .i64 ((s1 + r : Nat) : Int)) ∧ g = (h.set j (R d')).push (.row [.int .u64 (m : Nat)]) ∧ d'.size = n ∧ PermIn a b d d') 3 ⟨l, d, by simp, ?_, hn, permIn_refl _ _ _⟩ ?_
 ·rw [H.push_set, <- zfK hg]
 rintro r t g hr ⟨m, d', ⟨t0, t1, t6, t7, t8, t9⟩, hgg, hd', hp⟩ K hK
 obtain ⟨ix, hix⟩ : ∃ ix, ix = s1 + r := ⟨_, rfl⟩
 rw [<- hix] at t9
 have hnx : (h.set j (R d')).next = h.next := rfl
 by_cases hr3 : r < 3
 ·have c1 : (ix : Int) ≤ s2 := by omega
  have w9 : IntKind.i64.wrap ((ix : Int) + 1) = ((s1 + (r + 1) : Nat) : Int) := w64 (by omega) (by omega)
  simp [t1, t6, t7, t9, qq4, m2, i1, i3, c1]
  refine znB (sw := h.next) (x := m) (by rw [hgg]; simp) fun m' hm' => ?_
  have hg2 : g.set h.next (.row [.int .u64 (m' : Nat)]) = (h.set j (R d')).push (.row [.int .u64 (m' : Nat)]) := by rw [hgg, <- hnx, H.push_set]
  rw [hg2]
  obtain ⟨v, hv⟩ : ∃ v, v = m' % 2 ^ k := ⟨_, rfl⟩
  have hvl : v < 2 ^ k := by rw [hv]; exact Nat.mod_lt _ p0
  have ea := zn9 m' k hm' (by omega)
  rw [<- hv] at ea
  obtain ⟨mk, hmk⟩ : ∃ mk, mk = 2 ^ k - 1 := ⟨_, rfl⟩
  rw [<- hmk] at ea wmd
  have wv : IntKind.i64.wrap (v : Int) = v := w64 rfl (by omega)
  obtain ⟨g1, hg1⟩ : ∃ g1, g1 = (h.set j (R d')).push (.row [.int .u64 (m' : Nat)]) := ⟨_, rfl⟩
  rw [<- hg1]
  simp [wmd, ea, wv, t6, t8]
  refine zcO (fun t g' => ∃ o, o < l ∧ (t 0 = .sl j n 0 n none ∧ t 1 = .int .i64 (a : Nat) ∧ t 6 = .int .i64 (l : Nat) ∧ t 7 = .ptr h.next 1 0 ∧ t 8 = .int .u64 (md : Nat) ∧ t 9 = .int .i64 (ix : Nat) ∧ t 10 = .int .i64 (o : Nat)) ∧ g' = g1) (fun e RR hR => ?_) (fun e RR hR => ?_) ?_
  ·have e1 : l ≤ v := by have := of_decide_eq_true e; omega
   have wo : IntKind.i64.wrap ((v : Int) - (l : Int)) = ((v - l : Nat) : Int) := w64 (by omega) (by omega)
   simp [wo, t6]
   refine hR _ _ ⟨v - l, by omega, ?_, rfl⟩
   simp [t0, t1, t6, t7, t8, t9]
  ·have e1 : ¬ l ≤ v := by have := of_decide_eq_false e; omega
   simp
   refine hR _ _ ⟨v, by omega, ?_, rfl⟩
   simp [t0, t1, t6, t7, t8, t9]
  ·rintro t' g' ⟨o, hol, ⟨u0, u1, u6, u7, u8, u9, u10⟩, rfl⟩
   have wo : IntKind.i64.wrap ((a : Int) + (o : Int)) = ((a + o : Nat) : Int) := w64 (by omega) (by omega)
   obtain ⟨ao, hao⟩ : ∃ ao, ao = a + o := ⟨_, rfl⟩
   rw [<- hao] at wo
   obtain ⟨cs, x, y, hx, hy, hcs, ax, ay, ip, iq, dd, st1, st2⟩ := zb7 (g := g') (j := j) (p := ix) (q := ao) (by rw [hg1]; simp [hne]) hd' (by omega) (by omega)
   simp
   refine zar ?_
   simp [-zaI, u0, u1, u9, u10, wo, ip, iq, hcs, ax, ay, st1, st2, w9]
   refine hK _ _ hr3 ⟨m', swp d' ix ao, ?_, ?_, by rw [size_swp, hd'], permIn_trans _ _ _ a b hp (swp_permIn d' a b ix ao (by omega) (by omega) (by omega) (by omega) (by omega))⟩
   ·simp [u0, u1, u6, u7, u8]
   ·rw [hg1, zk7 (by simpa using hne), H.set_set]
 ·have c1 : ¬ (ix : Int) ≤ s2 := by omega
  simp [t1, t6, t9, qq4, m2, i1, i3, c1]
  refine ⟨R d', zrB d', ?_, rfl, q d' hp⟩
  rw [hgg]; exact (Ge.refl _).push _
end Go.Am

namespace Go.Am
open Go.Proofs
open Go.Sort (swp PermIn size_swp scanUp scanDown partLoop partEqLoop partitionEqual)

set_option maxRecDepth 100000

theorem zj0 {h : H} {j n a b pv : Nat} {d : Array Nat} (hg : h.get j = some (R d)) (hn : d.size = n) (hb : b ≤ n) (hp1 : a ≤ pv) (hp2 : pv < b) (hab : a + 1 < b) (hN : n ≤ 900000) {Q : V -> H -> Prop} (q : Q (.int .i64 ((partitionEqual lt32 d a b pv).1 : Nat)) (h.set j (R (partitionEqual lt32 d a b pv).2))) :
  Acalls Tryz.prog 93 [.sl j n 0 n none, .int .i64 (a : Nat), .int .i64 (b : Nat), .int .i64 (pv : Nat)] h Q := by
 refine zam Tryz.func93 S.a69c S.a69e (Nat.le_of_ble_eq_true rfl) fun wf => ?_; simp only [S.a69]
 obtain ⟨res, hres⟩ : ∃ res, res = partitionEqual lt32 d a b pv := ⟨_, rfl⟩
 rw [<- hres] at q
 unfold partitionEqual at hres
 have wa : IntKind.i64.wrap ((a : Int) + 1) = ((a + 1 : Nat) : Int) := w64 (by omega) (by omega)
 have wb : IntKind.i64.wrap ((b : Int) - 1) = ((b - 1 : Nat) : Int) := w64 (by omega) (by omega)
 obtain ⟨cs, xv, yv, hx, hy, hcs, ax, ay, ip, iq, dd, st1, st2⟩ := zb7 (g := h) (j := j) (p := a) (q := pv) hg hn (by omega) (by omega)
 simp
 refine zar ?_
 simp [-zaI, ip, iq, hcs, ax, ay, st1, st2, wa, wb]
 clear hcs ax ay ip iq st1 st2 hx hy
 refine zap (fun m t g => ∃ i jj d', (t 0 = .sl j n 0 n none ∧ t 1 = .int .i64 (a : Nat) ∧ t 9 = .int .i64 (i : Nat) ∧ t 10 = .int .i64 (jj : Nat)) ∧ g = h.set j (R d') ∧ d'.size = n ∧ a < i ∧ i ≤ jj + 1 ∧ jj < b ∧ jj + 1 - i + m ≤ n ∧ res = partEqLoop lt32 a i jj d') n ⟨a + 1, b - 1, swp d a pv, by simp, rfl, by rw [size_swp, hn], by omega, by omega, by omega, by omega, hres⟩ ?_
 rintro m t g hm ⟨i, jj, d', ⟨t0, t1, tI, tJ⟩, hgg, hd', hai, hij, hjb, hmm, hres2⟩ K hK
 rw [Go.Sort.partEqLoop_eq] at hres2
 rw [hgg]
 obtain ⟨P, hP⟩ : ∃ P : Nat -> Bool, P = fun x => !lt32 d'[a]! x := ⟨_, rfl⟩
 obtain ⟨Q1, hQ1⟩ : ∃ P : Nat -> Bool, P = fun x => lt32 d'[a]! x := ⟨_, rfl⟩
 obtain ⟨i2, hi2⟩ : ∃ i2, i2 = scanUp P d' jj i := ⟨_, rfl⟩
 obtain ⟨j2, hj2⟩ : ∃ j2, j2 = scanDown Q1 d' i2 jj := ⟨_, rfl⟩
 have hi2g : i ≤ i2 := by rw [hi2]; exact Go.Sort.scanUp_ge _ _ _ _
 have hi2l : i2 ≤ jj + 1 := by rw [hi2]; exact (Go.Sort.scanUp_spec P d' jj _ i rfl).2.1 (by omega)
 have hj2l : j2 ≤ jj := by rw [hj2]; exact Go.Sort.scanDown_le _ _ _ _
 have hij2 : i2 ≤ j2 -> i2 < j2 := fun hle => by
  rcases Nat.lt_or_ge i2 j2 with c | c
  ·exact c
  ·exfalso
   have e : j2 = i2 := by omega
   have p1 := (Go.Sort.scanUp_spec P d' jj _ i rfl).2.2.2 (by rw [<- hi2]; omega)
   have p2 := (Go.Sort.scanDown_spec Q1 d' i2 jj).2.2.2 (by rw [<- hj2]; omega) (by rw [<- hj2]; omega)
   rw [<- hi2, hP] at p1
   rw [<- hj2, hQ1, e] at p2
   simp at p1 p2
   simp [p1] at p2
 obtain ⟨g0, hg0⟩ : ∃ g0, g0 = h.set j (R d') := ⟨_, rfl⟩
 have hgj : g0.get j = some (R d') := by rw [hg0]; simp
 rw [<- hg0]
 rw [<- hP, <- hQ1, <- hi2, <- hj2] at hres2
 simp
 refine zbm (id := 2) (fun t g => (t 0 = .sl j n 0 n none ∧ t 1 = .int .i64 (a : Nat) ∧ t 9 = .int .i64 (i2 : Nat) ∧ t 10 = .int .i64 (jj : Nat)) ∧ g = g0) (fun R1 hR1 => ?_) ?_
 ·refine zap (fun m t g => ∃ x, x = i + m ∧ x ≤ jj + 1 ∧ (t 0 = .sl j n 0 n none ∧ t 1 = .int .i64 (a : Nat) ∧ t 9 = .int .i64 (x : Nat) ∧ t 10 = .int .i64 (jj : Nat)) ∧ g = g0 ∧ i2 = scanUp P d' jj x) (jj + 1) ⟨i, by omega, by omega, by simp [t0, t1, tI, tJ], rfl, hi2⟩ ?_
  rintro m t g hm ⟨x, hxm, hxj, ⟨u0, u1, ui, uj⟩, hgg, hs⟩ K1 hK1
  rw [scanUp] at hs
  rw [hgg]
  by_cases hle : x ≤ jj
  ·obtain ⟨cs, xv, yv, hx, hy, hcs, ax, ay, ip, iq, _⟩ := zb7 (g := g0) (j := j) (p := x) (q := a) hgj hd' (by omega) (by omega)
   have hpx : P d'[x]! = !lt32 yv xv := by rw [hP, hx, hy]
   have wx : IntKind.i64.wrap ((x : Int) + 1) = ((x + 1 : Nat) : Int) := w64 (by omega) (by omega)
   rw [decide_eq_true hle, Bool.true_and, hpx] at hs
   simp
   refine zar ?_
   simp [u0, u1, ui, uj, hle, ip, iq, hcs, ax, ay]
   refine za6 (za2 (a := yv) (b := xv)) ?_
   cases hl : lt32 yv xv with
   | false =>
    rw [hl] at hs
    simp at hs
    simp [ui, wx]
    exact hK1 _ _ (by omega) ⟨x + 1, by omega, by omega, by simp [u0, u1, uj], rfl, hs⟩
   | true =>
    rw [hl] at hs
    simp at hs
    simp
    exact hR1 _ _ ⟨by simp [u0, u1, ui, uj, hs], rfl⟩
  ·rw [decide_eq_false hle, Bool.false_and] at hs
   simp at hs
   simp
   refine zar ?_
   simp [ui, uj, hle]
   exact hR1 _ _ ⟨by simp [u0, u1, ui, uj, hs], rfl⟩
 rintro t g ⟨⟨u0, u1, ui, uj⟩, hgg⟩
 rw [hgg]
 simp
 refine zbm (id := 4) (fun t g => (t 0 = .sl j n 0 n none ∧ t 1 = .int .i64 (a : Nat) ∧ t 9 = .int .i64 (i2 : Nat) ∧ t 10 = .int .i64 (j2 : Nat)) ∧ g = g0) (fun R1 hR1 => ?_) ?_
 ·refine zap (fun m t g => ∃ y, y + m = jj ∧ (t 0 = .sl j n 0 n none ∧ t 1 = .int .i64 (a : Nat) ∧ t 9 = .int .i64 (i2 : Nat) ∧ t 10 = .int .i64 (y : Nat)) ∧ g = g0 ∧ j2 = scanDown Q1 d' i2 y) jj ⟨jj, by omega, by simp [u0, u1, ui, uj], rfl, hj2⟩ ?_
  clear u0 u1 ui uj
  rintro m t g hm ⟨y, hym, ⟨u0, u1, ui, uj⟩, hgg, hs⟩ K1 hK1
  rw [hgg]
  by_cases hle : i2 ≤ y
  ·obtain ⟨cs, xv, yv, hx, hy, hcs, ax, ay, ip, iq, _⟩ := zb7 (g := g0) (j := j) (p := y) (q := a) hgj hd' (by omega) (by omega)
   have hpx : Q1 d'[y]! = lt32 yv xv := by rw [hQ1, hx, hy]
   have wy : IntKind.i64.wrap ((y : Int) - 1) = ((y - 1 : Nat) : Int) := w64 (by omega) (by omega)
   have hs2 : j2 = if Q1 d'[y]! = true then scanDown Q1 d' i2 (y - 1) else y := by
    obtain ⟨p, rfl⟩ : ∃ p, y = p + 1 := ⟨y - 1, by omega⟩
    rw [scanDown, decide_eq_true hle, Bool.true_and] at hs
    exact hs
   rw [hpx] at hs2
   simp
   refine zar ?_
   simp [u0, u1, ui, uj, hle, ip, iq, hcs, ax, ay]
   refine za6 (za2 (a := yv) (b := xv)) ?_
   cases hl : lt32 yv xv with
   | true =>
    rw [hl] at hs2
    simp at hs2
    simp [uj, wy]
    exact hK1 _ _ (by omega) ⟨y - 1, by omega, by simp [u0, u1, ui], rfl, hs2⟩
   | false =>
    rw [hl] at hs2
    simp at hs2
    simp
    exact hR1 _ _ ⟨by simp [u0, u1, ui, uj, hs2], rfl⟩
  ·have hs2 : j2 = y := by
    rw [hs]
    cases y with
    | zero => rfl
    | succ p => rw [scanDown, decide_eq_false hle, Bool.false_and]; simp
   simp
   refine zar ?_
   simp [ui, uj, hle]
   exact hR1 _ _ ⟨by simp [u0, u1, ui, uj, hs2], rfl⟩
 clear u0 u1 ui uj hgg
 rintro t g ⟨⟨t0, t1, tI, tJ⟩, hgg⟩
 rw [hgg]
 by_cases hgt : i2 > j2
 ·rw [if_pos hgt] at hres2
  have hgt' : ¬ i2 ≤ j2 := by omega
  have hgti : j2 < i2 := hgt
  simp [tI, tJ, hgti]
  have e1 : res.1 = i2 := by rw [hres2]
  have e2 : res.2 = d' := by rw [hres2]
  rw [e1, e2, <- hg0] at q
  exact q
 ·rw [if_neg hgt] at hres2
  have hgti : ¬ j2 < i2 := by omega
  have hlt2 := hij2 (by omega)
  obtain ⟨cs, xv, yv, hx, hy, hcs, ax, ay, ip, iq, dd, st1, st2⟩ := zb7 (g := g0) (j := j) (p := i2) (q := j2) hgj hd' (by omega) (by omega)
  have wi : IntKind.i64.wrap ((i2 : Int) + 1) = ((i2 + 1 : Nat) : Int) := w64 (by omega) (by omega)
  have wj : IntKind.i64.wrap ((j2 : Int) - 1) = ((j2 - 1 : Nat) : Int) := w64 (by omega) (by omega)
  simp [tI, tJ, hgti]
  refine zar ?_
  simp [-zaI, t0, tI, tJ, ip, iq, hcs, ax, ay, st1, st2, wi, wj]
  refine hK _ _ (by omega) ⟨i2 + 1, j2 - 1, swp d' i2 j2, by simp [t0, t1], by rw [hg0, H.set_set], by rw [size_swp, hd'], by omega, by omega, by omega, by omega, hres2⟩

theorem zog {h : H} {j n a b pv : Nat} {d : Array Nat} (hg : h.get j = some (R d)) (hn : d.size = n) (hb : b ≤ n) (hp1 : a ≤ pv) (hp2 : pv < b) (hab : a + 1 < b) (hN : n ≤ 900000) {Q : V -> H -> Prop}
  (q : ∀ x : Bool, Q (.tup [.int .i64 ((Go.Sort.partition lt32 d a b pv).1 : Nat), .bool x]) (h.set j (R (Go.Sort.partition lt32 d a b pv).2.2))) :
  Acalls Tryz.prog 94 [.sl j n 0 n none, .int .i64 (a : Nat), .int .i64 (b : Nat), .int .i64 (pv : Nat)] h Q := by
 refine zam Tryz.func94 S.a70c S.a70e (Nat.le_of_ble_eq_true rfl) fun wf => ?_; simp only [S.a70]
 rw [Go.Sort.partition_fst, Go.Sort.partition_arr] at q
 obtain ⟨res, hres⟩ : ∃ res, res = partLoop lt32 a (a + 1) (b - 1) (swp d a pv) := ⟨_, rfl⟩
 rw [<- hres] at q
 have wa : IntKind.i64.wrap ((a : Int) + 1) = ((a + 1 : Nat) : Int) := w64 (by omega) (by omega)
 have wb : IntKind.i64.wrap ((b : Int) - 1) = ((b - 1 : Nat) : Int) := w64 (by omega) (by omega)
 obtain ⟨cs, xv, yv, hx, hy, hcs, ax, ay, ip, iq, dd, st1, st2⟩ := zb7 (g := h) (j := j) (p := a) (q := pv) hg hn (by omega) (by omega)
 simp
 refine zar ?_
 simp [-zaI, ip, iq, hcs, ax, ay, st1, st2, wa, wb]
 clear hcs ax ay ip iq st1 st2 hx hy
 obtain ⟨d', hdd⟩ : ∃ d', d' = swp d a pv := ⟨_, rfl⟩
 have hd' : d'.size = n := by rw [hdd, size_swp, hn]
 rw [<- hdd] at hres ⊢
 rw [Go.Sort.partLoop_eq] at hres
 obtain ⟨P, hP⟩ : ∃ P : Nat -> Bool, P = fun x => lt32 x d'[a]! := ⟨_, rfl⟩
 obtain ⟨Q1, hQ1⟩ : ∃ P : Nat -> Bool, P = fun x => !lt32 x d'[a]! := ⟨_, rfl⟩
 obtain ⟨i2, hi2⟩ : ∃ i2, i2 = scanUp P d' (b - 1) (a + 1) := ⟨_, rfl⟩
 obtain ⟨j2, hj2⟩ : ∃ j2, j2 = scanDown Q1 d' i2 (b - 1) := ⟨_, rfl⟩
 have hi2g : (a + 1) ≤ i2 := by rw [hi2]; exact Go.Sort.scanUp_ge _ _ _ _
 have hi2l : i2 ≤ (b - 1) + 1 := by rw [hi2]; exact (Go.Sort.scanUp_spec P d' (b - 1) _ (a + 1) rfl).2.1 (by omega)
 have hj2l : j2 ≤ (b - 1) := by rw [hj2]; exact Go.Sort.scanDown_le _ _ _ _
 have hij2 : i2 ≤ j2 -> i2 < j2 := fun hle => by
  rcases Nat.lt_or_ge i2 j2 with c | c
  ·exact c
  ·exfalso
   have e : j2 = i2 := by omega
   have p1 := (Go.Sort.scanUp_spec P d' (b - 1) _ (a + 1) rfl).2.2.2 (by rw [<- hi2]; omega)
   have p2 := (Go.Sort.scanDown_spec Q1 d' i2 (b - 1)).2.2.2 (by rw [<- hj2]; omega) (by rw [<- hj2]; omega)
   rw [<- hi2, hP] at p1
   rw [<- hj2, hQ1, e] at p2
   simp at p1 p2
   simp [p1] at p2
 obtain ⟨g0, hg0⟩ : ∃ g0, g0 = h.set j (R d') := ⟨_, rfl⟩
 have hgj : g0.get j = some (R d') := by rw [hg0]; simp
 rw [<- hg0]
 rw [<- hP, <- hQ1, <- hi2, <- hj2] at hres
 refine zbm (id := 0) (fun t g => (t 0 = .sl j n 0 n none ∧ t 1 = .int .i64 (a : Nat) ∧ t 10 = .int .i64 (i2 : Nat) ∧ t 11 = .int .i64 ((b - 1) : Nat)) ∧ g = g0) (fun R1 hR1 => ?_) ?_
 ·refine zap (fun m t g => ∃ x, x = (a + 1) + m ∧ x ≤ (b - 1) + 1 ∧ (t 0 = .sl j n 0 n none ∧ t 1 = .int .i64 (a : Nat) ∧ t 10 = .int .i64 (x : Nat) ∧ t 11 = .int .i64 ((b - 1) : Nat)) ∧ g = g0 ∧ i2 = scanUp P d' (b - 1) x) ((b - 1) + 1) ⟨(a + 1), by omega, by omega, by simp, rfl, hi2⟩ ?_
  rintro m t g hm ⟨x, hxm, hxj, ⟨u0, u1, ui, uj⟩, hgg, hs⟩ K1 hK1
  rw [scanUp] at hs
  rw [hgg]
  by_cases hle : x ≤ (b - 1)
  ·obtain ⟨cs, xv, yv, hx, hy, hcs, ax, ay, ip, iq, _⟩ := zb7 (g := g0) (j := j) (p := x) (q := a) hgj hd' (by omega) (by omega)
   have hpx : P d'[x]! = lt32 xv yv := by rw [hP, hx, hy]
   have wx : IntKind.i64.wrap ((x : Int) + 1) = ((x + 1 : Nat) : Int) := w64 (by omega) (by omega)
   rw [decide_eq_true hle, Bool.true_and, hpx] at hs
   simp
   refine zar ?_
   simp [u0, u1, ui, uj, hle, ip, iq, hcs, ax, ay]
   refine za6 (za2 (a := xv) (b := yv)) ?_
   cases hl : lt32 xv yv with
   | true =>
    rw [hl] at hs
    simp at hs
    simp [ui, wx]
    exact hK1 _ _ (by omega) ⟨x + 1, by omega, by omega, by simp [u0, u1, uj], rfl, hs⟩
   | false =>
    rw [hl] at hs
    simp at hs
    simp
    exact hR1 _ _ ⟨by simp [u0, u1, ui, uj, hs], rfl⟩
  ·rw [decide_eq_false hle, Bool.false_and] at hs
   simp at hs
   simp
   refine zar ?_
   simp [ui, uj, hle]
   exact hR1 _ _ ⟨by simp [u0, u1, ui, uj, hs], rfl⟩
 rintro t g ⟨⟨u0, u1, ui, uj⟩, hgg⟩
 rw [hgg]
 simp
 refine zbm (id := 2) (fun t g => (t 0 = .sl j n 0 n none ∧ t 1 = .int .i64 (a : Nat) ∧ t 10 = .int .i64 (i2 : Nat) ∧ t 11 = .int .i64 (j2 : Nat)) ∧ g = g0) (fun R1 hR1 => ?_) ?_
 ·refine zap (fun m t g => ∃ y, y + m = (b - 1) ∧ (t 0 = .sl j n 0 n none ∧ t 1 = .int .i64 (a : Nat) ∧ t 10 = .int .i64 (i2 : Nat) ∧ t 11 = .int .i64 (y : Nat)) ∧ g = g0 ∧ j2 = scanDown Q1 d' i2 y) (b - 1) ⟨(b - 1), by omega, by simp [u0, u1, ui, uj], rfl, hj2⟩ ?_
  clear u0 u1 ui uj
  rintro m t g hm ⟨y, hym, ⟨u0, u1, ui, uj⟩, hgg, hs⟩ K1 hK1
  rw [hgg]
  by_cases hle : i2 ≤ y
  ·obtain ⟨cs, xv, yv, hx, hy, hcs, ax, ay, ip, iq, _⟩ := zb7 (g := g0) (j := j) (p := y) (q := a) hgj hd' (by omega) (by omega)
   have hpx : Q1 d'[y]! = !lt32 xv yv := by rw [hQ1, hx, hy]
   have wy : IntKind.i64.wrap ((y : Int) - 1) = ((y - 1 : Nat) : Int) := w64 (by omega) (by omega)
   have hs2 : j2 = if Q1 d'[y]! = true then scanDown Q1 d' i2 (y - 1) else y := by
    obtain ⟨p, rfl⟩ : ∃ p, y = p + 1 := ⟨y - 1, by omega⟩
    rw [scanDown, decide_eq_true hle, Bool.true_and] at hs
    exact hs
   rw [hpx] at hs2
   simp
   refine zar ?_
   simp [u0, u1, ui, uj, hle, ip, iq, hcs, ax, ay]
   refine za6 (za2 (a := xv) (b := yv)) ?_
   cases hl : lt32 xv yv with
   | false =>
    rw [hl] at hs2
    simp at hs2
    simp [uj, wy]
    exact hK1 _ _ (by omega) ⟨y - 1, by omega, by simp [u0, u1, ui], rfl, hs2⟩
   | true =>
    rw [hl] at hs2
    simp at hs2
    simp
    exact hR1 _ _ ⟨by simp [u0, u1, ui, uj, hs2], rfl⟩
  ·have hs2 : j2 = y := by
    rw [hs]
    cases y with
    | zero => rfl
    | succ p => rw [scanDown, decide_eq_false hle, Bool.false_and]; simp
   simp
   refine zar ?_
   simp [ui, uj, hle]
   exact hR1 _ _ ⟨by simp [u0, u1, ui, uj, hs2], rfl⟩
 clear u0 u1 ui uj hgg
 rintro t g ⟨⟨t0, t1, tI, tJ⟩, hgg⟩
 rw [hgg]
 by_cases hgt : i2 > j2
 ·rw [if_pos hgt] at hres
  have hgti : j2 < i2 := hgt
  simp [tI, tJ, hgti]
  obtain ⟨cs, xv, yv, hx, hy, hcs, ax, ay, ip, iq, dd, st1, st2⟩ := zb7 (g := g0) (j := j) (p := j2) (q := a) hgj hd' (by omega) (by omega)
  refine zar ?_
  simp [-zaI, t0, t1, tJ, ip, iq, hcs, ax, ay, st1, st2]
  have e1 : res.1 = j2 := by rw [hres]
  have e2 : res.2 = d' := by rw [hres]
  rw [e1, e2] at q
  rw [hg0, H.set_set]
  exact q _
 ·rw [if_neg hgt] at hres
  have hgti : ¬ j2 < i2 := by omega
  have hlt2 := hij2 (by omega)
  obtain ⟨cs, xv, yv, hx, hy, hcs, ax, ay, ip, iq, dd, st1, st2⟩ := zb7 (g := g0) (j := j) (p := i2) (q := j2) hgj hd' (by omega) (by omega)
  have wi : IntKind.i64.wrap ((i2 : Int) + 1) = ((i2 + 1 : Nat) : Int) := w64 (by omega) (by omega)
  have wj : IntKind.i64.wrap ((j2 : Int) - 1) = ((j2 - 1 : Nat) : Int) := w64 (by omega) (by omega)
  simp [tI, tJ, hgti]
  refine zar ?_
  simp [-zaI, t0, tI, tJ, ip, iq, hcs, ax, ay, st1, st2, wi, wj]
  obtain ⟨dn, hdn⟩ : ∃ dn, dn = swp d' i2 j2 := ⟨_, rfl⟩
  have hdns : dn.size = n := by rw [hdn, size_swp, hd']
  rw [<- hdn] at hres ⊢
  rw [hg0, H.set_set]
  clear hcs ax ay ip iq st1 st2 hgj hg0 hP hQ1 hi2 hj2
  refine zap (fun m t g => ∃ i jj d', (t 0 = .sl j n 0 n none ∧ t 1 = .int .i64 (a : Nat) ∧ t 10 = .int .i64 (i : Nat) ∧ t 11 = .int .i64 (jj : Nat)) ∧ g = h.set j (R d') ∧ d'.size = n ∧ a < i ∧ i ≤ jj + 1 ∧ jj < b ∧ jj + 1 - i + m ≤ n ∧ res = partLoop lt32 a i jj d') n ⟨i2 + 1, j2 - 1, dn, by simp [t0, t1], rfl, hdns, by omega, by omega, by omega, by omega, hres⟩ ?_
  clear hres hdns hdn hd' hgt hgti wi wj hi2g hi2l hj2l hij2 hlt2
  rintro m t g hm ⟨i, jj, d', ⟨t0, t1, tI, tJ⟩, hgg, hd', hai, hij, hjb, hmm, hres2⟩ K hK
  rw [Go.Sort.partLoop_eq] at hres2
  rw [hgg]
  obtain ⟨P, hP⟩ : ∃ P : Nat -> Bool, P = fun x => lt32 x d'[a]! := ⟨_, rfl⟩
  obtain ⟨Q1, hQ1⟩ : ∃ P : Nat -> Bool, P = fun x => !lt32 x d'[a]! := ⟨_, rfl⟩
  obtain ⟨i2, hi2⟩ : ∃ i2, i2 = scanUp P d' jj i := ⟨_, rfl⟩
  obtain ⟨j2, hj2⟩ : ∃ j2, j2 = scanDown Q1 d' i2 jj := ⟨_, rfl⟩
  have hi2g : i ≤ i2 := by rw [hi2]; exact Go.Sort.scanUp_ge _ _ _ _
  have hi2l : i2 ≤ jj + 1 := by rw [hi2]; exact (Go.Sort.scanUp_spec P d' jj _ i rfl).2.1 (by omega)
  have hj2l : j2 ≤ jj := by rw [hj2]; exact Go.Sort.scanDown_le _ _ _ _
  have hij2 : i2 ≤ j2 -> i2 < j2 := fun hle => by
   rcases Nat.lt_or_ge i2 j2 with c | c
   ·exact c
   ·exfalso
    have e : j2 = i2 := by omega
    have p1 := (Go.Sort.scanUp_spec P d' jj _ i rfl).2.2.2 (by rw [<- hi2]; omega)
    have p2 := (Go.Sort.scanDown_spec Q1 d' i2 jj).2.2.2 (by rw [<- hj2]; omega) (by rw [<- hj2]; omega)
    rw [<- hi2, hP] at p1
    rw [<- hj2, hQ1, e] at p2
    simp at p1 p2
    simp [p1] at p2
  obtain ⟨g0, hg0⟩ : ∃ g0, g0 = h.set j (R d') := ⟨_, rfl⟩
  have hgj : g0.get j = some (R d') := by rw [hg0]; simp
  rw [<- hg0]
  rw [<- hP, <- hQ1, <- hi2, <- hj2] at hres2
  simp
  refine zbm (id := 6) (fun t g => (t 0 = .sl j n 0 n none ∧ t 1 = .int .i64 (a : Nat) ∧ t 10 = .int .i64 (i2 : Nat) ∧ t 11 = .int .i64 (jj : Nat)) ∧ g = g0) (fun R1 hR1 => ?_) ?_
  ·refine zap (fun m t g => ∃ x, x = i + m ∧ x ≤ jj + 1 ∧ (t 0 = .sl j n 0 n none ∧ t 1 = .int .i64 (a : Nat) ∧ t 10 = .int .i64 (x : Nat) ∧ t 11 = .int .i64 (jj : Nat)) ∧ g = g0 ∧ i2 = scanUp P d' jj x) (jj + 1) ⟨i, by omega, by omega, by simp [t0, t1, tI, tJ], rfl, hi2⟩ ?_
   rintro m t g hm ⟨x, hxm, hxj, ⟨u0, u1, ui, uj⟩, hgg, hs⟩ K1 hK1
   rw [scanUp] at hs
   rw [hgg]
   by_cases hle : x ≤ jj
   ·obtain ⟨cs, xv, yv, hx, hy, hcs, ax, ay, ip, iq, _⟩ := zb7 (g := g0) (j := j) (p := x) (q := a) hgj hd' (by omega) (by omega)
    have hpx : P d'[x]! = lt32 xv yv := by rw [hP, hx, hy]
    have wx : IntKind.i64.wrap ((x : Int) + 1) = ((x + 1 : Nat) : Int) := w64 (by omega) (by omega)
    rw [decide_eq_true hle, Bool.true_and, hpx] at hs
    simp
    refine zar ?_
    simp [u0, u1, ui, uj, hle, ip, iq, hcs, ax, ay]
    refine za6 (za2 (a := xv) (b := yv)) ?_
    cases hl : lt32 xv yv with
    | true =>
     rw [hl] at hs
     simp at hs
     simp [ui, wx]
     exact hK1 _ _ (by omega) ⟨x + 1, by omega, by omega, by simp [u0, u1, uj], rfl, hs⟩
    | false =>
     rw [hl] at hs
     simp at hs
     simp
     exact hR1 _ _ ⟨by simp [u0, u1, ui, uj, hs], rfl⟩
   ·rw [decide_eq_false hle, Bool.false_and] at hs
    simp at hs
    simp
    refine zar ?_
    simp [ui, uj, hle]
    exact hR1 _ _ ⟨by simp [u0, u1, ui, uj, hs], rfl⟩
  rintro t g ⟨⟨u0, u1, ui, uj⟩, hgg⟩
  rw [hgg]
  simp
  refine zbm (id := 8) (fun t g => (t 0 = .sl j n 0 n none ∧ t 1 = .int .i64 (a : Nat) ∧ t 10 = .int .i64 (i2 : Nat) ∧ t 11 = .int .i64 (j2 : Nat)) ∧ g = g0) (fun R1 hR1 => ?_) ?_
  ·refine zap (fun m t g => ∃ y, y + m = jj ∧ (t 0 = .sl j n 0 n none ∧ t 1 = .int .i64 (a : Nat) ∧ t 10 = .int .i64 (i2 : Nat) ∧ t 11 = .int .i64 (y : Nat)) ∧ g = g0 ∧ j2 = scanDown Q1 d' i2 y) jj ⟨jj, by omega, by simp [u0, u1, ui, uj], rfl, hj2⟩ ?_
   clear u0 u1 ui uj
   rintro m t g hm ⟨y, hym, ⟨u0, u1, ui, uj⟩, hgg, hs⟩ K1 hK1
   rw [hgg]
   by_cases hle : i2 ≤ y
   ·obtain ⟨cs, xv, yv, hx, hy, hcs, ax, ay, ip, iq, _⟩ := zb7 (g := g0) (j := j) (p := y) (q := a) hgj hd' (by omega) (by omega)
    have hpx : Q1 d'[y]! = !lt32 xv yv := by rw [hQ1, hx, hy]
    have wy : IntKind.i64.wrap ((y : Int) - 1) = ((y - 1 : Nat) : Int) := w64 (by omega) (by omega)
    have hs2 : j2 = if Q1 d'[y]! = true then scanDown Q1 d' i2 (y - 1) else y := by
     obtain ⟨p, rfl⟩ : ∃ p, y = p + 1 := ⟨y - 1, by omega⟩
     rw [scanDown, decide_eq_true hle, Bool.true_and] at hs
     exact hs
    rw [hpx] at hs2
    simp
    refine zar ?_
    simp [u0, u1, ui, uj, hle, ip, iq, hcs, ax, ay]
    refine za6 (za2 (a := xv) (b := yv)) ?_
    cases hl : lt32 xv yv with
    | false =>
     rw [hl] at hs2
     simp at hs2
     simp [uj, wy]
     exact hK1 _ _ (by omega) ⟨y - 1, by omega, by simp [u0, u1, ui], rfl, hs2⟩
    | true =>
     rw [hl] at hs2
     simp at hs2
     simp
     exact hR1 _ _ ⟨by simp [u0, u1, ui, uj, hs2], rfl⟩
   ·have hs2 : j2 = y := by
     rw [hs]
     cases y with
     | zero => rfl
     | succ p => rw [scanDown, decide_eq_false hle, Bool.false_and]; simp
    simp
    refine zar ?_
    simp [ui, uj, hle]
    exact hR1 _ _ ⟨by simp [u0, u1, ui, uj, hs2], rfl⟩
  clear u0 u1 ui uj hgg
  rintro t g ⟨⟨t0, t1, tI, tJ⟩, hgg⟩
  rw [hgg]
  by_cases hgt : i2 > j2
  ·rw [if_pos hgt] at hres2
   have hgti : j2 < i2 := hgt
   simp [tI, tJ, hgti]
   obtain ⟨cs, xv, yv, hx, hy, hcs, ax, ay, ip, iq, dd, st1, st2⟩ := zb7 (g := g0) (j := j) (p := j2) (q := a) hgj hd' (by omega) (by omega)
   refine zar ?_
   simp [-zaI, t0, t1, tJ, ip, iq, hcs, ax, ay, st1, st2]
   have e1 : res.1 = j2 := by rw [hres2]
   have e2 : res.2 = d' := by rw [hres2]
   rw [e1, e2] at q
   rw [hg0, H.set_set]
   exact q _
  ·rw [if_neg hgt] at hres2
   have hgti : ¬ j2 < i2 := by omega
   have hlt2 := hij2 (by omega)
   obtain ⟨cs, xv, yv, hx, hy, hcs, ax, ay, ip, iq, dd, st1, st2⟩ := zb7 (g := g0) (j := j) (p := i2) (q := j2) hgj hd' (by omega) (by omega)
   have wi : IntKind.i64.wrap ((i2 : Int) + 1) = ((i2 + 1 : Nat) : Int) := w64 (by omega) (by omega)
   have wj : IntKind.i64.wrap ((j2 : Int) - 1) = ((j2 - 1 : Nat) : Int) := w64 (by omega) (by omega)
   simp [tI, tJ, hgti]
   refine zar ?_
   simp [-zaI, t0, tI, tJ, ip, iq, hcs, ax, ay, st1, st2, wi, wj]
   refine hK _ _ (by omega) ⟨i2 + 1, j2 - 1, swp d' i2 j2, by simp [t0, t1], by rw [hg0, H.set_set], by rw [size_swp, hd'], by omega, by omega, by omega, by omega, hres2⟩
end Go.Am

namespace Go.Am
open Go.Proofs
open Go.Sort (swp PermIn size_swp scanSorted shiftDown shiftUp partialIns partialInsertionSort fixDown fixUp)

set_option maxRecDepth 100000
theorem zjF (d : Array Nat) (b i : Nat) : i ≤ b -> i ≤ scanSorted lt32 d b i ∧ scanSorted lt32 d b i ≤ b := by
 fun_induction scanSorted lt32 d b i with
 | case1 i h ih => intro hi; simp only [Bool.and_eq_true, decide_eq_true_eq] at h; have := ih (by omega); omega
 | case2 i h => intro hi; omega
theorem zkA : ∀ (j : Nat) (d : Array Nat), (shiftDown lt32 j d).size = d.size
 | 0, d => rfl
 | j + 1, d => by
  rw [shiftDown]
  split
  ·rfl
  ·rw [zkA j, size_swp]
theorem zko (b : Nat) : ∀ (k j : Nat) (d : Array Nat), b - j = k -> (shiftUp lt32 b j d).size = d.size
 | 0, j, d, h => by rw [shiftUp, if_neg (by omega)]
 | k + 1, j, d, h => by
  rw [shiftUp, if_pos (by omega)]
  split
  ·rfl
  ·rw [zko b k (j + 1) _ (by omega), size_swp]
theorem zod (a i : Nat) (d : Array Nat) : (fixDown lt32 a i d).size = d.size := by unfold fixDown; split; exact zkA _ _; rfl
theorem znn (b i : Nat) (d : Array Nat) : (fixUp lt32 b i d).size = d.size := by unfold fixUp; split; exact zko b _ _ _ rfl; rfl
theorem znf {h : H} {j n a b : Nat} {d : Array Nat} (hg : h.get j = some (R d)) (hn : d.size = n) (hb : b ≤ n) (hab : a < b) (hN : n ≤ 900000) {Q : V -> H -> Prop} (q : Q (.bool (partialInsertionSort lt32 d a b).2) (h.set j (R (partialInsertionSort lt32 d a b).1))) :
  Acalls Tryz.prog 91 [.sl j n 0 n none, .int .i64 (a : Nat), .int .i64 (b : Nat)] h Q := by
 refine zam Tryz.func91 S.a67c S.a67e (Nat.le_of_ble_eq_true rfl) fun wf => ?_; simp only [S.a67]
 obtain ⟨res, hres⟩ : ∃ res, res = partialInsertionSort lt32 d a b := ⟨_, rfl⟩
 rw [<- hres] at q
 unfold partialInsertionSort at hres
 have wa : IntKind.i64.wrap ((a : Int) + 1) = ((a + 1 : Nat) : Int) := w64 (by omega) (by omega)
 have wba : IntKind.i64.wrap ((b : Int) - (a : Int)) = ((b - a : Nat) : Int) := w64 (by omega) (by omega)
 obtain ⟨ba, hba⟩ : ∃ ba, ba = b - a := ⟨_, rfl⟩
 rw [<- hba] at wba
 simp [wa]
 refine zap (fun m t g => ∃ i d', (t 0 = .sl j n 0 n none ∧ t 1 = .int .i64 (a : Nat) ∧ t 2 = .int .i64 (b : Nat) ∧ t 7 = .int .i64 (i : Nat) ∧ t 8 = .int .i64 (m : Nat)) ∧ g = h.set j (R d') ∧ d'.size = n ∧ a + 1 ≤ i ∧ i ≤ b ∧ res = partialIns lt32 a b (5 - m) i d') 5 ⟨a + 1, d, by simp, zfK hg, hn, by omega, by omega, hres⟩ ?_
 rintro m t g hm ⟨i, d', ⟨t0, t1, t2, t7, t8⟩, hgg, hd', hai, hib, hr⟩ K hK
 by_cases hm5 : m < 5
 ·have hmI : (m : Int) < 5 := by omega
  have wm : IntKind.i64.wrap ((m : Int) + 1) = ((m + 1 : Nat) : Int) := w64 (by omega) (by omega)
  obtain ⟨s, hs⟩ : ∃ s, 5 - m = s + 1 := ⟨4 - m, by omega⟩
  rw [hs, Go.Sort.partialIns_succ] at hr
  obtain ⟨i2, hi2⟩ : ∃ i2, i2 = scanSorted lt32 d' b i := ⟨_, rfl⟩
  have hbd := zjF d' b i hib
  rw [<- hi2] at hr hbd
  obtain ⟨g0, hg0⟩ : ∃ g0, g0 = h.set j (R d') := ⟨_, rfl⟩
  have hgj : g0.get j = some (R d') := by rw [hg0]; simp
  rw [hgg, <- hg0]
  simp [t8, hmI]
  refine zbm (id := 2) (fun t g => (t 0 = .sl j n 0 n none ∧ t 1 = .int .i64 (a : Nat) ∧ t 2 = .int .i64 (b : Nat) ∧ t 7 = .int .i64 (i2 : Nat) ∧ t 8 = .int .i64 (m : Nat)) ∧ g = g0) (fun R1 hR1 => ?_) ?_
  ·refine zap (fun k t g => ∃ x, x = i + k ∧ x ≤ b ∧ (t 0 = .sl j n 0 n none ∧ t 1 = .int .i64 (a : Nat) ∧ t 2 = .int .i64 (b : Nat) ∧ t 7 = .int .i64 (x : Nat) ∧ t 8 = .int .i64 (m : Nat)) ∧ g = g0 ∧ i2 = scanSorted lt32 d' b x) b ⟨i, by omega, hib, by simp [t0, t1, t2, t7, t8], rfl, hi2⟩ ?_
   rintro k t g hk ⟨x, hxk, hxb, ⟨u0, u1, u2, u7, u8⟩, hgx, hsx⟩ K1 hK1
   rw [scanSorted] at hsx
   rw [hgx]
   simp
   refine zar ?_
   by_cases hlt : x < b
   ·obtain ⟨cs, xv, yv, hx, hy, hcs, ax, ay, ip, iq, _⟩ := zb7 (g := g0) (j := j) (p := x) (q := x - 1) hgj hd' (by omega) (by omega)
    have wx : IntKind.i64.wrap ((x : Int) - 1) = ((x - 1 : Nat) : Int) := w64 (by omega) (by omega)
    have wx2 : IntKind.i64.wrap ((x : Int) + 1) = ((x + 1 : Nat) : Int) := w64 (by omega) (by omega)
    rw [decide_eq_true hlt, Bool.true_and, <- hx, <- hy] at hsx
    simp [u0, u2, u7, hlt, wx, ip, iq, hcs, ax, ay]
    refine za6 (za2 (a := xv) (b := yv)) ?_
    cases hl : lt32 xv yv with
    | false =>
     rw [hl] at hsx
     simp at hsx
     simp [u7, wx2]
     exact hK1 _ _ (by omega) ⟨x + 1, by omega, by omega, by simp [u0, u1, u2, u8], rfl, hsx⟩
    | true =>
     rw [hl] at hsx
     simp at hsx
     simp
     exact hR1 _ _ ⟨by simp [u0, u1, u2, u7, u8, hsx], rfl⟩
   ·rw [decide_eq_false hlt, Bool.false_and] at hsx
    simp at hsx
    simp [u2, u7, hlt]
    exact hR1 _ _ ⟨by simp [u0, u1, u2, u7, u8, hsx], rfl⟩
  clear t0 t1 t2 t7 t8
  rintro t g ⟨⟨t0, t1, t2, t7, t8⟩, hgx⟩
  rw [hgx]
  by_cases hib2 : i2 = b
  ·rw [if_pos hib2] at hr
   have be : ((i2 : Int) == (b : Int)) = true := beq_iff_eq.2 (by omega)
   have e1 : res.1 = d' := by rw [hr]
   have e2 : res.2 = true := by rw [hr]
   rw [e1, e2, <- hg0] at q
   simp [t2, t7, be]
   exact q
  ·rw [if_neg hib2] at hr
   have be : ((i2 : Int) == (b : Int)) = false := beq_eq_false_iff_ne.2 (by omega)
   by_cases h50 : b - a < 50
   ·rw [if_pos h50] at hr
    have h50I : (ba : Int) < 50 := by omega
    have e1 : res.1 = d' := by rw [hr]
    have e2 : res.2 = false := by rw [hr]
    rw [e1, e2, <- hg0] at q
    simp [t1, t2, t7, be, wba, h50I]
    exact q
   ·rw [if_neg h50] at hr
    have h50I : ¬ (ba : Int) < 50 := by omega
    have hi1 : 1 ≤ i2 := by omega
    obtain ⟨cs, xv, yv, hx, hy, hcs, ax, ay, ip, iq, dd, st1, st2⟩ := zb7 (g := g0) (j := j) (p := i2) (q := i2 - 1) hgj hd' (by omega) (by omega)
    have wi : IntKind.i64.wrap ((i2 : Int) - 1) = ((i2 - 1 : Nat) : Int) := w64 (by omega) (by omega)
    have wia : IntKind.i64.wrap ((i2 : Int) - (a : Int)) = ((i2 - a : Nat) : Int) := w64 (by omega) (by omega)
    have wbi : IntKind.i64.wrap ((b : Int) - (i2 : Int)) = ((b - i2 : Nat) : Int) := w64 (by omega) (by omega)
    have wi1 : IntKind.i64.wrap ((i2 : Int) + 1) = ((i2 + 1 : Nat) : Int) := w64 (by omega) (by omega)
    simp [t1, t2, t7, be, wba, h50I]
    refine zar ?_
    simp [-zaI, t0, t1, t7, ip, iq, hcs, ax, ay, st1, st2, wi, wia]
    obtain ⟨d1, hd1⟩ : ∃ d1, d1 = swp d' i2 (i2 - 1) := ⟨_, rfl⟩
    have hd1s : d1.size = n := by rw [hd1, size_swp, hd']
    rw [<- hd1] at hr ⊢
    rw [hg0, H.set_set]
    obtain ⟨d2, hd2⟩ : ∃ d2, d2 = fixDown lt32 a i2 d1 := ⟨_, rfl⟩
    have hd2s : d2.size = n := by rw [hd2, zod, hd1s]
    obtain ⟨d3, hd3⟩ : ∃ d3, d3 = fixUp lt32 b i2 d2 := ⟨_, rfl⟩
    have hd3s : d3.size = n := by rw [hd3, znn, hd2s]
    rw [<- hd2, <- hd3] at hr
    clear hcs ax ay ip iq st1 st2 hgj hg0 hx hy
    refine zcO (fun t g => (t 0 = .sl j n 0 n none ∧ t 1 = .int .i64 (a : Nat) ∧ t 2 = .int .i64 (b : Nat) ∧ t 7 = .int .i64 (i2 : Nat) ∧ t 8 = .int .i64 (m : Nat)) ∧ g = h.set j (R d2)) (fun e R1 hR1 => ?_) (fun e R1 hR1 => ?_) ?_
    ·have e2 : 2 ≤ i2 - a := by have := of_decide_eq_true e; omega
     have hfd : d2 = shiftDown lt32 (i2 - 1) d1 := by rw [hd2]; unfold fixDown; rw [if_pos (by omega)]
     simp [t7, wi]
     refine zbm (id := 4) (fun t g => (t 0 = .sl j n 0 n none ∧ t 1 = .int .i64 (a : Nat) ∧ t 2 = .int .i64 (b : Nat) ∧ t 7 = .int .i64 (i2 : Nat) ∧ t 8 = .int .i64 (m : Nat)) ∧ g = h.set j (R d2)) (fun R2 hR2 => ?_) (fun t g hh => hR1 _ _ hh)
     refine zap (fun k t g => ∃ x dx, x + k = i2 - 1 ∧ (t 0 = .sl j n 0 n none ∧ t 1 = .int .i64 (a : Nat) ∧ t 2 = .int .i64 (b : Nat) ∧ t 7 = .int .i64 (i2 : Nat) ∧ t 8 = .int .i64 (m : Nat) ∧ t 9 = .int .i64 (x : Nat)) ∧ g = h.set j (R dx) ∧ dx.size = n ∧ d2 = shiftDown lt32 x dx) (i2 - 1) ⟨i2 - 1, d1, by omega, by simp [t0, t1, t2, t7, t8], rfl, hd1s, hfd⟩ ?_
     rintro k t g hk ⟨x, dx, hxk, ⟨u0, u1, u2, u7, u8, u9⟩, hgx, hdx, hsx⟩ K1 hK1
     rw [hgx]
     by_cases hx1 : 1 ≤ x
     ·obtain ⟨p, hp⟩ : ∃ p, x = p + 1 := ⟨x - 1, by omega⟩
      have hx1I : (1 : Int) ≤ x := by omega
      obtain ⟨cs, xv, yv, hx, hy, hcs, ax, ay, ip, iq, dd, st1, st2⟩ := zb7 (g := h.set j (R dx)) (j := j) (p := x) (q := p) (by simp) hdx (by omega) (by omega)
      have wx : IntKind.i64.wrap ((x : Int) - 1) = (p : Int) := w64 (by omega) (by omega)
      rw [hp, shiftDown, <- hp, <- hx, <- hy] at hsx
      obtain ⟨gx, hgx2⟩ : ∃ gx, gx = h.set j (R dx) := ⟨_, rfl⟩
      rw [<- hgx2] at hcs st1 st2 ⊢
      simp [u9, hx1I]
      refine zar ?_
      simp [u0, u9, wx, ip, iq, hcs, ax, ay]
      refine za6 (za2 (a := xv) (b := yv)) ?_
      cases hl : lt32 xv yv with
      | false =>
       rw [hl] at hsx
       simp at hsx
       simp
       refine hR2 _ _ ⟨by simp [u0, u1, u2, u7, u8], by rw [hgx2, hsx]⟩
      | true =>
       rw [hl] at hsx
       simp at hsx
       simp
       refine zar ?_
       simp [-zaI, u0, u9, wx, ip, iq, hcs, ax, ay, st1, st2]
       refine hK1 _ _ (by omega) ⟨p, swp dx x p, by omega, by simp [u0, u1, u2, u7, u8], by rw [hgx2, H.set_set], by rw [size_swp, hdx], hsx⟩
     ·have hx0 : x = 0 := by omega
      subst hx0
      simp [u9]
      exact hR2 _ _ ⟨by simp [u0, u1, u2, u7, u8], by rw [hsx]; rfl⟩
    ·have e2 : ¬ 2 ≤ i2 - a := by have := of_decide_eq_false e; omega
     have hfd : d2 = d1 := by rw [hd2]; unfold fixDown; rw [if_neg (by omega)]
     simp
     refine hR1 _ _ ⟨?_, by rw [hfd]⟩
     simp [t0, t1, t2, t7, t8]
    clear t0 t1 t2 t7 t8
    rintro t g ⟨⟨t0, t1, t2, t7, t8⟩, hgx⟩
    rw [hgx]
    simp [t2, t7, wbi]
    refine zcO (fun t g => (t 0 = .sl j n 0 n none ∧ t 1 = .int .i64 (a : Nat) ∧ t 2 = .int .i64 (b : Nat) ∧ t 7 = .int .i64 (i2 : Nat) ∧ t 8 = .int .i64 (m : Nat)) ∧ g = h.set j (R d3)) (fun e R1 hR1 => ?_) (fun e R1 hR1 => ?_) ?_
    ·have e2 : 2 ≤ b - i2 := by have := of_decide_eq_true e; omega
     have hfu : d3 = shiftUp lt32 b (i2 + 1) d2 := by rw [hd3]; unfold fixUp; rw [if_pos (by omega)]
     simp [t7, wi1]
     refine zbm (id := 6) (fun t g => (t 0 = .sl j n 0 n none ∧ t 1 = .int .i64 (a : Nat) ∧ t 2 = .int .i64 (b : Nat) ∧ t 7 = .int .i64 (i2 : Nat) ∧ t 8 = .int .i64 (m : Nat)) ∧ g = h.set j (R d3)) (fun R2 hR2 => ?_) (fun t g hh => hR1 _ _ hh)
     refine zap (fun k t g => ∃ x dx, x = i2 + 1 + k ∧ (t 0 = .sl j n 0 n none ∧ t 1 = .int .i64 (a : Nat) ∧ t 2 = .int .i64 (b : Nat) ∧ t 7 = .int .i64 (i2 : Nat) ∧ t 8 = .int .i64 (m : Nat) ∧ t 10 = .int .i64 (x : Nat)) ∧ g = h.set j (R dx) ∧ dx.size = n ∧ d3 = shiftUp lt32 b x dx) b ⟨i2 + 1, d2, by omega, by simp [t0, t1, t2, t7, t8], rfl, hd2s, hfu⟩ ?_
     rintro k t g hk ⟨x, dx, hxk, ⟨u0, u1, u2, u7, u8, u10⟩, hgx, hdx, hsx⟩ K1 hK1
     rw [hgx]
     rw [shiftUp] at hsx
     by_cases hxb : x < b
     ·obtain ⟨cs, xv, yv, hx, hy, hcs, ax, ay, ip, iq, dd, st1, st2⟩ := zb7 (g := h.set j (R dx)) (j := j) (p := x) (q := x - 1) (by simp) hdx (by omega) (by omega)
      have wx : IntKind.i64.wrap ((x : Int) - 1) = ((x - 1 : Nat) : Int) := w64 (by omega) (by omega)
      have wx1 : IntKind.i64.wrap ((x : Int) + 1) = ((x + 1 : Nat) : Int) := w64 (by omega) (by omega)
      rw [if_pos hxb, <- hx, <- hy] at hsx
      obtain ⟨gx, hgx2⟩ : ∃ gx, gx = h.set j (R dx) := ⟨_, rfl⟩
      rw [<- hgx2] at hcs st1 st2 ⊢
      simp [u2, u10, hxb]
      refine zar ?_
      simp [u0, u10, wx, ip, iq, hcs, ax, ay]
      refine za6 (za2 (a := xv) (b := yv)) ?_
      cases hl : lt32 xv yv with
      | false =>
       rw [hl] at hsx
       simp at hsx
       simp
       refine hR2 _ _ ⟨by simp [u0, u1, u2, u7, u8], by rw [hgx2, hsx]⟩
      | true =>
       rw [hl] at hsx
       simp at hsx
       simp
       refine zar ?_
       simp [-zaI, u0, u10, wx, wx1, ip, iq, hcs, ax, ay, st1, st2]
       refine hK1 _ _ (by omega) ⟨x + 1, swp dx x (x - 1), by omega, by simp [u0, u1, u2, u7, u8], by rw [hgx2, H.set_set], by rw [size_swp, hdx], hsx⟩
     ·rw [if_neg hxb] at hsx
      simp [u2, u10, hxb]
      exact hR2 _ _ ⟨by simp [u0, u1, u2, u7, u8], by rw [hsx]⟩
    ·have e2 : ¬ 2 ≤ b - i2 := by have := of_decide_eq_false e; omega
     have hfu : d3 = d2 := by rw [hd3]; unfold fixUp; rw [if_neg (by omega)]
     simp
     refine hR1 _ _ ⟨?_, by rw [hfu]⟩
     simp [t0, t1, t2, t7, t8]
    clear t0 t1 t2 t7 t8
    rintro t g ⟨⟨t0, t1, t2, t7, t8⟩, hgx⟩
    rw [hgx]
    simp [t8, wm]
    refine hK _ _ hm5 ⟨i2, d3, by simp [t0, t1, t2, t7], rfl, hd3s, by omega, by omega, ?_⟩
    rw [hr, show 5 - (m + 1) = s by omega]
 ·have hm5' : m = 5 := by omega
  subst hm5'
  have e : res = (d', false) := hr
  rw [e] at q
  simp [t8]
  rw [hgg]
  exact q
end Go.Am

namespace Go.Am
open Go.Proofs
open Go.Sort (swp PermIn SortedIn permIn_trans permIn_refl size_swp round_eq round_part)

set_option maxRecDepth 100000
theorem zkp {P : Program} {Q : Exit -> Tm -> H -> Prop} {a b : C} {t : Tm} {h : H} {c : Bool} (J : Tm -> H -> Prop) (ha : c = true -> ∀ R : Exit -> Tm -> H -> Prop, (∀ t' h', J t' h' -> R .normal t' h') -> (∀ t' h', Q .ret t' h' -> R .ret t' h') -> Cwp P a R t h)
  (hb : c = false -> ∀ R : Exit -> Tm -> H -> Prop, (∀ t' h', J t' h' -> R .normal t' h') -> (∀ t' h', Q .ret t' h' -> R .ret t' h') -> Cwp P b R t h) (k : ∀ t' h', J t' h' -> Q .normal t' h') : zgT P Q a b t h (.bool c) :=
 zfL (fun e => ha e Q k (fun _ _ h => h)) (fun e => hb e Q k (fun _ _ h => h))
theorem zld {P : Program} {K : Tm -> H -> Prop} {ops : List SI} {t : Tm} {h : H} (J : Tm -> H -> Prop) (ha : ∀ K' : Tm -> H -> Prop, (∀ t' h', J t' h' -> K' t' h') -> Owp P K' ops t h) (k : ∀ t' h', J t' h' -> K t' h') : Owp P K ops t h := ha K k
theorem zqy : ∀ (N : Nat) {h : H} {j n a b lim0 : Nat} {d : Array Nat}, b - a < N -> h.get j = some (R d) -> d.size = n -> b ≤ n -> a ≤ b -> n ≤ 900000 -> Go.Sort.Below lt32 a b d -> lim0 ≤ 64 -> ∀ {Q : V -> H -> Prop}, (∀ d', PermIn a b d d' -> SortedIn lt32 a b d' -> Q (.tup []) (h.set j (R d'))) ->
  Acalls Tryz.prog 53 [.sl j n 0 n none, .int .i64 (a : Nat), .int .i64 (b : Nat), .int .i64 (lim0 : Nat)] h Q := by
 intro N
 induction N with
 | zero => intro h j n a b lim0 d hNb; omega
 | succ N ih =>
  intro h j n a b lim0 d hNb hg hn hb hab hn9 hB hlim Q q
  refine zam Tryz.func53 S.a36c S.a36e (Nat.le_of_ble_eq_true rfl) fun wf => ?_; simp only [S.a36]
  simp
  refine zap (fun m t g => ∃ (a' b' lim : Nat) (wb wp : Bool) (d' : Array Nat), (t 0 = .sl j n 0 n none ∧ t 1 = .int .i64 (a' : Nat) ∧ t 2 = .int .i64 (b' : Nat) ∧ t 3 = .int .i64 (lim : Nat) ∧ t 8 = .bool wb ∧ t 9 = .bool wp) ∧ g = h.set j (R d') ∧ d'.size = n ∧ a' ≤ b' ∧ b' ≤ n ∧ lim ≤ 64 ∧ Go.Sort.Below lt32 a' b' d' ∧ b' - a' + m ≤ b - a ∧ (∀ d'', PermIn a' b' d' d'' -> SortedIn lt32 a' b' d'' -> PermIn a b d d'' ∧ SortedIn lt32 a b d'')) (b - a) ⟨a, b, lim0, true, true, d, by simp, zfK hg, hn, hab, hb, hlim, hB, by omega, fun d'' h1 h2 => ⟨h1, h2⟩⟩ ?_
  rintro m t g hm ⟨a', b', lim, wb, wp, d', ⟨t0, t1, t2, t3, t8, t9⟩, hgg, hd', hab', hbn, hliml, hB', hmm, hfin⟩ K hK
  obtain ⟨len, hlen⟩ : ∃ len, len = b' - a' := ⟨_, rfl⟩
  have wl : IntKind.i64.wrap ((b' : Int) - (a' : Int)) = (len : Int) := w64 (by omega) (by omega)
  have hgj : g.get j = some (R d') := by rw [hgg]; simp
  by_cases h12 : len ≤ 12
  ·have h12I : (len : Int) ≤ 12 := by omega
   simp [t0, t1, t2, wl, h12I]
   refine zqg (n := n) (d := d') hgj hd' hbn hab' (by omega) ?_
   simp
   obtain ⟨p1, p2⟩ := Go.Sort.insertionSort_holds (lt := lt32) zkf d' a' b' hab' (by omega)
   obtain ⟨r1, r2⟩ := hfin _ p1 p2
   rw [hgg, H.set_set]
   exact q _ r1 r2
  have h12I : ¬ (len : Int) ≤ 12 := by omega
  by_cases hl0 : lim = 0
  ·have bl : ((lim : Int) == 0) = true := beq_iff_eq.2 (by omega)
   simp [t0, t1, t2, t3, wl, h12I, bl]
   refine zn7 (n := n) (d := d') hgj hd' hbn (by omega) (by omega) ?_
   simp
   obtain ⟨p1, p2⟩ := Go.Sort.heapSort_holds (lt := lt32) zkf d' a' b' hab' (by omega)
   obtain ⟨r1, r2⟩ := hfin _ p1 p2
   rw [hgg, H.set_set]
   exact q _ r1 r2
  have bl : ((lim : Int) == 0) = false := beq_eq_false_iff_ne.2 (by omega)
  have wlim : IntKind.i64.wrap ((lim : Int) - 1) = ((lim - 1 : Nat) : Int) := w64 (by omega) (by omega)
  simp [t1, t2, t3, t8, wl, h12I, bl]
  refine zcO (fun t g => ∃ (lim' : Nat) (d1 : Array Nat), (t 0 = .sl j n 0 n none ∧ t 1 = .int .i64 (a' : Nat) ∧ t 2 = .int .i64 (b' : Nat) ∧ t 3 = .int .i64 (lim' : Nat) ∧ t 8 = .bool wb ∧ t 9 = .bool wp ∧ t 10 = .int .i64 (len : Nat)) ∧ lim' ≤ 64 ∧ PermIn a' b' d' d1 ∧ g = h.set j (R d1)) (fun e RR hR => ?_) (fun e RR hR => ?_) ?_
  ·simp [t0, t1, t2]
   refine zlr (n := n) (d := d') hgj hd' hbn (by omega) hn9 fun d1 hp => ?_
   simp [t3, wlim]
   refine hR _ _ ⟨lim - 1, d1, ?_, by omega, hp, by rw [hgg, H.set_set]⟩
   simp [t0, t1, t2, t8, t9]
  ·simp
   refine hR _ _ ⟨lim, d', ?_, hliml, permIn_refl _ _ _, hgg⟩
   simp [t0, t1, t2, t3, t8, t9]
  clear t0 t1 t2 t3 t8 t9 hgj
  rintro t g1 ⟨lim', d1, ⟨t0, t1, t2, t3, t8, t9, t10⟩, hll, hp1, hg1⟩
  have hs1 : d1.size = n := by rw [hp1.1, hd']
  simp [t0, t1, t2]
  refine zlA (n := n) (d := d1) (by rw [hg1]; simp) hs1 hbn (by omega) (by omega) fun p k hpa hpb hk => ?_
  simp
  have wb1 : IntKind.i64.wrap ((b' : Int) - 1) = ((b' - 1 : Nat) : Int) := w64 (by omega) (by omega)
  have wpa : IntKind.i64.wrap ((p : Int) - (a' : Int)) = ((p - a' : Nat) : Int) := w64 (by omega) (by omega)
  have wp2 : IntKind.i64.wrap (((b' - 1 : Nat) : Int) - ((p - a' : Nat) : Int)) = (((b' - 1) - (p - a') : Nat) : Int) := w64 (by omega) (by omega)
  obtain ⟨x1, ex1⟩ : ∃ x, x = b' - 1 := ⟨_, rfl⟩
  obtain ⟨x2, ex2⟩ : ∃ x, x = p - a' := ⟨_, rfl⟩
  rw [<- ex1] at wb1 wp2
  rw [<- ex2] at wpa wp2
  refine zcO (fun t g => ∃ (p2 k2 : Nat) (d2 : Array Nat), (t 0 = .sl j n 0 n none ∧ t 1 = .int .i64 (a' : Nat) ∧ t 2 = .int .i64 (b' : Nat) ∧ t 3 = .int .i64 (lim' : Nat) ∧ t 8 = .bool wb ∧ t 9 = .bool wp ∧ t 10 = .int .i64 (len : Nat) ∧ t 11 = .int .i64 (p2 : Nat) ∧ t 12 = .int .i64 (k2 : Nat)) ∧ a' ≤ p2 ∧ p2 < b' ∧ PermIn a' b' d1 d2 ∧ g = h.set j (R d2)) (fun e RR hR => ?_) (fun e RR hR => ?_) ?_
  ·simp [t0, t1, t2]
   refine zpR (n := n) (d := d1) (by rw [hg1]; simp) hs1 hbn (by omega) (by omega) fun d2 hp => ?_
   simp [t1, t2, wb1, wpa, wp2]
   refine hR _ _ ⟨x1 - x2, 1, d2, ?_, by omega, by omega, hp, by rw [hg1, H.set_set]⟩
   simp [t0, t1, t2, t3, t8, t9, t10]
  ·simp
   refine hR _ _ ⟨p, k, d1, ?_, hpa, hpb, permIn_refl _ _ _, hg1⟩
   simp [t0, t1, t2, t3, t8, t9, t10]
  clear t0 t1 t2 t3 t8 t9 t10 wb1 wpa wp2 ex1 ex2 hpa hpb hk
  rintro t g2 ⟨p2, k2, d2, ⟨t0, t1, t2, t3, t8, t9, t10, t11, t12⟩, hpa, hpb, hp2, hg2⟩
  have hs2 : d2.size = n := by rw [hp2.1, hs1]
  simp only [zgB, znu, zou]
  refine zld (fun t g => ∃ x : Bool, (t 0 = .sl j n 0 n none ∧ t 1 = .int .i64 (a' : Nat) ∧ t 2 = .int .i64 (b' : Nat) ∧ t 3 = .int .i64 (lim' : Nat) ∧ t 8 = .bool wb ∧ t 9 = .bool wp ∧ t 10 = .int .i64 (len : Nat) ∧ t 11 = .int .i64 (p2 : Nat) ∧ t 68 = .bool x) ∧ g = g2) (fun K' hK' => ?_) ?_
  ·cases wb with
   | true =>
    cases wp with
    | true =>
     simp [t8, t9, t12]
     exact hK' _ _ ⟨((k2 : Int) == 1), by simp [t0, t1, t2, t3, t8, t9, t10, t11], rfl⟩
    | false =>
     simp [t8, t9]
     exact hK' _ _ ⟨false, by simp [t0, t1, t2, t3, t8, t9, t10, t11], rfl⟩
   | false =>
    simp [t8]
    exact hK' _ _ ⟨false, by simp [t0, t1, t2, t3, t8, t9, t10, t11], rfl⟩
  clear t0 t1 t2 t3 t8 t9 t10 t11 t12
  rintro t g ⟨x, ⟨t0, t1, t2, t3, t8, t9, t10, t11, t68⟩, rfl⟩
  simp [t68]
  have hP12 : PermIn a' b' d' d2 := permIn_trans _ _ _ a' b' hp1 hp2
  have hB2 : Go.Sort.Below lt32 a' b' d2 := hB'.perm (by omega) hP12
  refine zkp (fun t g' => ∃ d3 : Array Nat, (t 0 = .sl j n 0 n none ∧ t 1 = .int .i64 (a' : Nat) ∧ t 2 = .int .i64 (b' : Nat) ∧ t 3 = .int .i64 (lim' : Nat) ∧ t 8 = .bool wb ∧ t 9 = .bool wp ∧ t 10 = .int .i64 (len : Nat) ∧ t 11 = .int .i64 (p2 : Nat)) ∧ PermIn a' b' d2 d3 ∧ g' = h.set j (R d3)) (fun e RR hR hRet => ?_) (fun e RR hR hRet => ?_) ?_
  ·simp [t0, t1, t2]
   refine znf (n := n) (d := d2) (by rw [hg2]; simp) hs2 hbn (by omega) hn9 ?_
   obtain ⟨s1, s2⟩ := Go.Sort.partialInsertionSort_holds (lt := lt32) zkf d2 a' b' (by omega) (by omega) hB2
   obtain ⟨pr, hpr⟩ : ∃ pr, pr = Go.Sort.partialInsertionSort lt32 d2 a' b' := ⟨_, rfl⟩
   rw [<- hpr] at s1 s2 ⊢
   cases hx : pr.2 with
   | true =>
    simp
    refine hRet _ _ ?_
    simp
    obtain ⟨r1, r2⟩ := hfin _ (permIn_trans _ _ _ a' b' hP12 s1) (s2 hx)
    rw [hg2, H.set_set]
    exact q _ r1 r2
   | false =>
    simp
    refine hR _ _ ⟨pr.1, ?_, s1, by rw [hg2, H.set_set]⟩
    simp [t0, t1, t2, t3, t8, t9, t10, t11]
  ·simp
   exact hR _ _ ⟨d2, by simp [t0, t1, t2, t3, t8, t9, t10, t11], permIn_refl _ _ _, hg2⟩
  clear t0 t1 t2 t3 t8 t9 t10 t11 t68
  rintro t g3 ⟨d3, ⟨t0, t1, t2, t3, t8, t9, t10, t11⟩, hp3, hg3⟩
  have hs3 : d3.size = n := by rw [hp3.1, hs2]
  have hP3 : PermIn a' b' d' d3 := permIn_trans _ _ _ a' b' hP12 hp3
  have hB3 : Go.Sort.Below lt32 a' b' d3 := hB2.perm (by omega) hp3
  have hgj3 : g3.get j = some (R d3) := by rw [hg3]; simp
  simp
  refine zar ?_
  refine ziu (fun t g => ∃ x : Bool, (t 0 = .sl j n 0 n none ∧ t 1 = .int .i64 (a' : Nat) ∧ t 2 = .int .i64 (b' : Nat) ∧ t 3 = .int .i64 (lim' : Nat) ∧ t 8 = .bool wb ∧ t 9 = .bool wp ∧ t 10 = .int .i64 (len : Nat) ∧ t 11 = .int .i64 (p2 : Nat) ∧ t 87 = .bool x) ∧ g = g3 ∧ (x = true -> 0 < a' ∧ lt32 d3[a' - 1]! d3[p2]! = false)) (fun K' hK' => ?_) ?_
  ·by_cases ha0 : 0 < a'
   ·obtain ⟨cs, xv, yv, hx, hy, hcs, ax, ay, ip, iq, _⟩ := zb7 (g := g3) (j := j) (p := a' - 1) (q := p2) hgj3 hs3 (by omega) (by omega)
    have wa1 : IntKind.i64.wrap ((a' : Int) - 1) = ((a' - 1 : Nat) : Int) := w64 (by omega) (by omega)
    simp [t0, t1, t11, ha0, wa1, ip, iq, hcs, ax, ay]
    refine za6 (za2 (a := xv) (b := yv)) ?_
    simp
    exact hK' _ _ ⟨!lt32 xv yv, by simp [t0, t1, t2, t3, t8, t9, t10, t11], rfl, fun e => ⟨ha0, by rw [<- hx, <- hy]; simpa using e⟩⟩
   ·have ha0' : a' = 0 := by omega
    simp [t1, ha0']
    exact hK' _ _ ⟨false, by simp [t0, t1, t2, t3, t8, t9, t10, t11, ha0'], rfl, fun e => by cases e⟩
  clear t0 t1 t2 t3 t8 t9 t10 t11
  rintro t g ⟨x, ⟨t0, t1, t2, t3, t8, t9, t10, t11, t87⟩, rfl, hx⟩
  cases x with
  | true =>
   obtain ⟨ha0, hnl⟩ := hx rfl
   simp [t0, t1, t2, t11, t87]
   refine zj0 (n := n) (d := d3) hgj3 hs3 hbn hpa hpb (by omega) hn9 ?_
   obtain ⟨pr, hpr⟩ : ∃ pr, pr = Go.Sort.partitionEqual lt32 d3 a' b' p2 := ⟨_, rfl⟩
   rw [<- hpr]
   obtain ⟨mid, d4⟩ := pr
   obtain ⟨e1, e2, e3, e4, e5⟩ := round_eq zkf (Go.Sort.partitionEqual_holds lt32) ha0 hpa hpb (by omega) hB3 hnl hpr.symm
   simp
   refine hK _ _ (by omega) ⟨mid, b', lim', wb, wp, d4, ?_, by rw [hg3, H.set_set], by rw [e3, hs3], e2, hbn, hll, e4, by omega, fun R' h1 h2 => ?_⟩
   ·simp [t0, t2, t3, t8, t9]
   ·obtain ⟨f1, f2⟩ := e5 R' h1 h2
    exact hfin _ (permIn_trans _ _ _ a' b' hP3 f1) f2
  | false =>
   simp [t0, t1, t2, t11, t87]
   refine zog (n := n) (d := d3) hgj3 hs3 hbn hpa hpb (by omega) hn9 fun ap => ?_
   obtain ⟨pr, hpr⟩ : ∃ pr, pr = Go.Sort.partition lt32 d3 a' b' p2 := ⟨_, rfl⟩
   rw [<- hpr]
   obtain ⟨mid, ap0, d4⟩ := pr
   obtain ⟨e1, e2, e3, e4, e5, e6, e7⟩ := round_part zkf (Go.Sort.partition_holds lt32) hpa hpb (by omega) hB3 hpr.symm
   have hs4 : d4.size = n := by rw [e3, hs3]
   have wl1 : IntKind.i64.wrap ((mid : Int) - (a' : Int)) = ((mid - a' : Nat) : Int) := w64 (by omega) (by omega)
   have wr1 : IntKind.i64.wrap ((b' : Int) - (mid : Int)) = ((b' - mid : Nat) : Int) := w64 (by omega) (by omega)
   have wm1 : IntKind.i64.wrap ((mid : Int) + 1) = ((mid + 1 : Nat) : Int) := w64 (by omega) (by omega)
   obtain ⟨l8, hl8⟩ : ∃ l8, l8 = len / 8 := ⟨_, rfl⟩
   have q8 : intV .quo .i64 (len : Int) 8 = some (.int .i64 (l8 : Int)) := quoN len 8 l8 (by omega) (by omega) hl8.symm
   obtain ⟨ll, hll2⟩ : ∃ x, x = mid - a' := ⟨_, rfl⟩
   obtain ⟨rl, hrl⟩ : ∃ x, x = b' - mid := ⟨_, rfl⟩
   obtain ⟨m1, hm1⟩ : ∃ x, x = mid + 1 := ⟨_, rfl⟩
   rw [<- hll2] at wl1
   rw [<- hrl] at wr1
   rw [<- hm1] at wm1 e5 e6 e7
   simp [t1, t2, t10, wl1, wr1, q8]
   by_cases hlr : ll < rl
   ·simp [hlr, t0, t1, t3]
    refine ih (n := n) (d := d4) (by omega) (by simp) hs4 (by omega) e1 hn9 e4 hll fun L h1 h2 => ?_
    obtain ⟨f1, f2⟩ := e6 L h1 h2
    simp [wm1]
    refine hK _ _ (by omega) ⟨m1, b', lim', decide ((l8 : Int) ≤ ll), ap, L, ?_, by rw [hg3, H.set_set], by rw [h1.1, hs4], by omega, hbn, hll, f1, by omega, fun R' g1' g2' => ?_⟩
    ·simp [t0, t2, t3]
    ·obtain ⟨k1, k2'⟩ := f2 R' g1' g2'
     exact hfin _ (permIn_trans _ _ _ a' b' hP3 k1) k2'
   ·simp [hlr, t0, t2, t3, wm1]
    refine ih (n := n) (d := d4) (by omega) (by simp) hs4 hbn (by omega) hn9 e5 hll fun L h1 h2 => ?_
    obtain ⟨f1, f2⟩ := e7 L h1 h2
    simp
    refine hK _ _ (by omega) ⟨a', mid, lim', decide ((l8 : Int) ≤ rl), ap, L, ?_, by rw [hg3, H.set_set], by rw [h1.1, hs4], e1, by omega, hll, f1, by omega, fun R' g1' g2' => ?_⟩
    ·simp [t0, t1, t3]
    ·obtain ⟨k1, k2'⟩ := f2 R' g1' g2'
     exact hfin _ (permIn_trans _ _ _ a' b' hP3 k1) k2'
theorem zhO : ∀ l : List Nat, (l.map cX).flatten = l.map uV
 | [] => rfl
 | a :: l => by rw [List.map_cons, List.flatten_cons, zhO l]; rfl
theorem zpy (l : List Nat) : R l.toArray = .grow 1 (l.map cX).flatten := by rw [zhO]; rfl
theorem zgS {h : H} {n : Nat} (hn : n ≤ 1000000) : ∃ k : Nat, k ≤ 64 ∧ ∀ h : H, Pure Tryz.prog 54 [.int .u64 (n : Nat)] h (.int .i64 (k : Nat)) := by
 obtain ⟨k, hk, _, hlen⟩ := zgk (v := n) (by omega)
 refine ⟨k, hk, fun h => ?_⟩
 refine zak Tryz.func54 S.a37c S.a37e rfl (Nat.le_of_ble_eq_true rfl) fun wf => ?_; simp only [S.a37]
 simp
 refine hlen h _ ?_
 simp
theorem zmn {h : H} {j : Nat} {l : List Nat} (hg : h.get j = some (.grow 1 (l.map cX).flatten)) (hl : l.length ≤ 900000) {Q : V -> H -> Prop} (q : ∀ l' : List Nat, l'.Perm l -> l'.Pairwise (fun x y => ¬ y < x) -> Q (.tup []) (h.set j (.grow 1 (l'.map cX).flatten))) :
  Acalls Tryz.prog 28 [.sl j l.length 0 l.length none] h Q := by
 refine zam Tryz.func28 S.a17c S.a17e (Nat.le_of_ble_eq_true rfl) fun wf => ?_; simp only [S.a17]
 obtain ⟨k, hk, hbl⟩ := zgS (h := h) (n := l.length) (by omega)
 obtain ⟨n, hn⟩ : ∃ n, n = l.length := ⟨_, rfl⟩
 have wu : IntKind.u64.wrap (n : Int) = n := zez (by omega)
 rw [<- hn] at hbl ⊢
 simp [wu]
 refine hbl _ _ ?_
 simp
 refine zqy (n + 1) (n := n) (a := 0) (b := n) (lim0 := k) (d := l.toArray) (by omega) (by rw [zpy]; exact hg) (by simp [hn]) (Nat.le_refl _) (Nat.zero_le _) (by omega) (.inl rfl) hk fun d' hp hs => ?_
 simp
 have hsz : d'.size = l.length := by rw [hp.1]; simp
 have e1 : R d' = .grow 1 (d'.toList.map cX).flatten := by rw [zhO]; rfl
 rw [e1]
 refine q _ ?_ ?_
 ·have := hp.2.2
  have e2 : (d'.extract 0 n).toList = d'.toList := by
   have : n = d'.size := by omega
   subst this; simp
  have e3 : (l.toArray.extract 0 n).toList = l := by
   subst hn; simp
  rw [e2, e3] at this
  exact this
 ·rw [List.pairwise_iff_getElem]
  intro i k hi hk2 hik
  simp only [Array.length_toList] at hi hk2
  have := hs i k (Nat.zero_le _) hik (by omega)
  rw [getElem!_pos d' i hi, getElem!_pos d' k hk2] at this
  simp only [Array.getElem_toList]
  simpa [lt32] using this
end Go.Am
