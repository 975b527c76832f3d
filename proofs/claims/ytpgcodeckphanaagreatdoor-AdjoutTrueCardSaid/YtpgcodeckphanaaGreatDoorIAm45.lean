/-
 AM, PART 45. Arguments with lists within lists: types by their zdV, taken whole into the abstract heap; sizes by the data's weights.
-/
import Derived.Test.YtpgcodeckphanaaGreatDoorIAm33
import Derived.Test.YtpgcodeckphanaaGreatDoorIAm37
namespace Go.Am
open Go.ChangeShapes Go.WideShapes

inductive Dl
 | lf (l : Lf)
 | sl (b : Nat) (ds : List Dl)

mutual
def Dl.ok (g : Nat -> Option O) : Dl -> V -> Prop
 | .lf l, v => l.ok v
 | .sl b ds, v => ∃ ess : List (List V), Sls g ds.length v ess ∧ zcV v ∧ ess.length * b ≤ reachBytes ∧ ∀ es ∈ ess, Dls.ok g ds es
def Dls.ok (g : Nat -> Option O) : List Dl -> List V -> Prop
 | [], vs => vs = []
 | d :: ds, vs => ∃ v r, vs = v :: r ∧ Dl.ok g d v ∧ Dls.ok g ds r
end
mutual
theorem Dl.mono {g g' : Nat -> Option O} (k : ∀ i o, g i = some o -> g' i = some o) : ∀ (d : Dl) (v : V), Dl.ok g d v -> Dl.ok g' d v
 | .lf _, _, h => h
 | .sl _ ds, _, ⟨ess, s, c, b, q⟩ => ⟨ess, s.mono k, c, b, fun es he => Dls.mono k ds es (q es he)⟩
theorem Dls.mono {g g' : Nat -> Option O} (k : ∀ i o, g i = some o -> g' i = some o) : ∀ (ds : List Dl) (vs : List V), Dls.ok g ds vs -> Dls.ok g' ds vs
 | [], _, h => h
 | d :: ds, _, ⟨v, r, e, h1, h2⟩ => ⟨v, r, e, Dl.mono k d v h1, Dls.mono k ds r h2⟩
end
theorem Dls.length {g : Nat -> Option O} : ∀ {ds : List Dl} {vs : List V}, Dls.ok g ds vs -> vs.length = ds.length
 | [], _, h => by simp only [Dls.ok] at h; subst h; rfl
 | _ :: ds, _, ⟨_, r, rfl, _, h2⟩ => by simp [Dls.length h2]
theorem Dls.append {g : Nat -> Option O} : ∀ {a b : List Dl} {x y : List V}, Dls.ok g a x -> Dls.ok g b y -> Dls.ok g (a ++ b) (x ++ y)
 | [], _, _, _, h, h2 => by simp only [Dls.ok] at h; subst h; exact h2
 | _ :: _, _, _, _, ⟨v, r, rfl, h1, h3⟩, h2 => ⟨v, _, rfl, h1, Dls.append h3 h2⟩

section
variable {H' : Type} {enc : TypeId × Value -> H'} {P : Program} {w : World} {base : Nat} {spare : Nat -> Bool} {held : Bool}

def InTo (W0 w : World) (μ : Nat -> Pl) (h : H) (μ' : Nat -> Pl) (h' : H) : Prop := Rel W0 μ' h' w ∧ h'.Ro ∧ Ext μ h μ' h' ∧ ∀ i o, h.get i = some o -> h'.get i = some o
theorem InTo.refl {W0 w : World} {μ : Nat -> Pl} {h : H} (r : Rel W0 μ h w) (ro : h.Ro) : InTo W0 w μ h μ h := ⟨r, ro, Ext.refl _ _, fun _ _ e => e⟩
theorem InTo.trans {W0 w : World} {μ μ1 μ2 : Nat -> Pl} {h h1 h2 : H} (a : InTo W0 w μ h μ1 h1) (b : InTo W0 w μ1 h1 μ2 h2) : InTo W0 w μ h μ2 h2 :=
 ⟨b.1, b.2.1, a.2.2.1.trans b.2.2.1, fun i o e => b.2.2.2 i o (a.2.2.2 i o e)⟩

end
end Go.Am
