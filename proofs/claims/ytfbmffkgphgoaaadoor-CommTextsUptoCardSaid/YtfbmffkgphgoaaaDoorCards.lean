/-
  DERIVED. GIVEN WITH THE SEED: THE CARDS: each row of YtfbmffkgphgoaaaDoorRows.lean that lists a variable, with what it lists TIED to the program's text (the seventh form; the later family's looks); each row that meets fmt, with fmt's text TOLD by the authors' own Lean function (tested against real Go, not proved from fmt's source: count such statements apart). THE CARD IS WHAT COUNTS. Prove the row's statement (the work); the ties are given (YtfbmffkgphgoaaaDoorTie.lean); close each card by the builder's one call (the guide's Derived/Test/ToyasCard.lean, 'card_holds'). Laid BY PROGRAM, IN A SANDBOX (cutbox-door.mjs). By AI agents, Wed Nov 11 2026. No macro, syntax, notation, axiom, sorry.
-/
import Derived.Test.YtfbmffkgphgoaaaDoorRows
import GoSem.ClaimSeven
namespace Go.Proofs.YtfbmffkgphgoaaaDoor
namespace Rows

/-- THE TIED CARD OF 'heraldlaw05.CommLays'. -/
def commLaysCard : Claim7 := { stood := { row := commLaysRow, standIns := [], harness := (true, "c099dbb86ad049ccc229739721e94aa4495efde6fac82a264de97997a49fe9a7"), looks := true }, kinds := [], alts := [], laidByText := true, laidKinds := [.data, .data, .data], laidTests := true, laidLooks := .later }
def CommLaysCardSaid : Prop := Claim7.holds Tryd.pinned (.plain (OpenSpec.ofChange commLaysSpec)) commLaysCard

/-- THE TIED CARD OF 'heraldlaw05.CommText'. -/
def commTextCard : Claim7 := { stood := { row := commTextRow, standIns := [], harness := (true, "c099dbb86ad049ccc229739721e94aa4495efde6fac82a264de97997a49fe9a7"), looks := true }, kinds := [], alts := [], laidByText := true, laidKinds := [.data, .data, .data, .sentinel, .sentinel], laidTests := true, laidLooks := .later }
def CommTextCardSaid : Prop := Claim7.holds Tryd.pinned (.plain (OpenSpec.ofChange commTextSpec)) commTextCard

/-- THE TIED CARD OF 'heraldlaw05.CommTexts'. -/
def commTextsCard : Claim7 := { stood := { row := commTextsRow, standIns := [], harness := (true, "c099dbb86ad049ccc229739721e94aa4495efde6fac82a264de97997a49fe9a7"), looks := true }, kinds := [], alts := [], laidByText := true, laidKinds := [.data, .data, .data, .sentinel, .sentinel], laidTests := true, laidLooks := .later }
def CommTextsCardSaid : Prop := Claim7.holds Tryd.pinned (.plain (OpenSpec.ofChange commTextsSpec)) commTextsCard

/-- THE TIED CARD OF 'heraldlaw05.CommSets'. -/
def commSetsCard : Claim7 := { stood := { row := commSetsRow, standIns := [], harness := (true, "c099dbb86ad049ccc229739721e94aa4495efde6fac82a264de97997a49fe9a7"), looks := true }, kinds := [], alts := [], laidByText := true, laidKinds := [.data, .data, .data], laidTests := true, laidLooks := .later }
def CommSetsCardSaid : Prop := Claim7.holds Tryd.pinned (.plain (OpenSpec.ofChange commSetsSpec)) commSetsCard

/-- THE TIED CARD OF 'heraldlaw05.CommWith'. -/
def commWithCard : Claim7 := { stood := { row := commWithRow, standIns := [], harness := (true, "c099dbb86ad049ccc229739721e94aa4495efde6fac82a264de97997a49fe9a7"), looks := true }, kinds := [], alts := [], laidByText := true, laidKinds := [.data, .data, .data], laidTests := true, laidLooks := .later }
def CommWithCardSaid : Prop := Claim7.holds Tryd.pinned (.plain (OpenSpec.ofChange commWithSpec)) commWithCard

/-- THE SECOND FORM's CARD OF 'heraldlaw05.CommLays'. -/
def commLaysUptoCard : Claim7 := { stood := { row := commLaysUptoRow, standIns := [], harness := (true, "c099dbb86ad049ccc229739721e94aa4495efde6fac82a264de97997a49fe9a7"), looks := true }, kinds := [], alts := [], laidByText := true, laidKinds := [.data, .data, .data], laidTests := true, laidLooks := .later }
def CommLaysUptoCardSaid : Prop := Claim7.holds Tryd.pinned (.plain (OpenSpec.upto commLaysSpec)) commLaysUptoCard

/-- THE SECOND FORM's CARD OF 'heraldlaw05.CommText'. -/
def commTextUptoCard : Claim7 := { stood := { row := commTextUptoRow, standIns := [], harness := (true, "c099dbb86ad049ccc229739721e94aa4495efde6fac82a264de97997a49fe9a7"), looks := true }, kinds := [], alts := [], laidByText := true, laidKinds := [.data, .data, .data, .sentinel, .sentinel], laidTests := true, laidLooks := .later }
def CommTextUptoCardSaid : Prop := Claim7.holds Tryd.pinned (.plain (OpenSpec.upto commTextSpec)) commTextUptoCard

/-- THE SECOND FORM's CARD OF 'heraldlaw05.CommTexts'. -/
def commTextsUptoCard : Claim7 := { stood := { row := commTextsUptoRow, standIns := [], harness := (true, "c099dbb86ad049ccc229739721e94aa4495efde6fac82a264de97997a49fe9a7"), looks := true }, kinds := [], alts := [], laidByText := true, laidKinds := [.data, .data, .data, .sentinel, .sentinel], laidTests := true, laidLooks := .later }
def CommTextsUptoCardSaid : Prop := Claim7.holds Tryd.pinned (.plain (OpenSpec.upto commTextsSpec)) commTextsUptoCard

/-- THE SECOND FORM's CARD OF 'heraldlaw05.CommSets'. -/
def commSetsUptoCard : Claim7 := { stood := { row := commSetsUptoRow, standIns := [], harness := (true, "c099dbb86ad049ccc229739721e94aa4495efde6fac82a264de97997a49fe9a7"), looks := true }, kinds := [], alts := [], laidByText := true, laidKinds := [.data, .data, .data], laidTests := true, laidLooks := .later }
def CommSetsUptoCardSaid : Prop := Claim7.holds Tryd.pinned (.plain (OpenSpec.upto commSetsSpec)) commSetsUptoCard

/-- THE SECOND FORM's CARD OF 'heraldlaw05.CommWith'. -/
def commWithUptoCard : Claim7 := { stood := { row := commWithUptoRow, standIns := [], harness := (true, "c099dbb86ad049ccc229739721e94aa4495efde6fac82a264de97997a49fe9a7"), looks := true }, kinds := [], alts := [], laidByText := true, laidKinds := [.data, .data, .data], laidTests := true, laidLooks := .later }
def CommWithUptoCardSaid : Prop := Claim7.holds Tryd.pinned (.plain (OpenSpec.upto commWithSpec)) commWithUptoCard
end Rows
end Go.Proofs.YtfbmffkgphgoaaaDoor
