/-
  DERIVED. GIVEN WITH THE SEED: THE CARDS: each row of YtfbmffkgphgoaaaGreatDoorRows.lean that lists a variable, with what it lists TIED to the program's text (the seventh form; the later family's looks); each row that meets fmt, with fmt's text TOLD by the authors' own Lean function (tested against real Go, not proved from fmt's source: count such statements apart). THE CARD IS WHAT COUNTS. Prove the row's statement (the work); the ties are given (YtfbmffkgphgoaaaGreatDoorTie.lean); close each card by the builder's one call (the guide's Derived/Test/ToyasCard.lean, 'card_holds'). Laid BY PROGRAM, IN A SANDBOX (cutbox-door.mjs). By AI agents, Wed Nov 11 2026. No macro, syntax, notation, axiom, sorry.
-/
import Derived.Test.YtfbmffkgphgoaaaGreatDoorRows
import GoSem.ClaimSeven
namespace Go.Proofs.YtfbmffkgphgoaaaGreatDoor
namespace Rows

/-- THE TIED CARD OF 'heraldlaw05.CommReads'. -/
def commReadsCard : Claim7 := { stood := { row := commReadsRow, standIns := [], harness := (true, "a0b3cfff517f645da18c45e3ebd83bc08ed6f1f5744598f9b648ea56caff3476"), looks := true }, kinds := [], alts := [], laidByText := true, laidKinds := [.data, .data, .data], laidTests := true, laidLooks := .later }
def CommReadsCardSaid : Prop := Claim7.holds Tryz.pinned (.plain (OpenSpec.ofChange commReadsSpec)) commReadsCard

/-- THE TIED CARD OF 'heraldlaw05.CommBack'. -/
def commBackCard : Claim7 := { stood := { row := commBackRow, standIns := [], harness := (true, "a0b3cfff517f645da18c45e3ebd83bc08ed6f1f5744598f9b648ea56caff3476"), looks := true }, kinds := [], alts := [], laidByText := true, laidKinds := [.data, .data, .data], laidTests := true, laidLooks := .later }
def CommBackCardSaid : Prop := Claim7.holds Tryz.pinned (.plain (OpenSpec.ofChange commBackSpec)) commBackCard

/-- THE TIED CARD OF 'heraldlaw05.CommKnown'. -/
def commKnownCard : Claim7 := { stood := { row := commKnownRow, standIns := [], harness := (true, "a0b3cfff517f645da18c45e3ebd83bc08ed6f1f5744598f9b648ea56caff3476"), looks := true }, kinds := [], alts := [], laidByText := true, laidKinds := [.data, .data, .data, .sentinel, .sentinel], laidTests := true, laidLooks := .later }
def CommKnownCardSaid : Prop := Claim7.holds Tryz.pinned (.plain (OpenSpec.ofChange commKnownSpec)) commKnownCard

/-- THE SECOND FORM's CARD OF 'heraldlaw05.CommReads'. -/
def commReadsUptoCard : Claim7 := { stood := { row := commReadsUptoRow, standIns := [], harness := (true, "a0b3cfff517f645da18c45e3ebd83bc08ed6f1f5744598f9b648ea56caff3476"), looks := true }, kinds := [], alts := [], laidByText := true, laidKinds := [.data, .data, .data], laidTests := true, laidLooks := .later }
def CommReadsUptoCardSaid : Prop := Claim7.holds Tryz.pinned (.plain (OpenSpec.upto commReadsSpec)) commReadsUptoCard

/-- THE SECOND FORM's CARD OF 'heraldlaw05.CommBack'. -/
def commBackUptoCard : Claim7 := { stood := { row := commBackUptoRow, standIns := [], harness := (true, "a0b3cfff517f645da18c45e3ebd83bc08ed6f1f5744598f9b648ea56caff3476"), looks := true }, kinds := [], alts := [], laidByText := true, laidKinds := [.data, .data, .data], laidTests := true, laidLooks := .later }
def CommBackUptoCardSaid : Prop := Claim7.holds Tryz.pinned (.plain (OpenSpec.upto commBackSpec)) commBackUptoCard

/-- THE SECOND FORM's CARD OF 'heraldlaw05.CommKnown'. -/
def commKnownUptoCard : Claim7 := { stood := { row := commKnownUptoRow, standIns := [], harness := (true, "a0b3cfff517f645da18c45e3ebd83bc08ed6f1f5744598f9b648ea56caff3476"), looks := true }, kinds := [], alts := [], laidByText := true, laidKinds := [.data, .data, .data, .sentinel, .sentinel], laidTests := true, laidLooks := .later }
def CommKnownUptoCardSaid : Prop := Claim7.holds Tryz.pinned (.plain (OpenSpec.upto commKnownSpec)) commKnownUptoCard
end Rows
end Go.Proofs.YtfbmffkgphgoaaaGreatDoor
