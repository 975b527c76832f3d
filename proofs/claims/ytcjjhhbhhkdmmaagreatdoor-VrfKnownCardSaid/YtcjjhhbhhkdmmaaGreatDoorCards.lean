/-
  DERIVED. GIVEN WITH THE SEED: THE CARDS: each row of YtcjjhhbhhkdmmaaGreatDoorRows.lean that lists a variable, with what it lists TIED to the program's text (the seventh form; the later family's looks); each row that meets fmt, with fmt's text TOLD by the authors' own Lean function (tested against real Go, not proved from fmt's source: count such statements apart). THE CARD IS WHAT COUNTS. Prove the row's statement (the work); the ties are given (YtcjjhhbhhkdmmaaGreatDoorTie.lean); close each card by the builder's one call (the guide's Derived/Test/ToyasCard.lean, 'card_holds'). Laid BY PROGRAM, IN A SANDBOX (cutbox-door.mjs). By AI agents, Wed Nov 11 2026. No macro, syntax, notation, axiom, sorry.
-/
import Derived.Test.YtcjjhhbhhkdmmaaGreatDoorRows
import GoSem.ClaimSeven
namespace Go.Proofs.YtcjjhhbhhkdmmaaGreatDoor
namespace Rows

/-- THE TIED CARD OF 'heraldlaw29.AdjoutKnown'. -/
def adjoutKnownCard : Claim7 := { stood := { row := adjoutKnownRow, standIns := [], harness := (true, "7499cebe405537c04a41c27d1c2b83b001d3beb8505e801e45c134c7633717e0"), looks := true }, kinds := [], alts := [], laidByText := true, laidKinds := [.data, .data, .data, .data, .sentinel, .sentinel, .pinned], laidTests := true, laidLooks := .later }
def AdjoutKnownCardSaid : Prop := Claim7.holds Tryz.pinned (.plain (OpenSpec.ofChange adjoutKnownSpec)) adjoutKnownCard

/-- THE TIED CARD OF 'heraldlaw31.PaceKnown'. -/
def paceKnownCard : Claim7 := { stood := { row := paceKnownRow, standIns := [], harness := (true, "7499cebe405537c04a41c27d1c2b83b001d3beb8505e801e45c134c7633717e0"), looks := true }, kinds := [], alts := [], laidByText := true, laidKinds := [.data, .data, .data, .data, .sentinel, .sentinel, .pinned], laidTests := true, laidLooks := .later }
def PaceKnownCardSaid : Prop := Claim7.holds Tryz.pinned (.plain (OpenSpec.ofChange paceKnownSpec)) paceKnownCard

/-- THE TIED CARD OF 'heraldlaw05.CommKnown'. -/
def commKnownCard : Claim7 := { stood := { row := commKnownRow, standIns := [], harness := (true, "7499cebe405537c04a41c27d1c2b83b001d3beb8505e801e45c134c7633717e0"), looks := true }, kinds := [], alts := [], laidByText := true, laidKinds := [.data, .data, .data, .sentinel, .sentinel], laidTests := true, laidLooks := .later }
def CommKnownCardSaid : Prop := Claim7.holds Tryz.pinned (.plain (OpenSpec.ofChange commKnownSpec)) commKnownCard

/-- THE TIED CARD OF 'heraldlaw27.VrfKnown'. -/
def vrfKnownCard : Claim7 := { stood := { row := vrfKnownRow, standIns := [], harness := (true, "7499cebe405537c04a41c27d1c2b83b001d3beb8505e801e45c134c7633717e0"), looks := true }, kinds := [], alts := [], laidByText := true, laidKinds := [.data, .data, .data, .data, .sentinel, .sentinel, .pinned], laidTests := true, laidLooks := .later }
def VrfKnownCardSaid : Prop := Claim7.holds Tryz.pinned (.plain (OpenSpec.ofChange vrfKnownSpec)) vrfKnownCard

/-- THE TIED CARD OF 'heraldlaw11.UpdateKnown'. -/
def updateKnownCard : Claim7 := { stood := { row := updateKnownRow, standIns := [], harness := (true, "7499cebe405537c04a41c27d1c2b83b001d3beb8505e801e45c134c7633717e0"), looks := true }, kinds := [], alts := [], laidByText := true, laidKinds := [.data, .data, .data, .data, .sentinel, .sentinel, .pinned], laidTests := true, laidLooks := .later }
def UpdateKnownCardSaid : Prop := Claim7.holds Tryz.pinned (.plain (OpenSpec.ofChange updateKnownSpec)) updateKnownCard

/-- THE TIED CARD OF 'heraldlaw33.RpcKnown'. -/
def rpcKnownCard : Claim7 := { stood := { row := rpcKnownRow, standIns := [], harness := (true, "7499cebe405537c04a41c27d1c2b83b001d3beb8505e801e45c134c7633717e0"), looks := true }, kinds := [], alts := [], laidByText := true, laidKinds := [.data, .data, .data, .data, .sentinel, .sentinel, .pinned], laidTests := true, laidLooks := .later }
def RpcKnownCardSaid : Prop := Claim7.holds Tryz.pinned (.plain (OpenSpec.ofChange rpcKnownSpec)) rpcKnownCard

/-- THE SECOND FORM's CARD OF 'heraldlaw29.AdjoutKnown'. -/
def adjoutKnownUptoCard : Claim7 := { stood := { row := adjoutKnownUptoRow, standIns := [], harness := (true, "7499cebe405537c04a41c27d1c2b83b001d3beb8505e801e45c134c7633717e0"), looks := true }, kinds := [], alts := [], laidByText := true, laidKinds := [.data, .data, .data, .data, .sentinel, .sentinel, .pinned], laidTests := true, laidLooks := .later }
def AdjoutKnownUptoCardSaid : Prop := Claim7.holds Tryz.pinned (.plain (OpenSpec.upto adjoutKnownSpec)) adjoutKnownUptoCard

/-- THE SECOND FORM's CARD OF 'heraldlaw31.PaceKnown'. -/
def paceKnownUptoCard : Claim7 := { stood := { row := paceKnownUptoRow, standIns := [], harness := (true, "7499cebe405537c04a41c27d1c2b83b001d3beb8505e801e45c134c7633717e0"), looks := true }, kinds := [], alts := [], laidByText := true, laidKinds := [.data, .data, .data, .data, .sentinel, .sentinel, .pinned], laidTests := true, laidLooks := .later }
def PaceKnownUptoCardSaid : Prop := Claim7.holds Tryz.pinned (.plain (OpenSpec.upto paceKnownSpec)) paceKnownUptoCard

/-- THE SECOND FORM's CARD OF 'heraldlaw05.CommKnown'. -/
def commKnownUptoCard : Claim7 := { stood := { row := commKnownUptoRow, standIns := [], harness := (true, "7499cebe405537c04a41c27d1c2b83b001d3beb8505e801e45c134c7633717e0"), looks := true }, kinds := [], alts := [], laidByText := true, laidKinds := [.data, .data, .data, .sentinel, .sentinel], laidTests := true, laidLooks := .later }
def CommKnownUptoCardSaid : Prop := Claim7.holds Tryz.pinned (.plain (OpenSpec.upto commKnownSpec)) commKnownUptoCard

/-- THE SECOND FORM's CARD OF 'heraldlaw27.VrfKnown'. -/
def vrfKnownUptoCard : Claim7 := { stood := { row := vrfKnownUptoRow, standIns := [], harness := (true, "7499cebe405537c04a41c27d1c2b83b001d3beb8505e801e45c134c7633717e0"), looks := true }, kinds := [], alts := [], laidByText := true, laidKinds := [.data, .data, .data, .data, .sentinel, .sentinel, .pinned], laidTests := true, laidLooks := .later }
def VrfKnownUptoCardSaid : Prop := Claim7.holds Tryz.pinned (.plain (OpenSpec.upto vrfKnownSpec)) vrfKnownUptoCard

/-- THE SECOND FORM's CARD OF 'heraldlaw11.UpdateKnown'. -/
def updateKnownUptoCard : Claim7 := { stood := { row := updateKnownUptoRow, standIns := [], harness := (true, "7499cebe405537c04a41c27d1c2b83b001d3beb8505e801e45c134c7633717e0"), looks := true }, kinds := [], alts := [], laidByText := true, laidKinds := [.data, .data, .data, .data, .sentinel, .sentinel, .pinned], laidTests := true, laidLooks := .later }
def UpdateKnownUptoCardSaid : Prop := Claim7.holds Tryz.pinned (.plain (OpenSpec.upto updateKnownSpec)) updateKnownUptoCard

/-- THE SECOND FORM's CARD OF 'heraldlaw33.RpcKnown'. -/
def rpcKnownUptoCard : Claim7 := { stood := { row := rpcKnownUptoRow, standIns := [], harness := (true, "7499cebe405537c04a41c27d1c2b83b001d3beb8505e801e45c134c7633717e0"), looks := true }, kinds := [], alts := [], laidByText := true, laidKinds := [.data, .data, .data, .data, .sentinel, .sentinel, .pinned], laidTests := true, laidLooks := .later }
def RpcKnownUptoCardSaid : Prop := Claim7.holds Tryz.pinned (.plain (OpenSpec.upto rpcKnownSpec)) rpcKnownUptoCard
end Rows
end Go.Proofs.YtcjjhhbhhkdmmaaGreatDoor
