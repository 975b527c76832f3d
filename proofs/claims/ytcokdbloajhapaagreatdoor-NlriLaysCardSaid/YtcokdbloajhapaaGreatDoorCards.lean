/-
  DERIVED. GIVEN WITH THE SEED: THE CARDS: each row of YtcokdbloajhapaaGreatDoorRows.lean that lists a variable, with what it lists TIED to the program's text (the seventh form; the later family's looks); each row that meets fmt, with fmt's text TOLD by the authors' own Lean function (tested against real Go, not proved from fmt's source: count such statements apart). THE CARD IS WHAT COUNTS. Prove the row's statement (the work); the ties are given (YtcokdbloajhapaaGreatDoorTie.lean); close each card by the builder's one call (the guide's Derived/Test/ToyasCard.lean, 'card_holds'). Laid BY PROGRAM, IN A SANDBOX (cutbox-door.mjs). By AI agents, Wed Nov 11 2026. No macro, syntax, notation, axiom, sorry.
-/
import Derived.Test.YtcokdbloajhapaaGreatDoorRows
import GoSem.ClaimSeven
namespace Go.Proofs.YtcokdbloajhapaaGreatDoor
namespace Rows

/-- THE TIED CARD OF 'heraldlaw07.NlriTells'. -/
def nlriTellsCard : Claim7 := { stood := { row := nlriTellsRow, standIns := [], harness := (true, "bee2d3208e35a9b619fab7b08b045ed817ec98fbb59ebda5b6e7bbb92c72ca06"), looks := true }, kinds := [], alts := [], laidByText := true, laidKinds := [.data, .data, .data, .data, .sentinel, .sentinel, .pinned], laidTests := true, laidLooks := .later }
def NlriTellsCardSaid : Prop := Claim7.holds Tryz.pinned (.plain (OpenSpec.ofChange nlriTellsSpec)) nlriTellsCard

/-- THE TIED CARD OF 'heraldlaw07.NlriLays'. -/
def nlriLaysCard : Claim7 := { stood := { row := nlriLaysRow, standIns := [], harness := (true, "bee2d3208e35a9b619fab7b08b045ed817ec98fbb59ebda5b6e7bbb92c72ca06"), looks := true }, kinds := [], alts := [], laidByText := true, laidKinds := [.data, .data, .data, .data, .sentinel, .sentinel, .pinned], laidTests := true, laidLooks := .later }
def NlriLaysCardSaid : Prop := Claim7.holds Tryz.pinned (.plain (OpenSpec.ofChange nlriLaysSpec)) nlriLaysCard

/-- THE TIED CARD OF 'heraldlaw07.NlriKnown'. -/
def nlriKnownCard : Claim7 := { stood := { row := nlriKnownRow, standIns := [], harness := (true, "bee2d3208e35a9b619fab7b08b045ed817ec98fbb59ebda5b6e7bbb92c72ca06"), looks := true }, kinds := [], alts := [], laidByText := true, laidKinds := [.data, .data, .data, .data, .sentinel, .sentinel, .pinned], laidTests := true, laidLooks := .later }
def NlriKnownCardSaid : Prop := Claim7.holds Tryz.pinned (.plain (OpenSpec.ofChange nlriKnownSpec)) nlriKnownCard

/-- THE SECOND FORM's CARD OF 'heraldlaw07.NlriTells'. -/
def nlriTellsUptoCard : Claim7 := { stood := { row := nlriTellsUptoRow, standIns := [], harness := (true, "bee2d3208e35a9b619fab7b08b045ed817ec98fbb59ebda5b6e7bbb92c72ca06"), looks := true }, kinds := [], alts := [], laidByText := true, laidKinds := [.data, .data, .data, .data, .sentinel, .sentinel, .pinned], laidTests := true, laidLooks := .later }
def NlriTellsUptoCardSaid : Prop := Claim7.holds Tryz.pinned (.plain (OpenSpec.upto nlriTellsSpec)) nlriTellsUptoCard

/-- THE SECOND FORM's CARD OF 'heraldlaw07.NlriLays'. -/
def nlriLaysUptoCard : Claim7 := { stood := { row := nlriLaysUptoRow, standIns := [], harness := (true, "bee2d3208e35a9b619fab7b08b045ed817ec98fbb59ebda5b6e7bbb92c72ca06"), looks := true }, kinds := [], alts := [], laidByText := true, laidKinds := [.data, .data, .data, .data, .sentinel, .sentinel, .pinned], laidTests := true, laidLooks := .later }
def NlriLaysUptoCardSaid : Prop := Claim7.holds Tryz.pinned (.plain (OpenSpec.upto nlriLaysSpec)) nlriLaysUptoCard

/-- THE SECOND FORM's CARD OF 'heraldlaw07.NlriKnown'. -/
def nlriKnownUptoCard : Claim7 := { stood := { row := nlriKnownUptoRow, standIns := [], harness := (true, "bee2d3208e35a9b619fab7b08b045ed817ec98fbb59ebda5b6e7bbb92c72ca06"), looks := true }, kinds := [], alts := [], laidByText := true, laidKinds := [.data, .data, .data, .data, .sentinel, .sentinel, .pinned], laidTests := true, laidLooks := .later }
def NlriKnownUptoCardSaid : Prop := Claim7.holds Tryz.pinned (.plain (OpenSpec.upto nlriKnownSpec)) nlriKnownUptoCard
end Rows
end Go.Proofs.YtcokdbloajhapaaGreatDoor
