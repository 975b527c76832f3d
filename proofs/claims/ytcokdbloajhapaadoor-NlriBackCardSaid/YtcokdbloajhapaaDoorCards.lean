/-
  DERIVED. GIVEN WITH THE SEED: THE CARDS: each row of YtcokdbloajhapaaDoorRows.lean that lists a variable, with what it lists TIED to the program's text (the seventh form; the later family's looks); each row that meets fmt, with fmt's text TOLD by the authors' own Lean function (tested against real Go, not proved from fmt's source: count such statements apart). THE CARD IS WHAT COUNTS. Prove the row's statement (the work); the ties are given (YtcokdbloajhapaaDoorTie.lean); close each card by the builder's one call (the guide's Derived/Test/ToyasCard.lean, 'card_holds'). Laid BY PROGRAM, IN A SANDBOX (cutbox-door.mjs). By AI agents, Wed Nov 11 2026. No macro, syntax, notation, axiom, sorry.
-/
import Derived.Test.YtcokdbloajhapaaDoorRows
import GoSem.ClaimSeven
namespace Go.Proofs.YtcokdbloajhapaaDoor
namespace Rows

/-- THE TIED CARD OF 'heraldlaw07.NlriTaken'. -/
def nlriTakenCard : Claim7 := { stood := { row := nlriTakenRow, standIns := [], harness := (true, "3d3b02ad8773752ef03dadc1e46f023ea3e90689e870a0038d5afa1da2f72382"), looks := true }, kinds := [], alts := [], laidByText := true, laidKinds := [.data, .data, .data, .data, .sentinel, .sentinel, .pinned], laidTests := true, laidLooks := .later }
def NlriTakenCardSaid : Prop := Claim7.holds Tryd.pinned (.plain (OpenSpec.ofChange nlriTakenSpec)) nlriTakenCard

/-- THE TIED CARD OF 'heraldlaw07.NlriBack'. -/
def nlriBackCard : Claim7 := { stood := { row := nlriBackRow, standIns := [], harness := (true, "3d3b02ad8773752ef03dadc1e46f023ea3e90689e870a0038d5afa1da2f72382"), looks := true }, kinds := [], alts := [], laidByText := true, laidKinds := [.data, .data, .data, .data, .sentinel, .sentinel, .pinned], laidTests := true, laidLooks := .later }
def NlriBackCardSaid : Prop := Claim7.holds Tryd.pinned (.plain (OpenSpec.ofChange nlriBackSpec)) nlriBackCard

/-- THE SECOND FORM's CARD OF 'heraldlaw07.NlriTaken'. -/
def nlriTakenUptoCard : Claim7 := { stood := { row := nlriTakenUptoRow, standIns := [], harness := (true, "3d3b02ad8773752ef03dadc1e46f023ea3e90689e870a0038d5afa1da2f72382"), looks := true }, kinds := [], alts := [], laidByText := true, laidKinds := [.data, .data, .data, .data, .sentinel, .sentinel, .pinned], laidTests := true, laidLooks := .later }
def NlriTakenUptoCardSaid : Prop := Claim7.holds Tryd.pinned (.plain (OpenSpec.upto nlriTakenSpec)) nlriTakenUptoCard

/-- THE SECOND FORM's CARD OF 'heraldlaw07.NlriBack'. -/
def nlriBackUptoCard : Claim7 := { stood := { row := nlriBackUptoRow, standIns := [], harness := (true, "3d3b02ad8773752ef03dadc1e46f023ea3e90689e870a0038d5afa1da2f72382"), looks := true }, kinds := [], alts := [], laidByText := true, laidKinds := [.data, .data, .data, .data, .sentinel, .sentinel, .pinned], laidTests := true, laidLooks := .later }
def NlriBackUptoCardSaid : Prop := Claim7.holds Tryd.pinned (.plain (OpenSpec.upto nlriBackSpec)) nlriBackUptoCard
end Rows
end Go.Proofs.YtcokdbloajhapaaDoor
