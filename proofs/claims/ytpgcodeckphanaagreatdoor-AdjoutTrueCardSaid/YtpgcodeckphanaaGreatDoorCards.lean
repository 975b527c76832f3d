/-
  DERIVED. GIVEN WITH THE SEED: THE CARDS: each row of YtpgcodeckphanaaGreatDoorRows.lean that lists a variable, with what it lists TIED to the program's text (the seventh form; the later family's looks); each row that meets fmt, with fmt's text TOLD by the authors' own Lean function (tested against real Go, not proved from fmt's source: count such statements apart). THE CARD IS WHAT COUNTS. Prove the row's statement (the work); the ties are given (YtpgcodeckphanaaGreatDoorTie.lean); close each card by the builder's one call (the guide's Derived/Test/ToyasCard.lean, 'card_holds'). Laid BY PROGRAM, IN A SANDBOX (cutbox-door.mjs). By AI agents, Wed Nov 11 2026. No macro, syntax, notation, axiom, sorry.
-/
import Derived.Test.YtpgcodeckphanaaGreatDoorRows
import GoSem.ClaimSeven
namespace Go.Proofs.YtpgcodeckphanaaGreatDoor
namespace Rows

/-- THE TIED CARD OF 'heraldlaw29.AdjoutTrue'. -/
def adjoutTrueCard : Claim7 := { stood := { row := adjoutTrueRow, standIns := [], harness := (true, "7006530f60549ab3965cdcd27c4371ea685333b664a423095de210e0d8a4a388"), looks := true }, kinds := [], alts := [], laidByText := true, laidKinds := [.data, .data, .data, .data, .sentinel, .sentinel, .pinned], laidTests := true, laidLooks := .later }
def AdjoutTrueCardSaid : Prop := Claim7.holds Tryz.pinned (.plain (OpenSpec.ofChange adjoutTrueSpec)) adjoutTrueCard

/-- THE TIED CARD OF 'heraldlaw29.AdjoutAgain'. -/
def adjoutAgainCard : Claim7 := { stood := { row := adjoutAgainRow, standIns := [], harness := (true, "7006530f60549ab3965cdcd27c4371ea685333b664a423095de210e0d8a4a388"), looks := true }, kinds := [], alts := [], laidByText := true, laidKinds := [.data, .data, .data, .data, .sentinel, .sentinel, .pinned], laidTests := true, laidLooks := .later }
def AdjoutAgainCardSaid : Prop := Claim7.holds Tryz.pinned (.plain (OpenSpec.ofChange adjoutAgainSpec)) adjoutAgainCard

/-- THE TIED CARD OF 'heraldlaw29.AdjoutKnown'. -/
def adjoutKnownCard : Claim7 := { stood := { row := adjoutKnownRow, standIns := [], harness := (true, "7006530f60549ab3965cdcd27c4371ea685333b664a423095de210e0d8a4a388"), looks := true }, kinds := [], alts := [], laidByText := true, laidKinds := [.data, .data, .data, .data, .sentinel, .sentinel, .pinned], laidTests := true, laidLooks := .later }
def AdjoutKnownCardSaid : Prop := Claim7.holds Tryz.pinned (.plain (OpenSpec.ofChange adjoutKnownSpec)) adjoutKnownCard

/-- THE TIED CARD OF 'heraldlaw29.AdjoutPlays'. -/
def adjoutPlaysCard : Claim7 := { stood := { row := adjoutPlaysRow, standIns := [], harness := (true, "7006530f60549ab3965cdcd27c4371ea685333b664a423095de210e0d8a4a388"), looks := true }, kinds := [], alts := [], laidByText := true, laidKinds := [.data, .data, .data, .data, .sentinel, .sentinel, .pinned], laidTests := true, laidLooks := .later }
def AdjoutPlaysCardSaid : Prop := Claim7.holds Tryz.pinned (.plain (OpenSpec.ofChange adjoutPlaysSpec)) adjoutPlaysCard

/-- THE TIED CARD OF 'heraldlaw31.PaceKeeps'. -/
def paceKeepsCard : Claim7 := { stood := { row := paceKeepsRow, standIns := [], harness := (true, "7006530f60549ab3965cdcd27c4371ea685333b664a423095de210e0d8a4a388"), looks := true }, kinds := [], alts := [], laidByText := true, laidKinds := [.data, .data, .data, .data, .sentinel, .sentinel, .pinned], laidTests := true, laidLooks := .later }
def PaceKeepsCardSaid : Prop := Claim7.holds Tryz.pinned (.plain (OpenSpec.ofChange paceKeepsSpec)) paceKeepsCard

/-- THE TIED CARD OF 'heraldlaw31.PaceFree'. -/
def paceFreeCard : Claim7 := { stood := { row := paceFreeRow, standIns := [], harness := (true, "7006530f60549ab3965cdcd27c4371ea685333b664a423095de210e0d8a4a388"), looks := true }, kinds := [], alts := [], laidByText := true, laidKinds := [.data, .data, .data, .data, .sentinel, .sentinel, .pinned], laidTests := true, laidLooks := .later }
def PaceFreeCardSaid : Prop := Claim7.holds Tryz.pinned (.plain (OpenSpec.ofChange paceFreeSpec)) paceFreeCard

/-- THE TIED CARD OF 'heraldlaw31.PacePlays'. -/
def pacePlaysCard : Claim7 := { stood := { row := pacePlaysRow, standIns := [], harness := (true, "7006530f60549ab3965cdcd27c4371ea685333b664a423095de210e0d8a4a388"), looks := true }, kinds := [], alts := [], laidByText := true, laidKinds := [.data, .data, .data, .data, .sentinel, .sentinel, .pinned], laidTests := true, laidLooks := .later }
def PacePlaysCardSaid : Prop := Claim7.holds Tryz.pinned (.plain (OpenSpec.ofChange pacePlaysSpec)) pacePlaysCard

/-- THE TIED CARD OF 'heraldlaw31.PaceKnown'. -/
def paceKnownCard : Claim7 := { stood := { row := paceKnownRow, standIns := [], harness := (true, "7006530f60549ab3965cdcd27c4371ea685333b664a423095de210e0d8a4a388"), looks := true }, kinds := [], alts := [], laidByText := true, laidKinds := [.data, .data, .data, .data, .sentinel, .sentinel, .pinned], laidTests := true, laidLooks := .later }
def PaceKnownCardSaid : Prop := Claim7.holds Tryz.pinned (.plain (OpenSpec.ofChange paceKnownSpec)) paceKnownCard

/-- THE SECOND FORM's CARD OF 'heraldlaw29.AdjoutTrue'. -/
def adjoutTrueUptoCard : Claim7 := { stood := { row := adjoutTrueUptoRow, standIns := [], harness := (true, "7006530f60549ab3965cdcd27c4371ea685333b664a423095de210e0d8a4a388"), looks := true }, kinds := [], alts := [], laidByText := true, laidKinds := [.data, .data, .data, .data, .sentinel, .sentinel, .pinned], laidTests := true, laidLooks := .later }
def AdjoutTrueUptoCardSaid : Prop := Claim7.holds Tryz.pinned (.plain (OpenSpec.upto adjoutTrueSpec)) adjoutTrueUptoCard

/-- THE SECOND FORM's CARD OF 'heraldlaw29.AdjoutAgain'. -/
def adjoutAgainUptoCard : Claim7 := { stood := { row := adjoutAgainUptoRow, standIns := [], harness := (true, "7006530f60549ab3965cdcd27c4371ea685333b664a423095de210e0d8a4a388"), looks := true }, kinds := [], alts := [], laidByText := true, laidKinds := [.data, .data, .data, .data, .sentinel, .sentinel, .pinned], laidTests := true, laidLooks := .later }
def AdjoutAgainUptoCardSaid : Prop := Claim7.holds Tryz.pinned (.plain (OpenSpec.upto adjoutAgainSpec)) adjoutAgainUptoCard

/-- THE SECOND FORM's CARD OF 'heraldlaw29.AdjoutKnown'. -/
def adjoutKnownUptoCard : Claim7 := { stood := { row := adjoutKnownUptoRow, standIns := [], harness := (true, "7006530f60549ab3965cdcd27c4371ea685333b664a423095de210e0d8a4a388"), looks := true }, kinds := [], alts := [], laidByText := true, laidKinds := [.data, .data, .data, .data, .sentinel, .sentinel, .pinned], laidTests := true, laidLooks := .later }
def AdjoutKnownUptoCardSaid : Prop := Claim7.holds Tryz.pinned (.plain (OpenSpec.upto adjoutKnownSpec)) adjoutKnownUptoCard

/-- THE SECOND FORM's CARD OF 'heraldlaw29.AdjoutPlays'. -/
def adjoutPlaysUptoCard : Claim7 := { stood := { row := adjoutPlaysUptoRow, standIns := [], harness := (true, "7006530f60549ab3965cdcd27c4371ea685333b664a423095de210e0d8a4a388"), looks := true }, kinds := [], alts := [], laidByText := true, laidKinds := [.data, .data, .data, .data, .sentinel, .sentinel, .pinned], laidTests := true, laidLooks := .later }
def AdjoutPlaysUptoCardSaid : Prop := Claim7.holds Tryz.pinned (.plain (OpenSpec.upto adjoutPlaysSpec)) adjoutPlaysUptoCard

/-- THE SECOND FORM's CARD OF 'heraldlaw31.PaceKeeps'. -/
def paceKeepsUptoCard : Claim7 := { stood := { row := paceKeepsUptoRow, standIns := [], harness := (true, "7006530f60549ab3965cdcd27c4371ea685333b664a423095de210e0d8a4a388"), looks := true }, kinds := [], alts := [], laidByText := true, laidKinds := [.data, .data, .data, .data, .sentinel, .sentinel, .pinned], laidTests := true, laidLooks := .later }
def PaceKeepsUptoCardSaid : Prop := Claim7.holds Tryz.pinned (.plain (OpenSpec.upto paceKeepsSpec)) paceKeepsUptoCard

/-- THE SECOND FORM's CARD OF 'heraldlaw31.PaceFree'. -/
def paceFreeUptoCard : Claim7 := { stood := { row := paceFreeUptoRow, standIns := [], harness := (true, "7006530f60549ab3965cdcd27c4371ea685333b664a423095de210e0d8a4a388"), looks := true }, kinds := [], alts := [], laidByText := true, laidKinds := [.data, .data, .data, .data, .sentinel, .sentinel, .pinned], laidTests := true, laidLooks := .later }
def PaceFreeUptoCardSaid : Prop := Claim7.holds Tryz.pinned (.plain (OpenSpec.upto paceFreeSpec)) paceFreeUptoCard

/-- THE SECOND FORM's CARD OF 'heraldlaw31.PacePlays'. -/
def pacePlaysUptoCard : Claim7 := { stood := { row := pacePlaysUptoRow, standIns := [], harness := (true, "7006530f60549ab3965cdcd27c4371ea685333b664a423095de210e0d8a4a388"), looks := true }, kinds := [], alts := [], laidByText := true, laidKinds := [.data, .data, .data, .data, .sentinel, .sentinel, .pinned], laidTests := true, laidLooks := .later }
def PacePlaysUptoCardSaid : Prop := Claim7.holds Tryz.pinned (.plain (OpenSpec.upto pacePlaysSpec)) pacePlaysUptoCard

/-- THE SECOND FORM's CARD OF 'heraldlaw31.PaceKnown'. -/
def paceKnownUptoCard : Claim7 := { stood := { row := paceKnownUptoRow, standIns := [], harness := (true, "7006530f60549ab3965cdcd27c4371ea685333b664a423095de210e0d8a4a388"), looks := true }, kinds := [], alts := [], laidByText := true, laidKinds := [.data, .data, .data, .data, .sentinel, .sentinel, .pinned], laidTests := true, laidLooks := .later }
def PaceKnownUptoCardSaid : Prop := Claim7.holds Tryz.pinned (.plain (OpenSpec.upto paceKnownSpec)) paceKnownUptoCard
end Rows
end Go.Proofs.YtpgcodeckphanaaGreatDoor
