/-
  DERIVED. GIVEN WITH THE SEED: THE CARDS: each row of YtjahfjcfjnnnjaaGreatDoorRows.lean that lists a variable, with what it lists TIED to the program's text (the seventh form; the later family's looks); each row that meets fmt, with fmt's text TOLD by the authors' own Lean function (tested against real Go, not proved from fmt's source: count such statements apart). THE CARD IS WHAT COUNTS. Prove the row's statement (the work); the ties are given (YtjahfjcfjnnnjaaGreatDoorTie.lean); close each card by the builder's one call (the guide's Derived/Test/ToyasCard.lean, 'card_holds'). Laid BY PROGRAM, IN A SANDBOX (cutbox-door.mjs). By AI agents, Wed Nov 11 2026. No macro, syntax, notation, axiom, sorry.
-/
import Derived.Test.YtjahfjcfjnnnjaaGreatDoorRows
import GoSem.ClaimSeven
namespace Go.Proofs.YtjahfjcfjnnnjaaGreatDoor
namespace Rows

/-- THE TIED CARD OF 'heraldlaw27.VrfMoves'. -/
def vrfMovesCard : Claim7 := { stood := { row := vrfMovesRow, standIns := [], harness := (true, "0d4cf2b78fc5c5ffa1b0bf99e59785b2b17ea5b6d081aff66757ff76fd9d11cf"), looks := true }, kinds := [], alts := [], laidByText := true, laidKinds := [.data, .data, .data, .data, .sentinel, .sentinel, .pinned], laidTests := true, laidLooks := .later }
def VrfMovesCardSaid : Prop := Claim7.holds Tryz.pinned (.plain (OpenSpec.ofChange vrfMovesSpec)) vrfMovesCard

/-- THE TIED CARD OF 'heraldlaw27.VrfChecks'. -/
def vrfChecksCard : Claim7 := { stood := { row := vrfChecksRow, standIns := [], harness := (true, "0d4cf2b78fc5c5ffa1b0bf99e59785b2b17ea5b6d081aff66757ff76fd9d11cf"), looks := true }, kinds := [], alts := [], laidByText := true, laidKinds := [.data, .data, .data, .data, .sentinel, .sentinel, .pinned], laidTests := true, laidLooks := .later }
def VrfChecksCardSaid : Prop := Claim7.holds Tryz.pinned (.plain (OpenSpec.ofChange vrfChecksSpec)) vrfChecksCard

/-- THE TIED CARD OF 'heraldlaw27.VrfApart'. -/
def vrfApartCard : Claim7 := { stood := { row := vrfApartRow, standIns := [], harness := (true, "0d4cf2b78fc5c5ffa1b0bf99e59785b2b17ea5b6d081aff66757ff76fd9d11cf"), looks := true }, kinds := [], alts := [], laidByText := true, laidKinds := [.data, .data, .data, .data, .sentinel, .sentinel, .pinned], laidTests := true, laidLooks := .later }
def VrfApartCardSaid : Prop := Claim7.holds Tryz.pinned (.plain (OpenSpec.ofChange vrfApartSpec)) vrfApartCard

/-- THE SECOND FORM's CARD OF 'heraldlaw27.VrfMoves'. -/
def vrfMovesUptoCard : Claim7 := { stood := { row := vrfMovesUptoRow, standIns := [], harness := (true, "0d4cf2b78fc5c5ffa1b0bf99e59785b2b17ea5b6d081aff66757ff76fd9d11cf"), looks := true }, kinds := [], alts := [], laidByText := true, laidKinds := [.data, .data, .data, .data, .sentinel, .sentinel, .pinned], laidTests := true, laidLooks := .later }
def VrfMovesUptoCardSaid : Prop := Claim7.holds Tryz.pinned (.plain (OpenSpec.upto vrfMovesSpec)) vrfMovesUptoCard

/-- THE SECOND FORM's CARD OF 'heraldlaw27.VrfChecks'. -/
def vrfChecksUptoCard : Claim7 := { stood := { row := vrfChecksUptoRow, standIns := [], harness := (true, "0d4cf2b78fc5c5ffa1b0bf99e59785b2b17ea5b6d081aff66757ff76fd9d11cf"), looks := true }, kinds := [], alts := [], laidByText := true, laidKinds := [.data, .data, .data, .data, .sentinel, .sentinel, .pinned], laidTests := true, laidLooks := .later }
def VrfChecksUptoCardSaid : Prop := Claim7.holds Tryz.pinned (.plain (OpenSpec.upto vrfChecksSpec)) vrfChecksUptoCard

/-- THE SECOND FORM's CARD OF 'heraldlaw27.VrfApart'. -/
def vrfApartUptoCard : Claim7 := { stood := { row := vrfApartUptoRow, standIns := [], harness := (true, "0d4cf2b78fc5c5ffa1b0bf99e59785b2b17ea5b6d081aff66757ff76fd9d11cf"), looks := true }, kinds := [], alts := [], laidByText := true, laidKinds := [.data, .data, .data, .data, .sentinel, .sentinel, .pinned], laidTests := true, laidLooks := .later }
def VrfApartUptoCardSaid : Prop := Claim7.holds Tryz.pinned (.plain (OpenSpec.upto vrfApartSpec)) vrfApartUptoCard
end Rows
end Go.Proofs.YtjahfjcfjnnnjaaGreatDoor
