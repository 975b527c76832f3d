/-
  DERIVED. GIVEN WITH THE SEED: THE CARDS: each row of YtanegkchnleccaaGreatDoorRows.lean that lists a variable, with what it lists TIED to the program's text (the seventh form; the later family's looks); each row that meets fmt, with fmt's text TOLD by the authors' own Lean function (tested against real Go, not proved from fmt's source: count such statements apart). THE CARD IS WHAT COUNTS. Prove the row's statement (the work); the ties are given (YtanegkchnleccaaGreatDoorTie.lean); close each card by the builder's one call (the guide's Derived/Test/ToyasCard.lean, 'card_holds'). Laid BY PROGRAM, IN A SANDBOX (cutbox-door.mjs). By AI agents, Wed Nov 11 2026. No macro, syntax, notation, axiom, sorry.
-/
import Derived.Test.YtanegkchnleccaaGreatDoorRows
import GoSem.ClaimSeven
namespace Go.Proofs.YtanegkchnleccaaGreatDoor
namespace Rows

/-- THE TIED CARD OF 'heraldlaw33.RpcAsks'. -/
def rpcAsksCard : Claim7 := { stood := { row := rpcAsksRow, standIns := [], harness := (true, "d903db3bdd3bba840f1f23605ad4f0bcd0ef19516b428c878c14a824241615e4"), looks := true }, kinds := [], alts := [], laidByText := true, laidKinds := [.data, .data, .data, .data, .sentinel, .sentinel, .pinned], laidTests := true, laidLooks := .later }
def RpcAsksCardSaid : Prop := Claim7.holds Tryz.pinned (.plain (OpenSpec.ofChange rpcAsksSpec)) rpcAsksCard

/-- THE SECOND FORM's CARD OF 'heraldlaw33.RpcAsks'. -/
def rpcAsksUptoCard : Claim7 := { stood := { row := rpcAsksUptoRow, standIns := [], harness := (true, "d903db3bdd3bba840f1f23605ad4f0bcd0ef19516b428c878c14a824241615e4"), looks := true }, kinds := [], alts := [], laidByText := true, laidKinds := [.data, .data, .data, .data, .sentinel, .sentinel, .pinned], laidTests := true, laidLooks := .later }
def RpcAsksUptoCardSaid : Prop := Claim7.holds Tryz.pinned (.plain (OpenSpec.upto rpcAsksSpec)) rpcAsksUptoCard
end Rows
end Go.Proofs.YtanegkchnleccaaGreatDoor
