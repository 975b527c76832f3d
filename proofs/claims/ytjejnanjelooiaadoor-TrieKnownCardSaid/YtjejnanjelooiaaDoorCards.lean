/-
  DERIVED. GIVEN WITH THE SEED: THE CARDS: each row of YtjejnanjelooiaaDoorRows.lean that lists a variable, with what it lists TIED to the program's text (the seventh form; the later family's looks); each row that meets fmt, with fmt's text TOLD by the authors' own Lean function (tested against real Go, not proved from fmt's source: count such statements apart). THE CARD IS WHAT COUNTS. Prove the row's statement (the work); the ties are given (YtjejnanjelooiaaDoorTie.lean); close each card by the builder's one call (the guide's Derived/Test/ToyasCard.lean, 'card_holds'). Laid BY PROGRAM, IN A SANDBOX (cutbox-door.mjs). By AI agents, Wed Nov 11 2026. No macro, syntax, notation, axiom, sorry.
-/
import Derived.Test.YtjejnanjelooiaaDoorRows
import GoSem.ClaimSeven
namespace Go.Proofs.YtjejnanjelooiaaDoor
namespace Rows

/-- THE TIED CARD OF 'heraldlaw03.TrieMatch'. -/
def trieMatchCard : Claim7 := { stood := { row := trieMatchRow, standIns := [], harness := (true, "0344ba5843b80cefb79f35cd3517d8994e80490378ca7069be545596338df1ce"), looks := true }, kinds := [], alts := [], laidByText := true, laidKinds := [.data, .data, .data, .data, .sentinel, .sentinel, .pinned], laidTests := true, laidLooks := .later }
def TrieMatchCardSaid : Prop := Claim7.holds Tryd.pinned (.plain (OpenSpec.ofChange trieMatchSpec)) trieMatchCard

/-- THE TIED CARD OF 'heraldlaw03.TrieLast'. -/
def trieLastCard : Claim7 := { stood := { row := trieLastRow, standIns := [], harness := (true, "0344ba5843b80cefb79f35cd3517d8994e80490378ca7069be545596338df1ce"), looks := true }, kinds := [], alts := [], laidByText := true, laidKinds := [.data, .data, .data, .data, .sentinel, .sentinel, .pinned], laidTests := true, laidLooks := .later }
def TrieLastCardSaid : Prop := Claim7.holds Tryd.pinned (.plain (OpenSpec.ofChange trieLastSpec)) trieLastCard

/-- THE TIED CARD OF 'heraldlaw03.TrieUnder'. -/
def trieUnderCard : Claim7 := { stood := { row := trieUnderRow, standIns := [], harness := (true, "0344ba5843b80cefb79f35cd3517d8994e80490378ca7069be545596338df1ce"), looks := true }, kinds := [], alts := [], laidByText := true, laidKinds := [.data, .data, .data, .data, .sentinel, .sentinel, .pinned], laidTests := true, laidLooks := .later }
def TrieUnderCardSaid : Prop := Claim7.holds Tryd.pinned (.plain (OpenSpec.ofChange trieUnderSpec)) trieUnderCard

/-- THE TIED CARD OF 'heraldlaw03.TriePlays'. -/
def triePlaysCard : Claim7 := { stood := { row := triePlaysRow, standIns := [], harness := (true, "0344ba5843b80cefb79f35cd3517d8994e80490378ca7069be545596338df1ce"), looks := true }, kinds := [], alts := [], laidByText := true, laidKinds := [.data, .data, .data, .data, .sentinel, .sentinel, .pinned], laidTests := true, laidLooks := .later }
def TriePlaysCardSaid : Prop := Claim7.holds Tryd.pinned (.plain (OpenSpec.ofChange triePlaysSpec)) triePlaysCard

/-- THE TIED CARD OF 'heraldlaw03.TrieKnown'. -/
def trieKnownCard : Claim7 := { stood := { row := trieKnownRow, standIns := [], harness := (true, "0344ba5843b80cefb79f35cd3517d8994e80490378ca7069be545596338df1ce"), looks := true }, kinds := [], alts := [], laidByText := true, laidKinds := [.data, .data, .data, .data, .sentinel, .sentinel, .pinned], laidTests := true, laidLooks := .later }
def TrieKnownCardSaid : Prop := Claim7.holds Tryd.pinned (.plain (OpenSpec.ofChange trieKnownSpec)) trieKnownCard

/-- THE SECOND FORM's CARD OF 'heraldlaw03.TrieMatch'. -/
def trieMatchUptoCard : Claim7 := { stood := { row := trieMatchUptoRow, standIns := [], harness := (true, "0344ba5843b80cefb79f35cd3517d8994e80490378ca7069be545596338df1ce"), looks := true }, kinds := [], alts := [], laidByText := true, laidKinds := [.data, .data, .data, .data, .sentinel, .sentinel, .pinned], laidTests := true, laidLooks := .later }
def TrieMatchUptoCardSaid : Prop := Claim7.holds Tryd.pinned (.plain (OpenSpec.upto trieMatchSpec)) trieMatchUptoCard

/-- THE SECOND FORM's CARD OF 'heraldlaw03.TrieLast'. -/
def trieLastUptoCard : Claim7 := { stood := { row := trieLastUptoRow, standIns := [], harness := (true, "0344ba5843b80cefb79f35cd3517d8994e80490378ca7069be545596338df1ce"), looks := true }, kinds := [], alts := [], laidByText := true, laidKinds := [.data, .data, .data, .data, .sentinel, .sentinel, .pinned], laidTests := true, laidLooks := .later }
def TrieLastUptoCardSaid : Prop := Claim7.holds Tryd.pinned (.plain (OpenSpec.upto trieLastSpec)) trieLastUptoCard

/-- THE SECOND FORM's CARD OF 'heraldlaw03.TrieUnder'. -/
def trieUnderUptoCard : Claim7 := { stood := { row := trieUnderUptoRow, standIns := [], harness := (true, "0344ba5843b80cefb79f35cd3517d8994e80490378ca7069be545596338df1ce"), looks := true }, kinds := [], alts := [], laidByText := true, laidKinds := [.data, .data, .data, .data, .sentinel, .sentinel, .pinned], laidTests := true, laidLooks := .later }
def TrieUnderUptoCardSaid : Prop := Claim7.holds Tryd.pinned (.plain (OpenSpec.upto trieUnderSpec)) trieUnderUptoCard

/-- THE SECOND FORM's CARD OF 'heraldlaw03.TriePlays'. -/
def triePlaysUptoCard : Claim7 := { stood := { row := triePlaysUptoRow, standIns := [], harness := (true, "0344ba5843b80cefb79f35cd3517d8994e80490378ca7069be545596338df1ce"), looks := true }, kinds := [], alts := [], laidByText := true, laidKinds := [.data, .data, .data, .data, .sentinel, .sentinel, .pinned], laidTests := true, laidLooks := .later }
def TriePlaysUptoCardSaid : Prop := Claim7.holds Tryd.pinned (.plain (OpenSpec.upto triePlaysSpec)) triePlaysUptoCard

/-- THE SECOND FORM's CARD OF 'heraldlaw03.TrieKnown'. -/
def trieKnownUptoCard : Claim7 := { stood := { row := trieKnownUptoRow, standIns := [], harness := (true, "0344ba5843b80cefb79f35cd3517d8994e80490378ca7069be545596338df1ce"), looks := true }, kinds := [], alts := [], laidByText := true, laidKinds := [.data, .data, .data, .data, .sentinel, .sentinel, .pinned], laidTests := true, laidLooks := .later }
def TrieKnownUptoCardSaid : Prop := Claim7.holds Tryd.pinned (.plain (OpenSpec.upto trieKnownSpec)) trieKnownUptoCard
end Rows
end Go.Proofs.YtjejnanjelooiaaDoor
