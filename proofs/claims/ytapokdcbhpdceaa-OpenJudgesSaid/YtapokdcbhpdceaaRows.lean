/-
  No cell of these rows narrows 'for every input' (looked for: loops, veiled, ifaces, maps, wideKeys, modest, calm, conditions, laid).
  DERIVED. THE GIVEN ROWS OF THIS SEAT. 8 by the template 'for every input the law returns true; each argument reads behind the call as it read before'; 0 by the template 'total and deterministic' (their statements: YtapokdcbhpdceaaTotals.lean).
  GIVEN WITH THE SEED: the statements are not yours to turn. If you find one false, say at which input.
  Laid BY PROGRAM, IN A SANDBOX (cutbox-rows.mjs): the forced cells as the released guide's own fill.sh prints them over the translation b6af8e9bc431fc1a… (all of the seat's roots in one cut). By AI agents, Wed Nov 11 2026. No macro, syntax, notation, axiom, sorry.
-/
import Derived.Test.YtapokdcbhpdceaaChecked
import GoSem.Claim
import GoSem.ClaimJoined
import GoSem.ClaimMapViews
import Derived.JoinedTies
import Derived.KernelRfl
namespace Go.Proofs.Ytapokdcbhpdceaa
/- THE CELL 'sum', in the pinned program and in every row, IS THE sha256 OF THE DUMP (.gsa) THAT YtapokdcbhpdceaaProg.lean LOADS. Nothing in Lean hashes anything: it is a label: what it is worth is what the hold of that sum in a sandbox is worth. -/
noncomputable def Try.pinned : Pinned := { name := "ytapokdcbhpdceaa", sum := "b6af8e9bc431fc1a44cbeacd17ed78e24d2cd472a89bcc72c6731807ce400e06", checked := Try.checked }
namespace Rows
def none {H : Type} : Left H := { results := [], args := [] }

/-- 'heraldlaw10.OpenLays': WHATEVER THE INPUT: true; the input reads as it did. -/
def openLaysSpec : ChangeSpec := { name := "openLays", fn := fun _ => fun
  | [d] => { results := [.lit (.bool true)], args := [d] }
  | _ => none }
def openLaysRow : OpenClaim := { program := "ytapokdcbhpdceaa", sum := "b6af8e9bc431fc1a44cbeacd17ed78e24d2cd472a89bcc72c6731807ce400e06", func := "herald/heraldlaw10.OpenLays", spec := "openLays", unfollowed := true, recurses := true, apart := false }
def OpenLaysSaid : Prop := openLaysRow.holds Try.pinned (OpenSpec.ofChange openLaysSpec)

/-- ITS FALSE NEIGHBOUR: 'it returns false'. Refute it at one input. -/
def openLaysWrong : ChangeSpec := { name := "openLays", fn := fun _ => fun
  | [d] => { results := [.lit (.bool false)], args := [d] }
  | _ => none }
def OpenLaysWrongFalsely : Prop := openLaysRow.holds Try.pinned (OpenSpec.ofChange openLaysWrong)

/-- 'heraldlaw10.OpenJudges': WHATEVER THE INPUT: true; the input reads as it did. -/
def openJudgesSpec : ChangeSpec := { name := "openJudges", fn := fun _ => fun
  | [d] => { results := [.lit (.bool true)], args := [d] }
  | _ => none }
def openJudgesRow : OpenClaim := { program := "ytapokdcbhpdceaa", sum := "b6af8e9bc431fc1a44cbeacd17ed78e24d2cd472a89bcc72c6731807ce400e06", func := "herald/heraldlaw10.OpenJudges", spec := "openJudges", unfollowed := true, recurses := true, apart := false }
def OpenJudgesSaid : Prop := openJudgesRow.holds Try.pinned (OpenSpec.ofChange openJudgesSpec)

/-- ITS FALSE NEIGHBOUR: 'it returns false'. Refute it at one input. -/
def openJudgesWrong : ChangeSpec := { name := "openJudges", fn := fun _ => fun
  | [d] => { results := [.lit (.bool false)], args := [d] }
  | _ => none }
def OpenJudgesWrongFalsely : Prop := openJudgesRow.holds Try.pinned (OpenSpec.ofChange openJudgesWrong)

/-- 'heraldlaw10.OpenBack': WHATEVER THE INPUT: true; the input reads as it did. -/
def openBackSpec : ChangeSpec := { name := "openBack", fn := fun _ => fun
  | [d] => { results := [.lit (.bool true)], args := [d] }
  | _ => none }
def openBackRow : OpenClaim := { program := "ytapokdcbhpdceaa", sum := "b6af8e9bc431fc1a44cbeacd17ed78e24d2cd472a89bcc72c6731807ce400e06", func := "herald/heraldlaw10.OpenBack", spec := "openBack", unfollowed := true, recurses := true, apart := false }
def OpenBackSaid : Prop := openBackRow.holds Try.pinned (OpenSpec.ofChange openBackSpec)

/-- ITS FALSE NEIGHBOUR: 'it returns false'. Refute it at one input. -/
def openBackWrong : ChangeSpec := { name := "openBack", fn := fun _ => fun
  | [d] => { results := [.lit (.bool false)], args := [d] }
  | _ => none }
def OpenBackWrongFalsely : Prop := openBackRow.holds Try.pinned (OpenSpec.ofChange openBackWrong)

/-- 'heraldlaw10.OpenMay': WHATEVER THE INPUT: true; the input reads as it did. -/
def openMaySpec : ChangeSpec := { name := "openMay", fn := fun _ => fun
  | [d] => { results := [.lit (.bool true)], args := [d] }
  | _ => none }
def openMayRow : OpenClaim := { program := "ytapokdcbhpdceaa", sum := "b6af8e9bc431fc1a44cbeacd17ed78e24d2cd472a89bcc72c6731807ce400e06", func := "herald/heraldlaw10.OpenMay", spec := "openMay", unfollowed := true, recurses := true, apart := false }
def OpenMaySaid : Prop := openMayRow.holds Try.pinned (OpenSpec.ofChange openMaySpec)

/-- ITS FALSE NEIGHBOUR: 'it returns false'. Refute it at one input. -/
def openMayWrong : ChangeSpec := { name := "openMay", fn := fun _ => fun
  | [d] => { results := [.lit (.bool false)], args := [d] }
  | _ => none }
def OpenMayWrongFalsely : Prop := openMayRow.holds Try.pinned (OpenSpec.ofChange openMayWrong)

/-- 'heraldlaw10.OpenTurned': WHATEVER THE INPUT: true; the input reads as it did. -/
def openTurnedSpec : ChangeSpec := { name := "openTurned", fn := fun _ => fun
  | [d1, d2] => { results := [.lit (.bool true)], args := [d1, d2] }
  | _ => none }
def openTurnedRow : OpenClaim := { program := "ytapokdcbhpdceaa", sum := "b6af8e9bc431fc1a44cbeacd17ed78e24d2cd472a89bcc72c6731807ce400e06", func := "herald/heraldlaw10.OpenTurned", spec := "openTurned", unfollowed := true, recurses := true, apart := false }
def OpenTurnedSaid : Prop := openTurnedRow.holds Try.pinned (OpenSpec.ofChange openTurnedSpec)

/-- ITS FALSE NEIGHBOUR: 'it returns false'. Refute it at one input. -/
def openTurnedWrong : ChangeSpec := { name := "openTurned", fn := fun _ => fun
  | [d1, d2] => { results := [.lit (.bool false)], args := [d1, d2] }
  | _ => none }
def OpenTurnedWrongFalsely : Prop := openTurnedRow.holds Try.pinned (OpenSpec.ofChange openTurnedWrong)

/-- 'heraldlaw10.OpenOurs': WHATEVER THE INPUT: true; the input reads as it did. -/
def openOursSpec : ChangeSpec := { name := "openOurs", fn := fun _ => fun
  | [d1, d2] => { results := [.lit (.bool true)], args := [d1, d2] }
  | _ => none }
def openOursRow : OpenClaim := { program := "ytapokdcbhpdceaa", sum := "b6af8e9bc431fc1a44cbeacd17ed78e24d2cd472a89bcc72c6731807ce400e06", func := "herald/heraldlaw10.OpenOurs", spec := "openOurs", unfollowed := true, recurses := true, apart := false }
def OpenOursSaid : Prop := openOursRow.holds Try.pinned (OpenSpec.ofChange openOursSpec)

/-- ITS FALSE NEIGHBOUR: 'it returns false'. Refute it at one input. -/
def openOursWrong : ChangeSpec := { name := "openOurs", fn := fun _ => fun
  | [d1, d2] => { results := [.lit (.bool false)], args := [d1, d2] }
  | _ => none }
def OpenOursWrongFalsely : Prop := openOursRow.holds Try.pinned (OpenSpec.ofChange openOursWrong)

/-- 'heraldlaw10.OpenAgrees': WHATEVER THE INPUT: true; the input reads as it did. -/
def openAgreesSpec : ChangeSpec := { name := "openAgrees", fn := fun _ => fun
  | [d1, d2, d3] => { results := [.lit (.bool true)], args := [d1, d2, d3] }
  | _ => none }
def openAgreesRow : OpenClaim := { program := "ytapokdcbhpdceaa", sum := "b6af8e9bc431fc1a44cbeacd17ed78e24d2cd472a89bcc72c6731807ce400e06", func := "herald/heraldlaw10.OpenAgrees", spec := "openAgrees", unfollowed := true, recurses := true, apart := false }
def OpenAgreesSaid : Prop := openAgreesRow.holds Try.pinned (OpenSpec.ofChange openAgreesSpec)

/-- ITS FALSE NEIGHBOUR: 'it returns false'. Refute it at one input. -/
def openAgreesWrong : ChangeSpec := { name := "openAgrees", fn := fun _ => fun
  | [d1, d2, d3] => { results := [.lit (.bool false)], args := [d1, d2, d3] }
  | _ => none }
def OpenAgreesWrongFalsely : Prop := openAgreesRow.holds Try.pinned (OpenSpec.ofChange openAgreesWrong)

/-- 'heraldlaw10.OpenKnown': WHATEVER THE INPUT: true; the input reads as it did. -/
def openKnownSpec : ChangeSpec := { name := "openKnown", fn := fun _ => fun
  | [] => { results := [.lit (.bool true)], args := [] }
  | _ => none }
def openKnownRow : OpenClaim := { program := "ytapokdcbhpdceaa", sum := "b6af8e9bc431fc1a44cbeacd17ed78e24d2cd472a89bcc72c6731807ce400e06", func := "herald/heraldlaw10.OpenKnown", spec := "openKnown", unfollowed := true, recurses := true, apart := false }
def OpenKnownSaid : Prop := openKnownRow.holds Try.pinned (OpenSpec.ofChange openKnownSpec)

/-- ITS FALSE NEIGHBOUR: 'it returns false'. Refute it at one input. -/
def openKnownWrong : ChangeSpec := { name := "openKnown", fn := fun _ => fun
  | [] => { results := [.lit (.bool false)], args := [] }
  | _ => none }
def OpenKnownWrongFalsely : Prop := openKnownRow.holds Try.pinned (OpenSpec.ofChange openKnownWrong)

/- THE SECOND FORM. 'bulk': how many values and letters a reading holds, each counted each time it is reached (what is shared counts as often as it is met; a slice's spare places count too). A statement '..UptoSaid' is the law's where the arguments, and the package variables that the reading takes, are together of bulk at most 1048576: NARROWER than '..Said'. Prove '..Said' where nothing that the law and all that it calls make is longer than what came in: it says more and counts as full. Else prove '..UptoSaid'. A law counts once. -/
mutual
def uptoBulk {H : Type} : DataW H → Nat
  | .lit (.string bytes) => bytes.length + 1
  | .lit _ => 1
  | .nil => 1
  | .ptr d => uptoBulk d + 1
  | .slice elems spare => uptoBulkAll elems + uptoBulkAll spare + 1
  | .agg parts => uptoBulkAll parts + 1
  | .iface _ d => uptoBulk d + 1
  | .map entries => uptoBulkEntries entries + 1
  | .held _ => 1
def uptoBulkAll {H : Type} : List (DataW H) → Nat
  | [] => 0
  | d :: r => uptoBulk d + uptoBulkAll r
def uptoBulkEntries {H : Type} : List (Lit × DataW H) → Nat
  | [] => 0
  | x :: r => uptoBulkEntry x + uptoBulkEntries r
def uptoBulkEntry {H : Type} : Lit × DataW H → Nat
  | (.string bytes, d) => bytes.length + uptoBulk d + 1
  | (_, d) => uptoBulk d + 1
 end
def uptoSmall : (H : Type) → List (DataW H) → Bool := fun _ ds => decide (uptoBulkAll ds ≤ 1048576)
def OpenSpec.upto (s : _root_.Go.ChangeSpec) : _root_.Go.OpenSpec := { _root_.Go.OpenSpec.ofChange s with cond := some uptoSmall }

/-- 'heraldlaw10.OpenLays', WHERE WHAT IT READS IS OF BULK AT MOST 1048576: true; the input reads as it did. -/
def openLaysUptoRow : OpenClaim := { program := "ytapokdcbhpdceaa", sum := "b6af8e9bc431fc1a44cbeacd17ed78e24d2cd472a89bcc72c6731807ce400e06", func := "herald/heraldlaw10.OpenLays", spec := "openLays", unfollowed := true, recurses := true, apart := false, narrowed := true }
def OpenLaysUptoSaid : Prop := openLaysUptoRow.holds Try.pinned (OpenSpec.upto openLaysSpec)

/-- 'heraldlaw10.OpenJudges', WHERE WHAT IT READS IS OF BULK AT MOST 1048576: true; the input reads as it did. -/
def openJudgesUptoRow : OpenClaim := { program := "ytapokdcbhpdceaa", sum := "b6af8e9bc431fc1a44cbeacd17ed78e24d2cd472a89bcc72c6731807ce400e06", func := "herald/heraldlaw10.OpenJudges", spec := "openJudges", unfollowed := true, recurses := true, apart := false, narrowed := true }
def OpenJudgesUptoSaid : Prop := openJudgesUptoRow.holds Try.pinned (OpenSpec.upto openJudgesSpec)

/-- 'heraldlaw10.OpenBack', WHERE WHAT IT READS IS OF BULK AT MOST 1048576: true; the input reads as it did. -/
def openBackUptoRow : OpenClaim := { program := "ytapokdcbhpdceaa", sum := "b6af8e9bc431fc1a44cbeacd17ed78e24d2cd472a89bcc72c6731807ce400e06", func := "herald/heraldlaw10.OpenBack", spec := "openBack", unfollowed := true, recurses := true, apart := false, narrowed := true }
def OpenBackUptoSaid : Prop := openBackUptoRow.holds Try.pinned (OpenSpec.upto openBackSpec)

/-- 'heraldlaw10.OpenMay', WHERE WHAT IT READS IS OF BULK AT MOST 1048576: true; the input reads as it did. -/
def openMayUptoRow : OpenClaim := { program := "ytapokdcbhpdceaa", sum := "b6af8e9bc431fc1a44cbeacd17ed78e24d2cd472a89bcc72c6731807ce400e06", func := "herald/heraldlaw10.OpenMay", spec := "openMay", unfollowed := true, recurses := true, apart := false, narrowed := true }
def OpenMayUptoSaid : Prop := openMayUptoRow.holds Try.pinned (OpenSpec.upto openMaySpec)

/-- 'heraldlaw10.OpenTurned', WHERE WHAT IT READS IS OF BULK AT MOST 1048576: true; the input reads as it did. -/
def openTurnedUptoRow : OpenClaim := { program := "ytapokdcbhpdceaa", sum := "b6af8e9bc431fc1a44cbeacd17ed78e24d2cd472a89bcc72c6731807ce400e06", func := "herald/heraldlaw10.OpenTurned", spec := "openTurned", unfollowed := true, recurses := true, apart := false, narrowed := true }
def OpenTurnedUptoSaid : Prop := openTurnedUptoRow.holds Try.pinned (OpenSpec.upto openTurnedSpec)

/-- 'heraldlaw10.OpenOurs', WHERE WHAT IT READS IS OF BULK AT MOST 1048576: true; the input reads as it did. -/
def openOursUptoRow : OpenClaim := { program := "ytapokdcbhpdceaa", sum := "b6af8e9bc431fc1a44cbeacd17ed78e24d2cd472a89bcc72c6731807ce400e06", func := "herald/heraldlaw10.OpenOurs", spec := "openOurs", unfollowed := true, recurses := true, apart := false, narrowed := true }
def OpenOursUptoSaid : Prop := openOursUptoRow.holds Try.pinned (OpenSpec.upto openOursSpec)

/-- 'heraldlaw10.OpenAgrees', WHERE WHAT IT READS IS OF BULK AT MOST 1048576: true; the input reads as it did. -/
def openAgreesUptoRow : OpenClaim := { program := "ytapokdcbhpdceaa", sum := "b6af8e9bc431fc1a44cbeacd17ed78e24d2cd472a89bcc72c6731807ce400e06", func := "herald/heraldlaw10.OpenAgrees", spec := "openAgrees", unfollowed := true, recurses := true, apart := false, narrowed := true }
def OpenAgreesUptoSaid : Prop := openAgreesUptoRow.holds Try.pinned (OpenSpec.upto openAgreesSpec)

/-- 'heraldlaw10.OpenKnown', WHERE WHAT IT READS IS OF BULK AT MOST 1048576: true; the input reads as it did. -/
def openKnownUptoRow : OpenClaim := { program := "ytapokdcbhpdceaa", sum := "b6af8e9bc431fc1a44cbeacd17ed78e24d2cd472a89bcc72c6731807ce400e06", func := "herald/heraldlaw10.OpenKnown", spec := "openKnown", unfollowed := true, recurses := true, apart := false, narrowed := true }
def OpenKnownUptoSaid : Prop := openKnownUptoRow.holds Try.pinned (OpenSpec.upto openKnownSpec)

end Rows
end Go.Proofs.Ytapokdcbhpdceaa
