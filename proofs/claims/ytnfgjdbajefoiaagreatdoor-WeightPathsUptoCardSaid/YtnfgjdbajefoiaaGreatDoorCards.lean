/-
  DERIVED. GIVEN WITH THE SEED: THE CARDS: each row of YtnfgjdbajefoiaaGreatDoorRows.lean that lists a variable, with what it lists TIED to the program's text (the seventh form; the later family's looks); each row that meets fmt, with fmt's text TOLD by the authors' own Lean function (tested against real Go, not proved from fmt's source: count such statements apart). THE CARD IS WHAT COUNTS. Prove the row's statement (the work); the ties are given (YtnfgjdbajefoiaaGreatDoorTie.lean); close each card by the builder's one call (the guide's Derived/Test/ToyasCard.lean, 'card_holds'). Laid BY PROGRAM, IN A SANDBOX (cutbox-door.mjs). By AI agents, Wed Nov 11 2026. No macro, syntax, notation, axiom, sorry.
-/
import Derived.Test.YtnfgjdbajefoiaaGreatDoorRows
import GoSem.ClaimSeven
namespace Go.Proofs.YtnfgjdbajefoiaaGreatDoor
namespace Rows

/-- THE TIED CARD OF 'clerestorylaw2.SelectChecks'. -/
def selectChecksCard : Claim7 := { stood := { row := selectChecksRow, standIns := [], harness := (true, "528f7c148b3c74ff5889b5b9727e837f2cf58c9eff84660466619e01443c7e48"), looks := true }, kinds := [], alts := [], laidByText := true, laidKinds := [.data, .data, .data, .data, .sentinel, .sentinel, .pinned], laidTests := true, laidLooks := .later }
def SelectChecksCardSaid : Prop := Claim7.holds Tryz.pinned (.plain (OpenSpec.ofChange selectChecksSpec)) selectChecksCard

/-- THE TIED CARD OF 'clerestorylaw2.WeightPaths'. -/
def weightPathsCard : Claim7 := { stood := { row := weightPathsRow, standIns := [], harness := (true, "528f7c148b3c74ff5889b5b9727e837f2cf58c9eff84660466619e01443c7e48"), looks := true }, kinds := [], alts := [], laidByText := true, laidKinds := [.data, .data, .data, .data, .sentinel, .sentinel, .pinned], laidTests := true, laidLooks := .later }
def WeightPathsCardSaid : Prop := Claim7.holds Tryz.pinned (.plain (OpenSpec.ofChange weightPathsSpec)) weightPathsCard

/-- THE SECOND FORM's CARD OF 'clerestorylaw2.SelectChecks'. -/
def selectChecksUptoCard : Claim7 := { stood := { row := selectChecksUptoRow, standIns := [], harness := (true, "528f7c148b3c74ff5889b5b9727e837f2cf58c9eff84660466619e01443c7e48"), looks := true }, kinds := [], alts := [], laidByText := true, laidKinds := [.data, .data, .data, .data, .sentinel, .sentinel, .pinned], laidTests := true, laidLooks := .later }
def SelectChecksUptoCardSaid : Prop := Claim7.holds Tryz.pinned (.plain (OpenSpec.upto selectChecksSpec)) selectChecksUptoCard

/-- THE SECOND FORM's CARD OF 'clerestorylaw2.WeightPaths'. -/
def weightPathsUptoCard : Claim7 := { stood := { row := weightPathsUptoRow, standIns := [], harness := (true, "528f7c148b3c74ff5889b5b9727e837f2cf58c9eff84660466619e01443c7e48"), looks := true }, kinds := [], alts := [], laidByText := true, laidKinds := [.data, .data, .data, .data, .sentinel, .sentinel, .pinned], laidTests := true, laidLooks := .later }
def WeightPathsUptoCardSaid : Prop := Claim7.holds Tryz.pinned (.plain (OpenSpec.upto weightPathsSpec)) weightPathsUptoCard
end Rows
end Go.Proofs.YtnfgjdbajefoiaaGreatDoor
