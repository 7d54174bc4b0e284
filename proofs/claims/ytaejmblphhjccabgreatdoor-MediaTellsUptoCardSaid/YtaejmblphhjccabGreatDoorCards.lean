/-
  DERIVED. GIVEN WITH THE SEED: THE CARDS: each row of YtaejmblphhjccabGreatDoorRows.lean that lists a variable, with what it lists TIED to the program's text (the seventh form; the later family's looks); each row that meets fmt, with fmt's text TOLD by the authors' own Lean function (tested against real Go, not proved from fmt's source: count such statements apart). THE CARD IS WHAT COUNTS. Prove the row's statement (the work); the ties are given (YtaejmblphhjccabGreatDoorTie.lean); close each card by the builder's one call (the guide's Derived/Test/ToyasCard.lean, 'card_holds'). Laid BY PROGRAM, IN A SANDBOX (cutbox-door.mjs). By AI agents, Wed Nov 11 2026. No macro, syntax, notation, axiom, sorry.
-/
import Derived.Test.YtaejmblphhjccabGreatDoorRows
import GoSem.ClaimSeven
namespace Go.Proofs.YtaejmblphhjccabGreatDoor
namespace Rows

/-- THE TIED CARD OF 'clerestorylaw2.WeightPaths'. -/
def weightPathsCard : Claim7 := { stood := { row := weightPathsRow, standIns := [], harness := (true, "0efa0baedf1ccffd7e2c64ffb9ccaa05762b7a73eac2c84b71ccf4340ead9bba"), looks := true }, kinds := [], alts := [], laidByText := true, laidKinds := [.data, .data, .data, .data, .sentinel, .sentinel, .pinned], laidTests := true, laidLooks := .later }
def WeightPathsCardSaid : Prop := Claim7.holds Tryz.pinned (.plain (OpenSpec.ofChange weightPathsSpec)) weightPathsCard

/-- THE TIED CARD OF 'clerestorylaw2.MediaTells'. -/
def mediaTellsCard : Claim7 := { stood := { row := mediaTellsRow, standIns := [], harness := (true, "0efa0baedf1ccffd7e2c64ffb9ccaa05762b7a73eac2c84b71ccf4340ead9bba"), looks := true }, kinds := [], alts := [], laidByText := true, laidKinds := [.data, .data, .data, .data, .sentinel, .sentinel, .data, .pinned], laidTests := true, laidLooks := .later }
def MediaTellsCardSaid : Prop := Claim7.holds Tryz.pinned (.plain (OpenSpec.ofChange mediaTellsSpec)) mediaTellsCard

/-- THE SECOND FORM's CARD OF 'clerestorylaw2.WeightPaths'. -/
def weightPathsUptoCard : Claim7 := { stood := { row := weightPathsUptoRow, standIns := [], harness := (true, "0efa0baedf1ccffd7e2c64ffb9ccaa05762b7a73eac2c84b71ccf4340ead9bba"), looks := true }, kinds := [], alts := [], laidByText := true, laidKinds := [.data, .data, .data, .data, .sentinel, .sentinel, .pinned], laidTests := true, laidLooks := .later }
def WeightPathsUptoCardSaid : Prop := Claim7.holds Tryz.pinned (.plain (OpenSpec.upto weightPathsSpec)) weightPathsUptoCard

/-- THE SECOND FORM's CARD OF 'clerestorylaw2.MediaTells'. -/
def mediaTellsUptoCard : Claim7 := { stood := { row := mediaTellsUptoRow, standIns := [], harness := (true, "0efa0baedf1ccffd7e2c64ffb9ccaa05762b7a73eac2c84b71ccf4340ead9bba"), looks := true }, kinds := [], alts := [], laidByText := true, laidKinds := [.data, .data, .data, .data, .sentinel, .sentinel, .data, .pinned], laidTests := true, laidLooks := .later }
def MediaTellsUptoCardSaid : Prop := Claim7.holds Tryz.pinned (.plain (OpenSpec.upto mediaTellsSpec)) mediaTellsUptoCard
end Rows
end Go.Proofs.YtaejmblphhjccabGreatDoor
