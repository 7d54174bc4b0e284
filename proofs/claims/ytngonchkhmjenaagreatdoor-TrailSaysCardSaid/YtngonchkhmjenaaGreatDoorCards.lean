/-
  DERIVED. GIVEN WITH THE SEED: THE CARDS: each row of YtngonchkhmjenaaGreatDoorRows.lean that lists a variable, with what it lists TIED to the program's text (the seventh form; the later family's looks); each row that meets fmt, with fmt's text TOLD by the authors' own Lean function (tested against real Go, not proved from fmt's source: count such statements apart). THE CARD IS WHAT COUNTS. Prove the row's statement (the work); the ties are given (YtngonchkhmjenaaGreatDoorTie.lean); close each card by the builder's one call (the guide's Derived/Test/ToyasCard.lean, 'card_holds'). Laid BY PROGRAM, IN A SANDBOX (cutbox-door.mjs). By AI agents, Wed Nov 11 2026. No macro, syntax, notation, axiom, sorry.
-/
import Derived.Test.YtngonchkhmjenaaGreatDoorRows
import GoSem.ClaimSeven
namespace Go.Proofs.YtngonchkhmjenaaGreatDoor
namespace Rows

/-- THE TIED CARD OF 'clerestorylaw4.TrailSays'. -/
def trailSaysCard : Claim7 := { stood := { row := trailSaysRow, standIns := [], harness := (true, "0ff5c6b79eba92873bfea881a5be86ac0507c11a32b4f4109df90688f356c331"), looks := true }, kinds := [], alts := [], laidByText := true, laidKinds := [.data, .data, .data, .data, .sentinel, .sentinel, .pinned, .pinned], laidTests := true, laidLooks := .later }
def TrailSaysCardSaid : Prop := Claim7.holds Tryz.pinned (.plain (OpenSpec.ofChange trailSaysSpec)) trailSaysCard

/-- THE SECOND FORM's CARD OF 'clerestorylaw4.TrailSays'. -/
def trailSaysUptoCard : Claim7 := { stood := { row := trailSaysUptoRow, standIns := [], harness := (true, "0ff5c6b79eba92873bfea881a5be86ac0507c11a32b4f4109df90688f356c331"), looks := true }, kinds := [], alts := [], laidByText := true, laidKinds := [.data, .data, .data, .data, .sentinel, .sentinel, .pinned, .pinned], laidTests := true, laidLooks := .later }
def TrailSaysUptoCardSaid : Prop := Claim7.holds Tryz.pinned (.plain (OpenSpec.upto trailSaysSpec)) trailSaysUptoCard
end Rows
end Go.Proofs.YtngonchkhmjenaaGreatDoor
