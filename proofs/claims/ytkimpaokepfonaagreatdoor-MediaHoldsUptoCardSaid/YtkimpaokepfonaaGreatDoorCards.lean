/-
  DERIVED. GIVEN WITH THE SEED: THE CARDS: each row of YtkimpaokepfonaaGreatDoorRows.lean that lists a variable, with what it lists TIED to the program's text (the seventh form; the later family's looks); each row that meets fmt, with fmt's text TOLD by the authors' own Lean function (tested against real Go, not proved from fmt's source: count such statements apart). THE CARD IS WHAT COUNTS. Prove the row's statement (the work); the ties are given (YtkimpaokepfonaaGreatDoorTie.lean); close each card by the builder's one call (the guide's Derived/Test/ToyasCard.lean, 'card_holds'). Laid BY PROGRAM, IN A SANDBOX (cutbox-door.mjs). By AI agents, Wed Nov 11 2026. No macro, syntax, notation, axiom, sorry.
-/
import Derived.Test.YtkimpaokepfonaaGreatDoorRows
import GoSem.ClaimSeven
namespace Go.Proofs.YtkimpaokepfonaaGreatDoor
namespace Rows

/-- THE TIED CARD OF 'clerestorylaw2.MediaHolds'. -/
def mediaHoldsCard : Claim7 := { stood := { row := mediaHoldsRow, standIns := [], harness := (true, "cdebae3e4e8c5cf3c6f3a9ea3d4303ffcd4b467591da131d238d28d5386881cb"), looks := true }, kinds := [], alts := [], laidByText := true, laidKinds := [.data, .data, .data, .data, .sentinel, .sentinel, .data, .pinned], laidTests := true, laidLooks := .later }
def MediaHoldsCardSaid : Prop := Claim7.holds Tryz.pinned (.plain (OpenSpec.ofChange mediaHoldsSpec)) mediaHoldsCard

/-- THE SECOND FORM's CARD OF 'clerestorylaw2.MediaHolds'. -/
def mediaHoldsUptoCard : Claim7 := { stood := { row := mediaHoldsUptoRow, standIns := [], harness := (true, "cdebae3e4e8c5cf3c6f3a9ea3d4303ffcd4b467591da131d238d28d5386881cb"), looks := true }, kinds := [], alts := [], laidByText := true, laidKinds := [.data, .data, .data, .data, .sentinel, .sentinel, .data, .pinned], laidTests := true, laidLooks := .later }
def MediaHoldsUptoCardSaid : Prop := Claim7.holds Tryz.pinned (.plain (OpenSpec.upto mediaHoldsSpec)) mediaHoldsUptoCard
end Rows
end Go.Proofs.YtkimpaokepfonaaGreatDoor
