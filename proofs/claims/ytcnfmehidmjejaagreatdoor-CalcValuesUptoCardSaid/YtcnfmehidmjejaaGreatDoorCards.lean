/-
  DERIVED. GIVEN WITH THE SEED: THE CARDS: each row of YtcnfmehidmjejaaGreatDoorRows.lean that lists a variable, with what it lists TIED to the program's text (the seventh form; the later family's looks); each row that meets fmt, with fmt's text TOLD by the authors' own Lean function (tested against real Go, not proved from fmt's source: count such statements apart). THE CARD IS WHAT COUNTS. Prove the row's statement (the work); the ties are given (YtcnfmehidmjejaaGreatDoorTie.lean); close each card by the builder's one call (the guide's Derived/Test/ToyasCard.lean, 'card_holds'). Laid BY PROGRAM, IN A SANDBOX (cutbox-door.mjs). By AI agents, Wed Nov 11 2026. No macro, syntax, notation, axiom, sorry.
-/
import Derived.Test.YtcnfmehidmjejaaGreatDoorRows
import GoSem.ClaimSeven
namespace Go.Proofs.YtcnfmehidmjejaaGreatDoor
namespace Rows

/-- THE TIED CARD OF 'clerestorylaw2.CalcValues'. -/
def calcValuesCard : Claim7 := { stood := { row := calcValuesRow, standIns := [], harness := (true, "6e05db13eb9fb82d28ae79d735feb6b2689ce0adb0db70e217c33ec02ffb5089"), looks := true }, kinds := [], alts := [], laidByText := true, laidKinds := [.data, .data, .data, .data, .widerDeep, .pinned], laidTests := true, laidLooks := .later }
def CalcValuesCardSaid : Prop := Claim7.holds Tryz.pinned (.plain (OpenSpec.ofChange calcValuesSpec)) calcValuesCard

/-- THE SECOND FORM's CARD OF 'clerestorylaw2.CalcValues'. -/
def calcValuesUptoCard : Claim7 := { stood := { row := calcValuesUptoRow, standIns := [], harness := (true, "6e05db13eb9fb82d28ae79d735feb6b2689ce0adb0db70e217c33ec02ffb5089"), looks := true }, kinds := [], alts := [], laidByText := true, laidKinds := [.data, .data, .data, .data, .widerDeep, .pinned], laidTests := true, laidLooks := .later }
def CalcValuesUptoCardSaid : Prop := Claim7.holds Tryz.pinned (.plain (OpenSpec.upto calcValuesSpec)) calcValuesUptoCard
end Rows
end Go.Proofs.YtcnfmehidmjejaaGreatDoor
