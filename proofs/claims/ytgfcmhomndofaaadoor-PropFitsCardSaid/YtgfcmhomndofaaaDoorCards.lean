/-
  DERIVED. GIVEN WITH THE SEED: THE CARDS: each row of YtgfcmhomndofaaaDoorRows.lean that lists a variable, with what it lists TIED to the program's text (the seventh form; the later family's looks); each row that meets fmt, with fmt's text TOLD by the authors' own Lean function (tested against real Go, not proved from fmt's source: count such statements apart). THE CARD IS WHAT COUNTS. Prove the row's statement (the work); the ties are given (YtgfcmhomndofaaaDoorTie.lean); close each card by the builder's one call (the guide's Derived/Test/ToyasCard.lean, 'card_holds'). Laid BY PROGRAM, IN A SANDBOX (cutbox-door.mjs). By AI agents, Wed Nov 11 2026. No macro, syntax, notation, axiom, sorry.
-/
import Derived.Test.YtgfcmhomndofaaaDoorRows
import GoSem.ClaimSeven
namespace Go.Proofs.YtgfcmhomndofaaaDoor
namespace Rows

/-- THE TIED CARD OF 'clerestorylaw2.StyleInitials'. -/
def styleInitialsCard : Claim7 := { stood := { row := styleInitialsRow, standIns := [], harness := (true, "8803c00e7138e1aef51d7f41192725135745406750c57e70bdded4c70479a1da"), looks := false }, kinds := [], alts := [], laidByText := true, laidKinds := [.data], laidTests := true, laidLooks := .later }
def StyleInitialsCardSaid : Prop := Claim7.holds Tryd.pinned (.plain (OpenSpec.ofChange styleInitialsSpec)) styleInitialsCard

/-- THE TIED CARD OF 'clerestorylaw4.ValueSays'. -/
def valueSaysCard : Claim7 := { stood := { row := valueSaysRow, standIns := [], harness := (true, "8803c00e7138e1aef51d7f41192725135745406750c57e70bdded4c70479a1da"), looks := false }, kinds := [], alts := [], laidByText := true, laidKinds := [.data, .data, .data], laidTests := true, laidLooks := .later }
def ValueSaysCardSaid : Prop := Claim7.holds Tryd.pinned (.plain (OpenSpec.ofChange valueSaysSpec)) valueSaysCard

/-- THE TIED CARD OF 'clerestorylaw2.PropFits'. -/
def propFitsCard : Claim7 := { stood := { row := propFitsRow, standIns := [], harness := (true, "8803c00e7138e1aef51d7f41192725135745406750c57e70bdded4c70479a1da"), looks := false }, kinds := [], alts := [], laidByText := true, laidKinds := [.data, .pinned], laidTests := true, laidLooks := .later }
def PropFitsCardSaid : Prop := Claim7.holds Tryd.pinned (.plain (OpenSpec.ofChange propFitsSpec)) propFitsCard

/-- THE SECOND FORM's CARD OF 'clerestorylaw2.StyleInitials'. -/
def styleInitialsUptoCard : Claim7 := { stood := { row := styleInitialsUptoRow, standIns := [], harness := (true, "8803c00e7138e1aef51d7f41192725135745406750c57e70bdded4c70479a1da"), looks := false }, kinds := [], alts := [], laidByText := true, laidKinds := [.data], laidTests := true, laidLooks := .later }
def StyleInitialsUptoCardSaid : Prop := Claim7.holds Tryd.pinned (.plain (OpenSpec.upto styleInitialsSpec)) styleInitialsUptoCard

/-- THE SECOND FORM's CARD OF 'clerestorylaw4.ValueSays'. -/
def valueSaysUptoCard : Claim7 := { stood := { row := valueSaysUptoRow, standIns := [], harness := (true, "8803c00e7138e1aef51d7f41192725135745406750c57e70bdded4c70479a1da"), looks := false }, kinds := [], alts := [], laidByText := true, laidKinds := [.data, .data, .data], laidTests := true, laidLooks := .later }
def ValueSaysUptoCardSaid : Prop := Claim7.holds Tryd.pinned (.plain (OpenSpec.upto valueSaysSpec)) valueSaysUptoCard

/-- THE SECOND FORM's CARD OF 'clerestorylaw2.PropFits'. -/
def propFitsUptoCard : Claim7 := { stood := { row := propFitsUptoRow, standIns := [], harness := (true, "8803c00e7138e1aef51d7f41192725135745406750c57e70bdded4c70479a1da"), looks := false }, kinds := [], alts := [], laidByText := true, laidKinds := [.data, .pinned], laidTests := true, laidLooks := .later }
def PropFitsUptoCardSaid : Prop := Claim7.holds Tryd.pinned (.plain (OpenSpec.upto propFitsSpec)) propFitsUptoCard
end Rows
end Go.Proofs.YtgfcmhomndofaaaDoor
