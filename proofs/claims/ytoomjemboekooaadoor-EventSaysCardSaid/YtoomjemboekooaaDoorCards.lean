/-
  DERIVED. GIVEN WITH THE SEED: THE CARDS: each row of YtoomjemboekooaaDoorRows.lean that lists a variable, with what it lists TIED to the program's text (the seventh form; the later family's looks); each row that meets fmt, with fmt's text TOLD by the authors' own Lean function (tested against real Go, not proved from fmt's source: count such statements apart). THE CARD IS WHAT COUNTS. Prove the row's statement (the work); the ties are given (YtoomjemboekooaaDoorTie.lean); close each card by the builder's one call (the guide's Derived/Test/ToyasCard.lean, 'card_holds'). Laid BY PROGRAM, IN A SANDBOX (cutbox-door.mjs). By AI agents, Wed Nov 11 2026. No macro, syntax, notation, axiom, sorry.
-/
import Derived.Test.YtoomjemboekooaaDoorRows
import GoSem.ClaimSeven
namespace Go.Proofs.YtoomjemboekooaaDoor
namespace Rows

/-- THE TIED CARD OF 'clerestorylaw4.EventSays'. -/
def eventSaysCard : Claim7 := { stood := { row := eventSaysRow, standIns := [], harness := (true, "c064362aa608ede0fbb2ec93f1bdefce706a08e32e4c330e0316cf0b373e8fd6"), looks := false }, kinds := [], alts := [], laidByText := true, laidKinds := [.data, .pinned], laidTests := true, laidLooks := .later }
def EventSaysCardSaid : Prop := Claim7.holds Tryd.pinned (.plain (OpenSpec.ofChange eventSaysSpec)) eventSaysCard

/-- THE TIED CARD OF 'clerestorylaw4.CodeChecks'. -/
def codeChecksCard : Claim7 := { stood := { row := codeChecksRow, standIns := [], harness := (true, "c064362aa608ede0fbb2ec93f1bdefce706a08e32e4c330e0316cf0b373e8fd6"), looks := false }, kinds := [], alts := [], laidByText := true, laidKinds := [.listed, .data], laidTests := true, laidLooks := .later }
def CodeChecksCardSaid : Prop := Claim7.holds Tryd.pinned (.plain (OpenSpec.ofChange codeChecksSpec)) codeChecksCard

/-- THE SECOND FORM's CARD OF 'clerestorylaw4.EventSays'. -/
def eventSaysUptoCard : Claim7 := { stood := { row := eventSaysUptoRow, standIns := [], harness := (true, "c064362aa608ede0fbb2ec93f1bdefce706a08e32e4c330e0316cf0b373e8fd6"), looks := false }, kinds := [], alts := [], laidByText := true, laidKinds := [.data, .pinned], laidTests := true, laidLooks := .later }
def EventSaysUptoCardSaid : Prop := Claim7.holds Tryd.pinned (.plain (OpenSpec.upto eventSaysSpec)) eventSaysUptoCard

/-- THE SECOND FORM's CARD OF 'clerestorylaw4.CodeChecks'. -/
def codeChecksUptoCard : Claim7 := { stood := { row := codeChecksUptoRow, standIns := [], harness := (true, "c064362aa608ede0fbb2ec93f1bdefce706a08e32e4c330e0316cf0b373e8fd6"), looks := false }, kinds := [], alts := [], laidByText := true, laidKinds := [.listed, .data], laidTests := true, laidLooks := .later }
def CodeChecksUptoCardSaid : Prop := Claim7.holds Tryd.pinned (.plain (OpenSpec.upto codeChecksSpec)) codeChecksUptoCard
end Rows
end Go.Proofs.YtoomjemboekooaaDoor
