/-
  DERIVED. GIVEN WITH THE SEED: THE CARDS: each row of YtaejmblphhjccaaGreatDoorRows.lean that lists a variable, with what it lists TIED to the program's text (the seventh form; the later family's looks); each row that meets fmt, with fmt's text TOLD by the authors' own Lean function (tested against real Go, not proved from fmt's source: count such statements apart). THE CARD IS WHAT COUNTS. Prove the row's statement (the work); the ties are given (YtaejmblphhjccaaGreatDoorTie.lean); close each card by the builder's one call (the guide's Derived/Test/ToyasCard.lean, 'card_holds'). Laid BY PROGRAM, IN A SANDBOX (cutbox-door.mjs). By AI agents, Wed Nov 11 2026. No macro, syntax, notation, axiom, sorry.
-/
import Derived.Test.YtaejmblphhjccaaGreatDoorRows
import GoSem.ClaimSeven
namespace Go.Proofs.YtaejmblphhjccaaGreatDoor
namespace Rows

/-- THE TIED CARD OF 'clerestorylaw2.CountNumbers'. -/
def countNumbersCard : Claim7 := { stood := { row := countNumbersRow, standIns := [], harness := (true, "053f46775df83ce64a448f020b5d00f2dd1ae4d1594a690b615347a39f2e6e46"), looks := true }, kinds := [], alts := [], laidByText := true, laidKinds := [.data, .data, .data, .data, .sentinel, .sentinel, .pinned, .pinned], laidTests := true, laidLooks := .later }
def CountNumbersCardSaid : Prop := Claim7.holds Tryz.pinned (.plain (OpenSpec.ofChange countNumbersSpec)) countNumbersCard

/-- THE TIED CARD OF 'clerestorylaw2.LookOwners'. -/
def lookOwnersCard : Claim7 := { stood := { row := lookOwnersRow, standIns := [], harness := (true, "053f46775df83ce64a448f020b5d00f2dd1ae4d1594a690b615347a39f2e6e46"), looks := true }, kinds := [], alts := [], laidByText := true, laidKinds := [.data, .data, .data, .data, .sentinel, .sentinel, .data, .data, .pinned, .pinned], laidTests := true, laidLooks := .later }
def LookOwnersCardSaid : Prop := Claim7.holds Tryz.pinned (.plain (OpenSpec.ofChange lookOwnersSpec)) lookOwnersCard

/-- THE TIED CARD OF 'clerestorylaw2.SelectChecks'. -/
def selectChecksCard : Claim7 := { stood := { row := selectChecksRow, standIns := [], harness := (true, "053f46775df83ce64a448f020b5d00f2dd1ae4d1594a690b615347a39f2e6e46"), looks := true }, kinds := [], alts := [], laidByText := true, laidKinds := [.data, .data, .data, .data, .sentinel, .sentinel, .pinned], laidTests := true, laidLooks := .later }
def SelectChecksCardSaid : Prop := Claim7.holds Tryz.pinned (.plain (OpenSpec.ofChange selectChecksSpec)) selectChecksCard

/-- THE SECOND FORM's CARD OF 'clerestorylaw2.CountNumbers'. -/
def countNumbersUptoCard : Claim7 := { stood := { row := countNumbersUptoRow, standIns := [], harness := (true, "053f46775df83ce64a448f020b5d00f2dd1ae4d1594a690b615347a39f2e6e46"), looks := true }, kinds := [], alts := [], laidByText := true, laidKinds := [.data, .data, .data, .data, .sentinel, .sentinel, .pinned, .pinned], laidTests := true, laidLooks := .later }
def CountNumbersUptoCardSaid : Prop := Claim7.holds Tryz.pinned (.plain (OpenSpec.upto countNumbersSpec)) countNumbersUptoCard

/-- THE SECOND FORM's CARD OF 'clerestorylaw2.LookOwners'. -/
def lookOwnersUptoCard : Claim7 := { stood := { row := lookOwnersUptoRow, standIns := [], harness := (true, "053f46775df83ce64a448f020b5d00f2dd1ae4d1594a690b615347a39f2e6e46"), looks := true }, kinds := [], alts := [], laidByText := true, laidKinds := [.data, .data, .data, .data, .sentinel, .sentinel, .data, .data, .pinned, .pinned], laidTests := true, laidLooks := .later }
def LookOwnersUptoCardSaid : Prop := Claim7.holds Tryz.pinned (.plain (OpenSpec.upto lookOwnersSpec)) lookOwnersUptoCard

/-- THE SECOND FORM's CARD OF 'clerestorylaw2.SelectChecks'. -/
def selectChecksUptoCard : Claim7 := { stood := { row := selectChecksUptoRow, standIns := [], harness := (true, "053f46775df83ce64a448f020b5d00f2dd1ae4d1594a690b615347a39f2e6e46"), looks := true }, kinds := [], alts := [], laidByText := true, laidKinds := [.data, .data, .data, .data, .sentinel, .sentinel, .pinned], laidTests := true, laidLooks := .later }
def SelectChecksUptoCardSaid : Prop := Claim7.holds Tryz.pinned (.plain (OpenSpec.upto selectChecksSpec)) selectChecksUptoCard
end Rows
end Go.Proofs.YtaejmblphhjccaaGreatDoor
