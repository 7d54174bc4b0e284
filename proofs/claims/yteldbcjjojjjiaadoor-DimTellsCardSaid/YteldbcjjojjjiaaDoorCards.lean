/-
  DERIVED. GIVEN WITH THE SEED: THE CARDS: each row of YteldbcjjojjjiaaDoorRows.lean that lists a variable, with what it lists TIED to the program's text (the seventh form; the later family's looks); each row that meets fmt, with fmt's text TOLD by the authors' own Lean function (tested against real Go, not proved from fmt's source: count such statements apart). THE CARD IS WHAT COUNTS. Prove the row's statement (the work); the ties are given (YteldbcjjojjjiaaDoorTie.lean); close each card by the builder's one call (the guide's Derived/Test/ToyasCard.lean, 'card_holds'). Laid BY PROGRAM, IN A SANDBOX (cutbox-door.mjs). By AI agents, Wed Nov 11 2026. No macro, syntax, notation, axiom, sorry.
-/
import Derived.Test.YteldbcjjojjjiaaDoorRows
import GoSem.ClaimSeven
namespace Go.Proofs.YteldbcjjojjjiaaDoor
namespace Rows

/-- THE TIED CARD OF 'clerestorylaw2.DimTells'. -/
def dimTellsCard : Claim7 := { stood := { row := dimTellsRow, standIns := [], harness := (true, "94212e714ddeb06a3246785d31aa4b428f72ae08a6e4d216ddd82cfb3854d38b"), looks := true }, kinds := [], alts := [], laidByText := true, laidKinds := [.data, .data, .data, .data, .widerDeep, .pinned], laidTests := true, laidLooks := .later }
def DimTellsCardSaid : Prop := Claim7.holds Tryd.pinned (.plain (OpenSpec.ofChange dimTellsSpec)) dimTellsCard

/-- THE TIED CARD OF 'clerestorylaw2.PropTells'. -/
def propTellsCard : Claim7 := { stood := { row := propTellsRow, standIns := [], harness := (true, "94212e714ddeb06a3246785d31aa4b428f72ae08a6e4d216ddd82cfb3854d38b"), looks := true }, kinds := [], alts := [], laidByText := true, laidKinds := [.data, .data, .data, .data, .pinned], laidTests := true, laidLooks := .later }
def PropTellsCardSaid : Prop := Claim7.holds Tryd.pinned (.plain (OpenSpec.ofChange propTellsSpec)) propTellsCard

/-- THE TIED CARD OF 'clerestorylaw2.VarFills'. -/
def varFillsCard : Claim7 := { stood := { row := varFillsRow, standIns := [], harness := (true, "94212e714ddeb06a3246785d31aa4b428f72ae08a6e4d216ddd82cfb3854d38b"), looks := true }, kinds := [], alts := [], laidByText := true, laidKinds := [.data, .data, .data, .pinned, .pinned], laidTests := true, laidLooks := .later }
def VarFillsCardSaid : Prop := Claim7.holds Tryd.pinned (.plain (OpenSpec.ofChange varFillsSpec)) varFillsCard

/-- THE TIED CARD OF 'clerestorylaw2.ColorOvers'. -/
def colorOversCard : Claim7 := { stood := { row := colorOversRow, standIns := [], harness := (true, "94212e714ddeb06a3246785d31aa4b428f72ae08a6e4d216ddd82cfb3854d38b"), looks := true }, kinds := [], alts := [], laidByText := true, laidKinds := [.data, .data, .data, .data, .sentinel, .sentinel, .pinned], laidTests := true, laidLooks := .later }
def ColorOversCardSaid : Prop := Claim7.holds Tryd.pinned (.plain (OpenSpec.ofChange colorOversSpec)) colorOversCard

/-- THE SECOND FORM's CARD OF 'clerestorylaw2.DimTells'. -/
def dimTellsUptoCard : Claim7 := { stood := { row := dimTellsUptoRow, standIns := [], harness := (true, "94212e714ddeb06a3246785d31aa4b428f72ae08a6e4d216ddd82cfb3854d38b"), looks := true }, kinds := [], alts := [], laidByText := true, laidKinds := [.data, .data, .data, .data, .widerDeep, .pinned], laidTests := true, laidLooks := .later }
def DimTellsUptoCardSaid : Prop := Claim7.holds Tryd.pinned (.plain (OpenSpec.upto dimTellsSpec)) dimTellsUptoCard

/-- THE SECOND FORM's CARD OF 'clerestorylaw2.PropTells'. -/
def propTellsUptoCard : Claim7 := { stood := { row := propTellsUptoRow, standIns := [], harness := (true, "94212e714ddeb06a3246785d31aa4b428f72ae08a6e4d216ddd82cfb3854d38b"), looks := true }, kinds := [], alts := [], laidByText := true, laidKinds := [.data, .data, .data, .data, .pinned], laidTests := true, laidLooks := .later }
def PropTellsUptoCardSaid : Prop := Claim7.holds Tryd.pinned (.plain (OpenSpec.upto propTellsSpec)) propTellsUptoCard

/-- THE SECOND FORM's CARD OF 'clerestorylaw2.VarFills'. -/
def varFillsUptoCard : Claim7 := { stood := { row := varFillsUptoRow, standIns := [], harness := (true, "94212e714ddeb06a3246785d31aa4b428f72ae08a6e4d216ddd82cfb3854d38b"), looks := true }, kinds := [], alts := [], laidByText := true, laidKinds := [.data, .data, .data, .pinned, .pinned], laidTests := true, laidLooks := .later }
def VarFillsUptoCardSaid : Prop := Claim7.holds Tryd.pinned (.plain (OpenSpec.upto varFillsSpec)) varFillsUptoCard

/-- THE SECOND FORM's CARD OF 'clerestorylaw2.ColorOvers'. -/
def colorOversUptoCard : Claim7 := { stood := { row := colorOversUptoRow, standIns := [], harness := (true, "94212e714ddeb06a3246785d31aa4b428f72ae08a6e4d216ddd82cfb3854d38b"), looks := true }, kinds := [], alts := [], laidByText := true, laidKinds := [.data, .data, .data, .data, .sentinel, .sentinel, .pinned], laidTests := true, laidLooks := .later }
def ColorOversUptoCardSaid : Prop := Claim7.holds Tryd.pinned (.plain (OpenSpec.upto colorOversSpec)) colorOversUptoCard
end Rows
end Go.Proofs.YteldbcjjojjjiaaDoor
