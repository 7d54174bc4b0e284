/-
  DERIVED. GIVEN WITH THE SEED: THE CARDS: each row of YtagfmlkihindaaaDoorRows.lean that lists a variable, with what it lists TIED to the program's text (the seventh form; the later family's looks); each row that meets fmt, with fmt's text TOLD by the authors' own Lean function (tested against real Go, not proved from fmt's source: count such statements apart). THE CARD IS WHAT COUNTS. Prove the row's statement (the work); the ties are given (YtagfmlkihindaaaDoorTie.lean); close each card by the builder's one call (the guide's Derived/Test/ToyasCard.lean, 'card_holds'). Laid BY PROGRAM, IN A SANDBOX (cutbox-door.mjs). By AI agents, Wed Nov 11 2026. No macro, syntax, notation, axiom, sorry.
-/
import Derived.Test.YtagfmlkihindaaaDoorRows
import GoSem.ClaimSeven
namespace Go.Proofs.YtagfmlkihindaaaDoor
namespace Rows

/-- THE TIED CARD OF 'clerestorylaw4.CodeChecks'. -/
def codeChecksCard : Claim7 := { stood := { row := codeChecksRow, standIns := [], harness := (true, "41e547fbe42d7b5943deb6386e08341b7f908f8561d697b93a28b15b440e8ab8"), looks := false }, kinds := [], alts := [], laidByText := true, laidKinds := [.listed, .data], laidTests := true, laidLooks := .later }
def CodeChecksCardSaid : Prop := Claim7.holds Tryd.pinned (.plain (OpenSpec.ofChange codeChecksSpec)) codeChecksCard

/-- THE TIED CARD OF 'clerestorylaw4.UrlCodes'. -/
def urlCodesCard : Claim7 := { stood := { row := urlCodesRow, standIns := [], harness := (true, "41e547fbe42d7b5943deb6386e08341b7f908f8561d697b93a28b15b440e8ab8"), looks := false }, kinds := [], alts := [], laidByText := true, laidKinds := [.data, .pinned, .pinned], laidTests := true, laidLooks := .later }
def UrlCodesCardSaid : Prop := Claim7.holds Tryd.pinned (.plain (OpenSpec.ofChange urlCodesSpec)) urlCodesCard

/-- THE TIED CARD OF 'clerestorylaw4.JlexSays'. -/
def jlexSaysCard : Claim7 := { stood := { row := jlexSaysRow, standIns := [], harness := (true, "41e547fbe42d7b5943deb6386e08341b7f908f8561d697b93a28b15b440e8ab8"), looks := false }, kinds := [], alts := [], laidByText := true, laidKinds := [.listed, .data], laidTests := true, laidLooks := .later }
def JlexSaysCardSaid : Prop := Claim7.holds Tryd.pinned (.plain (OpenSpec.ofChange jlexSaysSpec)) jlexSaysCard

/-- THE TIED CARD OF 'clerestorylaw4.EventSays'. -/
def eventSaysCard : Claim7 := { stood := { row := eventSaysRow, standIns := [], harness := (true, "41e547fbe42d7b5943deb6386e08341b7f908f8561d697b93a28b15b440e8ab8"), looks := false }, kinds := [], alts := [], laidByText := true, laidKinds := [.data, .pinned], laidTests := true, laidLooks := .later }
def EventSaysCardSaid : Prop := Claim7.holds Tryd.pinned (.plain (OpenSpec.ofChange eventSaysSpec)) eventSaysCard

/-- THE TIED CARD OF 'clerestorylaw2.DimPxs'. -/
def dimPxsCard : Claim7 := { stood := { row := dimPxsRow, standIns := [], harness := (true, "41e547fbe42d7b5943deb6386e08341b7f908f8561d697b93a28b15b440e8ab8"), looks := false }, kinds := [], alts := [], laidByText := true, laidKinds := [.data, .widerDeep, .pinned], laidTests := true, laidLooks := .later }
def DimPxsCardSaid : Prop := Claim7.holds Tryd.pinned (.plain (OpenSpec.ofChange dimPxsSpec)) dimPxsCard

/-- THE TIED CARD OF 'clerestorylaw2.CountMarks'. -/
def countMarksCard : Claim7 := { stood := { row := countMarksRow, standIns := [], harness := (true, "41e547fbe42d7b5943deb6386e08341b7f908f8561d697b93a28b15b440e8ab8"), looks := false }, kinds := [], alts := [], laidByText := true, laidKinds := [.data, .data, .data, .data, .pinned, .pinned], laidTests := true, laidLooks := .later }
def CountMarksCardSaid : Prop := Claim7.holds Tryd.pinned (.plain (OpenSpec.ofChange countMarksSpec)) countMarksCard

/-- THE TIED CARD OF 'clerestorylaw2.StyleFits'. -/
def styleFitsCard : Claim7 := { stood := { row := styleFitsRow, standIns := [], harness := (true, "41e547fbe42d7b5943deb6386e08341b7f908f8561d697b93a28b15b440e8ab8"), looks := false }, kinds := [], alts := [], laidByText := true, laidKinds := [.data, .data, .pinned], laidTests := true, laidLooks := .later }
def StyleFitsCardSaid : Prop := Claim7.holds Tryd.pinned (.plain (OpenSpec.ofChange styleFitsSpec)) styleFitsCard

/-- THE SECOND FORM's CARD OF 'clerestorylaw4.CodeChecks'. -/
def codeChecksUptoCard : Claim7 := { stood := { row := codeChecksUptoRow, standIns := [], harness := (true, "41e547fbe42d7b5943deb6386e08341b7f908f8561d697b93a28b15b440e8ab8"), looks := false }, kinds := [], alts := [], laidByText := true, laidKinds := [.listed, .data], laidTests := true, laidLooks := .later }
def CodeChecksUptoCardSaid : Prop := Claim7.holds Tryd.pinned (.plain (OpenSpec.upto codeChecksSpec)) codeChecksUptoCard

/-- THE SECOND FORM's CARD OF 'clerestorylaw4.UrlCodes'. -/
def urlCodesUptoCard : Claim7 := { stood := { row := urlCodesUptoRow, standIns := [], harness := (true, "41e547fbe42d7b5943deb6386e08341b7f908f8561d697b93a28b15b440e8ab8"), looks := false }, kinds := [], alts := [], laidByText := true, laidKinds := [.data, .pinned, .pinned], laidTests := true, laidLooks := .later }
def UrlCodesUptoCardSaid : Prop := Claim7.holds Tryd.pinned (.plain (OpenSpec.upto urlCodesSpec)) urlCodesUptoCard

/-- THE SECOND FORM's CARD OF 'clerestorylaw4.JlexSays'. -/
def jlexSaysUptoCard : Claim7 := { stood := { row := jlexSaysUptoRow, standIns := [], harness := (true, "41e547fbe42d7b5943deb6386e08341b7f908f8561d697b93a28b15b440e8ab8"), looks := false }, kinds := [], alts := [], laidByText := true, laidKinds := [.listed, .data], laidTests := true, laidLooks := .later }
def JlexSaysUptoCardSaid : Prop := Claim7.holds Tryd.pinned (.plain (OpenSpec.upto jlexSaysSpec)) jlexSaysUptoCard

/-- THE SECOND FORM's CARD OF 'clerestorylaw4.EventSays'. -/
def eventSaysUptoCard : Claim7 := { stood := { row := eventSaysUptoRow, standIns := [], harness := (true, "41e547fbe42d7b5943deb6386e08341b7f908f8561d697b93a28b15b440e8ab8"), looks := false }, kinds := [], alts := [], laidByText := true, laidKinds := [.data, .pinned], laidTests := true, laidLooks := .later }
def EventSaysUptoCardSaid : Prop := Claim7.holds Tryd.pinned (.plain (OpenSpec.upto eventSaysSpec)) eventSaysUptoCard

/-- THE SECOND FORM's CARD OF 'clerestorylaw2.DimPxs'. -/
def dimPxsUptoCard : Claim7 := { stood := { row := dimPxsUptoRow, standIns := [], harness := (true, "41e547fbe42d7b5943deb6386e08341b7f908f8561d697b93a28b15b440e8ab8"), looks := false }, kinds := [], alts := [], laidByText := true, laidKinds := [.data, .widerDeep, .pinned], laidTests := true, laidLooks := .later }
def DimPxsUptoCardSaid : Prop := Claim7.holds Tryd.pinned (.plain (OpenSpec.upto dimPxsSpec)) dimPxsUptoCard

/-- THE SECOND FORM's CARD OF 'clerestorylaw2.CountMarks'. -/
def countMarksUptoCard : Claim7 := { stood := { row := countMarksUptoRow, standIns := [], harness := (true, "41e547fbe42d7b5943deb6386e08341b7f908f8561d697b93a28b15b440e8ab8"), looks := false }, kinds := [], alts := [], laidByText := true, laidKinds := [.data, .data, .data, .data, .pinned, .pinned], laidTests := true, laidLooks := .later }
def CountMarksUptoCardSaid : Prop := Claim7.holds Tryd.pinned (.plain (OpenSpec.upto countMarksSpec)) countMarksUptoCard

/-- THE SECOND FORM's CARD OF 'clerestorylaw2.StyleFits'. -/
def styleFitsUptoCard : Claim7 := { stood := { row := styleFitsUptoRow, standIns := [], harness := (true, "41e547fbe42d7b5943deb6386e08341b7f908f8561d697b93a28b15b440e8ab8"), looks := false }, kinds := [], alts := [], laidByText := true, laidKinds := [.data, .data, .pinned], laidTests := true, laidLooks := .later }
def StyleFitsUptoCardSaid : Prop := Claim7.holds Tryd.pinned (.plain (OpenSpec.upto styleFitsSpec)) styleFitsUptoCard
end Rows
end Go.Proofs.YtagfmlkihindaaaDoor
