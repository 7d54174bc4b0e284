/-
  DERIVED. GIVEN WITH THE SEED: THE CARDS: each row of YtcnfmehidmjejaaDoorRows.lean that lists a variable, with what it lists TIED to the program's text (the seventh form; the later family's looks); each row that meets fmt, with fmt's text TOLD by the authors' own Lean function (tested against real Go, not proved from fmt's source: count such statements apart). THE CARD IS WHAT COUNTS. Prove the row's statement (the work); the ties are given (YtcnfmehidmjejaaDoorTie.lean); close each card by the builder's one call (the guide's Derived/Test/ToyasCard.lean, 'card_holds'). Laid BY PROGRAM, IN A SANDBOX (cutbox-door.mjs). By AI agents, Wed Nov 11 2026. No macro, syntax, notation, axiom, sorry.
-/
import Derived.Test.YtcnfmehidmjejaaDoorRows
import GoSem.ClaimSeven
namespace Go.Proofs.YtcnfmehidmjejaaDoor
namespace Rows

/-- THE TIED CARD OF 'clerestorylaw2.CalcTells'. -/
def calcTellsCard : Claim7 := { stood := { row := calcTellsRow, standIns := [], harness := (true, "9561098ba29fedb4cf58c809da156152f3a459bfef583e42830c1c0bedb8eeab"), looks := true }, kinds := [], alts := [], laidByText := true, laidKinds := [.data, .data, .data, .data, .widerDeep, .pinned], laidTests := true, laidLooks := .later }
def CalcTellsCardSaid : Prop := Claim7.holds Tryd.pinned (.plain (OpenSpec.ofChange calcTellsSpec)) calcTellsCard

/-- THE SECOND FORM's CARD OF 'clerestorylaw2.CalcTells'. -/
def calcTellsUptoCard : Claim7 := { stood := { row := calcTellsUptoRow, standIns := [], harness := (true, "9561098ba29fedb4cf58c809da156152f3a459bfef583e42830c1c0bedb8eeab"), looks := true }, kinds := [], alts := [], laidByText := true, laidKinds := [.data, .data, .data, .data, .widerDeep, .pinned], laidTests := true, laidLooks := .later }
def CalcTellsUptoCardSaid : Prop := Claim7.holds Tryd.pinned (.plain (OpenSpec.upto calcTellsSpec)) calcTellsUptoCard
end Rows
end Go.Proofs.YtcnfmehidmjejaaDoor
