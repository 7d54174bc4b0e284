/- strings.IndexRune at a rune past 127 in a text of ASCII bytes, strings.IndexAny of ASCII bytes in any text: walked for any program, beside the kit's own contracts. It proves nothing of any program. -/
import Derived.Shelf.Strings.IndexAnyAll
import Derived.Laws.RangeAny
import Derived.Laws.Runes
import Derived.WalkMore
import Derived.Shelf.Small.Utf8
import Derived.Shelf.RegionOpenPlain
import Derived.BigQuiet
import Derived.Lib.OthersKept
namespace Go.Proofs.YtnfgjdbajefoiaaGreatDoorBv
open Go Go.Proofs
open Go.Shelf Go.RowKit Go.Lib
variable {P : Program} {ρ : Ren}
end Go.Proofs.YtnfgjdbajefoiaaGreatDoorBv
