/- All tokens of a text, as the program cuts them, and the one fact that each law of tokens asks for. No program is in sight. -/
import Derived.Test.YtdmmjgjmfpalhaaDoorCutTTokenTexts
namespace Go.Proofs.YtdmmjgjmfpalhaaDoorBv
open Go
set_option linter.unusedSimpArgs false
set_option linter.unusedVariables false
theorem cutFact_eq : clerestorylaw2_cutFact = some true := by
  unfold clerestorylaw2_cutFact
  have h : cutS [97, 58, 49, 112, 120] = [⟨1, [97], [97], 0⟩, ⟨12, [58], [], 0⟩, ⟨7, [49, 112, 120], [112, 120], 1000⟩] := by decide +kernel
  rw [cut_eq (by decide), Option.bind_some, h]
  rfl
end Go.Proofs.YtdmmjgjmfpalhaaDoorBv
