/- The law of numbers, over plain values. No program is in sight. -/
import Derived.Test.YtdmmjgjmfpalhaaDoorCutAllTokenNumbers
import Derived.Test.YtdmmjgjmfpalhaaDoorRNumTokenNumbers
namespace Go.Proofs.YtdmmjgjmfpalhaaDoorBv
open Go
set_option linter.unusedSimpArgs false
set_option linter.unusedVariables false
theorem pureTokenNumbers : PureTokenNumbers := by
  intro s h
  have hs : s.length ≤ 140737488355328 := by
    have : s.length ≤ reachBytes := h
    unfold reachBytes at this
    omega
  unfold clerestorylaw2_TokenNumbers
  rw [cutFact_eq, Option.bind_some, Number_eq hs, Option.bind_some, NumberAt_eq hs, Option.bind_some]
  simp
end Go.Proofs.YtdmmjgjmfpalhaaDoorBv
