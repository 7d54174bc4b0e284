/- The law ColorTells, over plain values. No program is in sight. -/
import Derived.Test.YtmpdhpfimmahfaaDoorCTextColorTells
import Derived.Test.YtmpdhpfimmahfaaDoorCReadColorTells
namespace Go.Proofs.YtmpdhpfimmahfaaDoorBv
open Go
set_option linter.unusedSimpArgs false
set_option linter.unusedVariables false
theorem pureColorTells : PureColorTells := by
  intro c hc
  unfold clerestorylaw2_ColorTells clerestorylaw2_ColorTells_j1
  rw [red_eq, Option.bind_some, if_pos rfl, ctext_eq, Option.bind_some, rctext_eq, Option.bind_some]
  simp
end Go.Proofs.YtmpdhpfimmahfaaDoorBv
