/- The calculus: rounds that are bounded by a number (for what is reckoned at constants). -/
import Derived.Test.YtcnfmehidmjejaaGreatDoorBv22
namespace Go.Proofs.YtcnfmehidmjejaaGreatDoorBv
open Go
/-- five hundred rounds -/
def limF {α : Type} (g : Nat → Option α) : Option α := g 500
theorem limF_some {α : Type} {g : Nat → Option α} {r : α} (h : limF g = some r) : ∃ k, g k = some r := ⟨500, h⟩
end Go.Proofs.YtcnfmehidmjejaaGreatDoorBv
