/- The calculus: the library's contracts, met, further ones. It proves nothing of any program. -/
import Derived.Test.YtnfgjdbajefoiaaGreatDoorBv25
import Derived.Shelf.Small.Strs
import Derived.Shelf.Bits.Mul64
namespace Go.Proofs.YtnfgjdbajefoiaaGreatDoorBv
open Go
set_option linter.unusedVariables false
set_option linter.unusedSimpArgs false
theorem same_world {w:World}:w.heap.size≤w.heap.size∧(∀ k,k<w.heap.size→w.heap[k]? = w.heap[k]?)∧w.os=w.os∧w.tape=w.tape∧w.output=w.output:=⟨Nat.le_refl _,fun _ _=>rfl,rfl,rfl,rfl⟩
/-! ### strings.Compare -/
/-! ### math/bits.Mul64 -/
end Go.Proofs.YtnfgjdbajefoiaaGreatDoorBv
