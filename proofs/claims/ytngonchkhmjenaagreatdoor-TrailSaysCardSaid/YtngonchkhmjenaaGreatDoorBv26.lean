/- The calculus: the library's contracts, met, further ones. It proves nothing of any program. -/
import Derived.Test.YtngonchkhmjenaaGreatDoorBv25
import Derived.Shelf.Small.Strs
import Derived.Shelf.Bits.Mul64
namespace Go.Proofs.YtngonchkhmjenaaGreatDoorBv
open Go
set_option linter.unusedVariables false
set_option linter.unusedSimpArgs false
theorem same_world {w:World}:w.heap.size≤w.heap.size∧(∀ k,k<w.heap.size→w.heap[k]? = w.heap[k]?)∧w.os=w.os∧w.tape=w.tape∧w.output=w.output:=⟨Nat.le_refl _,fun _ _=>rfl,rfl,rfl,rfl⟩
theorem tup2 {K:Ctx}{a b:AV}{u v:Value}(ha:RelV K a u) (hb:RelV K b v):RelV K (.tup [a,b]) (.tuple #[u,v]):=by
 refine .tup rfl fun i x hi=>?_
 match i,hi with
 | 0,hi=>cases hi; exact ha
 | 1,hi=>cases hi; exact hb
/-! ### strings.Compare -/
/-! ### math/bits.Mul64 -/
end Go.Proofs.YtngonchkhmjenaaGreatDoorBv
