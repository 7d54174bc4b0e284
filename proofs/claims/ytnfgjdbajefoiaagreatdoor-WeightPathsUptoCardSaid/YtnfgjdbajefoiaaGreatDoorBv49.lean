/- The calculus: rounds that are bounded by a great number (what is reckoned at constants is printed so, and the kernel takes as many as are wanted). -/
import Derived.Test.YtnfgjdbajefoiaaGreatDoorBv22
namespace Go.Proofs.YtnfgjdbajefoiaaGreatDoorBv
open Go
def limF {α:Type}(g:Nat→Option α):Option α:=g 4611686018427387904
theorem limF_some {α:Type}{g:Nat→Option α}{r:α}(h:limF g=some r):∃ k,g k=some r:=⟨4611686018427387904,h⟩
theorem limF_of {α:Type}{g:Nat→Option α}{r:α}(N:Nat) (h:∀ k,N≤k→g k=some r) (hN:N≤4611686018427387904:=by omega):limF g=some r:=h _ hN
theorem limF_add {α:Type}{g:Nat→Option α}{c:Option α}(N:Nat) (h:∀ k,g (k+N)=c) (hN:N≤4611686018427387904:=by omega):limF g=c:=by
 have:=h (4611686018427387904 - N)
 rw [Nat.sub_add_cancel hN] at this
 exact this
end Go.Proofs.YtnfgjdbajefoiaaGreatDoorBv
