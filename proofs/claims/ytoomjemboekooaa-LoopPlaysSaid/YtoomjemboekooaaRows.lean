/-
  No cell of these rows narrows 'for every input' (looked for: loops, veiled, ifaces, maps, wideKeys, modest, calm, conditions, laid).
  DERIVED. THE GIVEN ROWS OF THIS SEAT. 3 by the template 'for every input the law returns true; each argument reads behind the call as it read before'; 0 by the template 'total and deterministic' (their statements: YtoomjemboekooaaTotals.lean).
  GIVEN WITH THE SEED: the statements are not yours to turn. If you find one false, say at which input.
  Laid BY PROGRAM, IN A SANDBOX (cutbox-rows.mjs): the forced cells as the released guide's own fill.sh prints them over the translation 8063baaf3f429b0b… (all of the seat's roots in one cut). By AI agents, Wed Nov 11 2026. No macro, syntax, notation, axiom, sorry.
-/
import Derived.Test.YtoomjemboekooaaChecked
import GoSem.Claim
import GoSem.ClaimJoined
import GoSem.ClaimMapViews
import Derived.JoinedTies
import Derived.KernelRfl
namespace Go.Proofs.Ytoomjemboekooaa
/- THE CELL 'sum', in the pinned program and in every row, IS THE sha256 OF THE DUMP (.gsa) THAT YtoomjemboekooaaProg.lean LOADS. Nothing in Lean hashes anything: it is a label: what it is worth is what the hold of that sum in a sandbox is worth. -/
noncomputable def Try.pinned : Pinned := { name := "ytoomjemboekooaa", sum := "8063baaf3f429b0beddffcf10c17b4e5df65454defd803c6433e8c23deecc102", checked := Try.checked }
namespace Rows
def none {H : Type} : Left H := { results := [], args := [] }

/-- 'clerestorylaw4.LoopSteps': WHATEVER THE INPUT: true; the input reads as it did. -/
def loopStepsSpec : ChangeSpec := { name := "loopSteps", fn := fun _ => fun
  | [d1, d2, d3] => { results := [.lit (.bool true)], args := [d1, d2, d3] }
  | _ => none }
def loopStepsRow : OpenClaim := { program := "ytoomjemboekooaa", sum := "8063baaf3f429b0beddffcf10c17b4e5df65454defd803c6433e8c23deecc102", func := "clerestory/clerestorylaw4.LoopSteps", spec := "loopSteps", inPlace := ["slices.overlaps[clerestory/api.JTimer]"], unfollowed := true, recurses := true, apart := false }
def LoopStepsSaid : Prop := loopStepsRow.holds Try.pinned (OpenSpec.ofChange loopStepsSpec)

/-- ITS FALSE NEIGHBOUR: 'it returns false'. Refute it at one input. -/
def loopStepsWrong : ChangeSpec := { name := "loopSteps", fn := fun _ => fun
  | [d1, d2, d3] => { results := [.lit (.bool false)], args := [d1, d2, d3] }
  | _ => none }
def LoopStepsWrongFalsely : Prop := loopStepsRow.holds Try.pinned (OpenSpec.ofChange loopStepsWrong)

/-- 'clerestorylaw4.LoopPlays': WHATEVER THE INPUT: true; the input reads as it did. -/
def loopPlaysSpec : ChangeSpec := { name := "loopPlays", fn := fun _ => fun
  | [d] => { results := [.lit (.bool true)], args := [d] }
  | _ => none }
def loopPlaysRow : OpenClaim := { program := "ytoomjemboekooaa", sum := "8063baaf3f429b0beddffcf10c17b4e5df65454defd803c6433e8c23deecc102", func := "clerestory/clerestorylaw4.LoopPlays", spec := "loopPlays", inPlace := ["slices.overlaps[clerestory/api.JTimer]"], unfollowed := true, recurses := true, apart := false }
def LoopPlaysSaid : Prop := loopPlaysRow.holds Try.pinned (OpenSpec.ofChange loopPlaysSpec)

/-- ITS FALSE NEIGHBOUR: 'it returns false'. Refute it at one input. -/
def loopPlaysWrong : ChangeSpec := { name := "loopPlays", fn := fun _ => fun
  | [d] => { results := [.lit (.bool false)], args := [d] }
  | _ => none }
def LoopPlaysWrongFalsely : Prop := loopPlaysRow.holds Try.pinned (OpenSpec.ofChange loopPlaysWrong)

/-- 'clerestorylaw4.HeapSays': WHATEVER THE INPUT: true; the input reads as it did. -/
def heapSaysSpec : ChangeSpec := { name := "heapSays", fn := fun _ => fun
  | [d1, d2] => { results := [.lit (.bool true)], args := [d1, d2] }
  | _ => none }
def heapSaysRow : OpenClaim := { program := "ytoomjemboekooaa", sum := "8063baaf3f429b0beddffcf10c17b4e5df65454defd803c6433e8c23deecc102", func := "clerestory/clerestorylaw4.HeapSays", spec := "heapSays", unfollowed := true, recurses := true, apart := false }
def HeapSaysSaid : Prop := heapSaysRow.holds Try.pinned (OpenSpec.ofChange heapSaysSpec)

/-- ITS FALSE NEIGHBOUR: 'it returns false'. Refute it at one input. -/
def heapSaysWrong : ChangeSpec := { name := "heapSays", fn := fun _ => fun
  | [d1, d2] => { results := [.lit (.bool false)], args := [d1, d2] }
  | _ => none }
def HeapSaysWrongFalsely : Prop := heapSaysRow.holds Try.pinned (OpenSpec.ofChange heapSaysWrong)

/- THE SECOND FORM. 'bulk': how many values and letters a reading holds, each counted each time it is reached (what is shared counts as often as it is met; a slice's spare places count too). A statement '..UptoSaid' is the law's where the arguments, and the package variables that the reading takes, are together of bulk at most 1048576: NARROWER than '..Said'. Prove '..Said' where nothing that the law and all that it calls make is longer than what came in: it says more and counts as full. Else prove '..UptoSaid'. A law counts once. -/
mutual
def uptoBulk {H : Type} : DataW H → Nat
  | .lit (.string bytes) => bytes.length + 1
  | .lit _ => 1
  | .nil => 1
  | .ptr d => uptoBulk d + 1
  | .slice elems spare => uptoBulkAll elems + uptoBulkAll spare + 1
  | .agg parts => uptoBulkAll parts + 1
  | .iface _ d => uptoBulk d + 1
  | .map entries => uptoBulkEntries entries + 1
  | .held _ => 1
def uptoBulkAll {H : Type} : List (DataW H) → Nat
  | [] => 0
  | d :: r => uptoBulk d + uptoBulkAll r
def uptoBulkEntries {H : Type} : List (Lit × DataW H) → Nat
  | [] => 0
  | x :: r => uptoBulkEntry x + uptoBulkEntries r
def uptoBulkEntry {H : Type} : Lit × DataW H → Nat
  | (.string bytes, d) => bytes.length + uptoBulk d + 1
  | (_, d) => uptoBulk d + 1
 end
def uptoSmall : (H : Type) → List (DataW H) → Bool := fun _ ds => decide (uptoBulkAll ds ≤ 1048576)
def OpenSpec.upto (s : _root_.Go.ChangeSpec) : _root_.Go.OpenSpec := { _root_.Go.OpenSpec.ofChange s with cond := some uptoSmall }

/-- 'clerestorylaw4.LoopSteps', WHERE WHAT IT READS IS OF BULK AT MOST 1048576: true; the input reads as it did. -/
def loopStepsUptoRow : OpenClaim := { program := "ytoomjemboekooaa", sum := "8063baaf3f429b0beddffcf10c17b4e5df65454defd803c6433e8c23deecc102", func := "clerestory/clerestorylaw4.LoopSteps", spec := "loopSteps", inPlace := ["slices.overlaps[clerestory/api.JTimer]"], unfollowed := true, recurses := true, apart := false, narrowed := true }
def LoopStepsUptoSaid : Prop := loopStepsUptoRow.holds Try.pinned (OpenSpec.upto loopStepsSpec)

/-- 'clerestorylaw4.LoopPlays', WHERE WHAT IT READS IS OF BULK AT MOST 1048576: true; the input reads as it did. -/
def loopPlaysUptoRow : OpenClaim := { program := "ytoomjemboekooaa", sum := "8063baaf3f429b0beddffcf10c17b4e5df65454defd803c6433e8c23deecc102", func := "clerestory/clerestorylaw4.LoopPlays", spec := "loopPlays", inPlace := ["slices.overlaps[clerestory/api.JTimer]"], unfollowed := true, recurses := true, apart := false, narrowed := true }
def LoopPlaysUptoSaid : Prop := loopPlaysUptoRow.holds Try.pinned (OpenSpec.upto loopPlaysSpec)

/-- 'clerestorylaw4.HeapSays', WHERE WHAT IT READS IS OF BULK AT MOST 1048576: true; the input reads as it did. -/
def heapSaysUptoRow : OpenClaim := { program := "ytoomjemboekooaa", sum := "8063baaf3f429b0beddffcf10c17b4e5df65454defd803c6433e8c23deecc102", func := "clerestory/clerestorylaw4.HeapSays", spec := "heapSays", unfollowed := true, recurses := true, apart := false, narrowed := true }
def HeapSaysUptoSaid : Prop := heapSaysUptoRow.holds Try.pinned (OpenSpec.upto heapSaysSpec)

end Rows
end Go.Proofs.Ytoomjemboekooaa
