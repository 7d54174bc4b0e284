/- 'LoopPlays' answers true, whatever is handed in. -/
import Derived.Test.YtoomjemboekooaaRows
import Derived.Test.YtoomjemboekooaaPureLoopPlays
import Derived.WalkKit
import Derived.ProofKit
import Derived.OpenShut
import Derived.ChangeOld
import Derived.SizedLaws
namespace Go.Proofs.Ytoomjemboekooaa.loopPlays
open Go Go.ChangeShapes Go.WideShapes Go.ChangeAt Go.RowKit Go.Proofs.YtoomjemboekooaaBv
set_option linter.unusedVariables false
set_option linter.unusedSimpArgs false
theorem own : ownKnob Try.prog.godebug = none := by kernel_rfl
theorem laid : laidOutB Try.prog = true := by kernel_rfl
theorem good : plainTs Try.prog [43] = true := by kernel_rfl
set_option maxRecDepth 100000 in
theorem lifted (os : Os) (started : os.Started) (H : Type) (enc : TypeId × Value → H) :
  ReturnsInHanded {} Try.checked os 4 .any (Rows.loopPlaysSpec.pre6 enc Try.prog Try.f4 Rows.loopPlaysRow.domain false) (Rows.loopPlaysSpec.post enc Try.prog Try.f4 false true false false) := by
 refine returnsInHanded_of_change_sized (C := Try.checked) own started (by kernel_rfl) Try.func4
  (ChangeSpec.witness6 (enc := enc) (C := Try.checked) false ⟨#[], #[.slice none 0 0], []⟩ 8 (by kernel_rfl) (by kernel_rfl) (by kernel_rfl) (by kernel_rfl)) ?_
 intro W base args ds gs before hval0 hW hcnd hsz0 _
 have hsz1 : (DataW.weightsEach Try.prog (Try.f4.params.toList ++ Rows.loopPlaysSpec.plain.varTypes Try.prog) (ds ++ gs)).all (· ≤ reachBytes) = true := hsz0
 have hval : ∀ (j : Nat) t v, Try.f4.params[j]? = some t → args[j]? = some v → Value.okWide Try.prog W .any base t v := hval0
 have hW' := hW
 obtain ⟨p, q, hA0, hV, rfl, hfz, hnd⟩ := hW
 have hA : DataW.TrodAll enc Try.prog W 0 (fun _ => true) true Try.f4.params.toList args.toList ds p := hA0
 rw [Try.params4] at hA hval
 have hval1 : ∀ (j : Nat) t v, ([43] : List TypeId)[j]? = some t → args[j]? = some v → Value.okWide Try.prog W .any base t v := by
  intro j t v h1 h2
  exact hval j t v (by simpa using h1) h2
 have hA1 := hA
 obtain ⟨v0, vs0, d0, ds0, p0, q0, hargs, rfl, rfl, h0, r0⟩ := trodAll_cons hA
 obtain ⟨rfl, rfl, rfl⟩ := trodAll_nil r0
 obtain ⟨rfl, rfl⟩ := trodVars_none hV
 have ets : Try.f4.params.toList ++ Rows.loopPlaysSpec.plain.varTypes Try.prog = [43] := by kernel_rfl
 rw [ets, List.append_nil] at hsz1
 have hw : ∀ n ∈ DataW.weightsEach Try.prog ([43] : List TypeId) _, n ≤ reachBytes := fun n hn => by simpa using List.all_eq_true.1 hsz1 n hn
 refine (law_calls laid good hA1 hw hval1 (lawLoopPlays pureLoopPlays)).mono fun e W' ⟨he, bel, hT⟩ => ?_
 subst he
 exact ⟨_, rfl, _, _, _, [], _, [], hW', trodAll_mk1 (shut_bool Try.underlying4 _), hT, rfl, bel.frame _, fun h => by cases h⟩
theorem over : Rows.loopPlaysRow.holds Try.pinned (OpenSpec.ofChange Rows.loopPlaysSpec) :=
 OpenClaim.holds_of_wide 4 Try.f4 rfl rfl rfl rfl rfl rfl rfl ⟨rfl, rfl, rfl, rfl, rfl⟩ rfl rfl rfl rfl rfl (by kernel_rfl) Try.func4 (by kernel_rfl)
  (of_decide_eq_true (by kernel_rfl)) (by unfold Func.isWrapper; first | (rw [if_pos (by decide +kernel)]; kernel_rfl) | (rw [if_neg (by decide +kernel)]; exact ⟨rfl, rfl⟩))
  (fun os started H enc _ => lifted os started H enc)
theorem proved : Rows.LoopPlaysSaid := over
end Go.Proofs.Ytoomjemboekooaa.loopPlays
namespace Go.Proofs.Ytoomjemboekooaa
/-- The row, under a short name, for the claim. -/
theorem loopPlays_holds : Rows.LoopPlaysSaid := loopPlays.proved
#print axioms loopPlays_holds
end Go.Proofs.Ytoomjemboekooaa
-- squeezed
