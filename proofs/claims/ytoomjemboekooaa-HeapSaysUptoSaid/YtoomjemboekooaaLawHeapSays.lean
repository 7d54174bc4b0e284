/- 'HeapSays' answers true, whatever is handed in that is of bounded bulk. -/
import Derived.Test.YtoomjemboekooaaRows
import Derived.Test.YtoomjemboekooaaPureHeapSays
import Derived.WalkKit
import Derived.ProofKit
import Derived.OpenShut
import Derived.LaidMore
import Derived.Lay
import Derived.ChangeOld
import Derived.SizedLaws
import Derived.Stop.Joined
import Derived.Deep.DeepHandedRow
import Derived.Test.YtoomjemboekooaaBv31
namespace Go.Proofs.Ytoomjemboekooaa.heapSays
open Go Go.ChangeShapes Go.WideShapes Go.ChangeAt Go.RowKit Go.Proofs.YtoomjemboekooaaBv
set_option linter.unusedVariables false
set_option linter.unusedSimpArgs false
theorem own : ownKnob Try.prog.godebug = none := by kernel_rfl
theorem laid : laidOutB Try.prog = true := by kernel_rfl
theorem good : plainTs Try.prog [52, 53] = true := by kernel_rfl
/-- what the row lists -/
def listed : List (String × DataW Unit) := []
mutual
theorem bulk_le {H : Type} : (d : DataW H) → bulkD d ≤ Rows.uptoBulk d
  | .lit l => by cases l <;> simp [bulkD, Rows.uptoBulk]
  | .nil => by simp [bulkD, Rows.uptoBulk]
  | .ptr d => by simp only [bulkD, Rows.uptoBulk]; omega
  | .slice es sp => by have := bulks_le es; simp only [bulkD, Rows.uptoBulk]; omega
  | .agg ps => by have := bulks_le ps; simp only [bulkD, Rows.uptoBulk]; omega
  | .iface _ d => by simp only [bulkD, Rows.uptoBulk]; omega
  | .map es => by simp only [bulkD, Rows.uptoBulk]; omega
  | .held _ => by simp [bulkD, Rows.uptoBulk]
theorem bulks_le {H : Type} : (l : List (DataW H)) → bulkDs l ≤ Rows.uptoBulkAll l
  | [] => Nat.zero_le _
  | d :: r => by have := bulk_le d; have := bulks_le r; simp only [bulkDs, Rows.uptoBulkAll]; omega
end
theorem reads (os : Os) {H : Type} (enc : TypeId × Value → H) : ∃ places, DataW.whole enc Try.prog ((World.laidAll Try.prog os listed).forCall (fun _ _ => 0) ⟨#[], #[.slice none 0 0, .slice none 0 0], []⟩).memory Try.f5.params.toList Rows.heapSaysSpec.vars false (#[.slice none 0 0, .slice none 0 0] : Array Value).toList 8 = some ([.nil, .nil], [], places) :=
  ⟨[], by kernel_rfl⟩
theorem fits (os : Os) : Input.okWideB Try.prog ((World.laidAll Try.prog os listed).forCall (fun _ _ => 0) ⟨#[], #[.slice none 0 0, .slice none 0 0], []⟩) 5 ⟨#[], #[.slice none 0 0, .slice none 0 0], []⟩ = true := by kernel_rfl
set_option maxRecDepth 100000 in
theorem lifted (os : Os) (started : os.Started) (H : Type) (enc : TypeId × Value → H) (F : Stop.Interp) :
    ReturnsInHanded {} Try.checked os 5 .any ((Rows.OpenSpec.upto Rows.heapSaysSpec).preRow enc Try.prog Try.f5 Rows.heapSaysUptoRow.domain false Rows.heapSaysUptoRow.laid)
      (((Rows.OpenSpec.upto Rows.heapSaysSpec).at F).post enc Try.prog Try.f5 false true false false) := by
  obtain ⟨places, hx⟩ := reads os enc
  have hlaid : laidMetH Try.prog listed ((World.laidAll Try.prog os listed).forCall (fun _ _ => 0) ⟨#[], #[.slice none 0 0, .slice none 0 0], []⟩).memory := by
    rw [MakeChecks.laidMetH_plain _ _ _ (by kernel_rfl)]; exact laidMet_laidAll _ (by kernel_rfl) (by kernel_rfl)
  refine returnsInHanded_of_row (C := Try.checked) (s := Rows.OpenSpec.upto Rows.heapSaysSpec) own started (by kernel_rfl) Try.func5
    ⟨World.laidAll Try.prog os listed, fun _ _ => 0, ⟨#[], #[.slice none 0 0, .slice none 0 0], []⟩, World.laidAll_os _ _ _, World.shaped_of_ZipB (by kernel_rfl) (by kernel_rfl), (Input.okWide_of_okWideB (base := 0) (fits os)).1, (Input.okWide_of_okWideB (fits os)).2,
      OpenSpec.preRow_of_cond 8 hx (by kernel_rfl) (fun k hk => by cases hk; kernel_rfl) (by kernel_rfl) hlaid, by simp [Assume.holds]⟩ ?_
  intro W base args ds gs before hval0 hW hcnd hk hsz0 hL0 hsh _
  have hsz1 : (DataW.weightsEach Try.prog (Try.f5.params.toList ++ Rows.heapSaysSpec.plain.varTypes Try.prog) (ds ++ gs)).all (· ≤ reachBytes) = true := hsz0
  have hval : ∀ (j : Nat) t v, Try.f5.params[j]? = some t → args[j]? = some v → Value.okWide Try.prog W .any base t v := hval0
  have hW' := hW
  obtain ⟨p, q, hA0, hV, rfl, hfz, hnd⟩ := hW
  have hA : DataW.TrodAll enc Try.prog W 0 (fun _ => true) true Try.f5.params.toList args.toList ds p := hA0
  rw [Try.params5] at hA hval
  have hval1 : ∀ (j : Nat) t v, ([52, 53] : List TypeId)[j]? = some t → args[j]? = some v → Value.okWide Try.prog W .any base t v := by
    intro j t v h1 h2
    exact hval j t v (by simpa using h1) h2
  have hA1 := hA
  obtain ⟨v0, vs0, d0, ds0, p0, q0, hargs, rfl, rfl, h0, r0⟩ := trodAll_cons hA
  obtain ⟨v1, vs1, d1, ds1, p1, q1, rfl, rfl, rfl, h1, r1⟩ := trodAll_cons r0
  obtain ⟨rfl, rfl, rfl⟩ := trodAll_nil r1
  obtain ⟨rfl, rfl⟩ := trodVars_none hV
  have ets : Try.f5.params.toList ++ Rows.heapSaysSpec.plain.varTypes Try.prog = [52, 53] := by kernel_rfl
  rw [ets, List.append_nil] at hsz1
  have hw : ∀ n ∈ DataW.weightsEach Try.prog ([52, 53] : List TypeId) _, n ≤ reachBytes := fun n hn => by simpa using List.all_eq_true.1 hsz1 n hn
  have hN0 := of_decide_eq_true (p := Rows.uptoBulkAll _ ≤ 1048576) (hk _ rfl)
  rw [List.append_nil] at hN0
  have hN := Nat.le_trans (bulks_le _) hN0
  refine (law_callsU glob_none laid good hA1 hw hN hval1 (lawHeapSays pureHeapSays)).mono fun e W' ⟨he, bel, hT⟩ => ?_
  subst he
  exact ⟨_, rfl, _, _, _, [], _, [], hW', trodAll_mk1 (shut_bool Try.underlying4 _), hT, rfl, bel.frame _, fun h => by cases h⟩
theorem over : Rows.HeapSaysUptoSaid :=
  OpenClaim.holds_of_cond 5 Try.f5 rfl rfl rfl rfl rfl rfl rfl ⟨rfl, rfl, rfl, rfl, rfl⟩ rfl rfl rfl rfl rfl (by kernel_rfl) Try.func5 (by kernel_rfl)
    (of_decide_eq_true (by kernel_rfl)) (by unfold Func.isWrapper; first | (rw [if_pos (by decide +kernel)]; kernel_rfl) | (rw [if_neg (by decide +kernel)]; exact ⟨rfl, rfl⟩))
    (fun os started H enc _ F => by rw [OpenClaim.pre_eq_preRow]; exact lifted os started H enc F)
theorem proved : Rows.HeapSaysUptoSaid := over
end Go.Proofs.Ytoomjemboekooaa.heapSays
namespace Go.Proofs.Ytoomjemboekooaa
/-- The row, under a short name, for the claim. -/
theorem heapSays_holds : Rows.HeapSaysUptoSaid := heapSays.proved
#print axioms heapSays_holds
end Go.Proofs.Ytoomjemboekooaa
