/- The law 'JlexSays' answers true, whatever is handed in that is of bounded bulk, where the listed package variables read as the program's text lays them; and the card, which ties that to the text. -/
import Derived.Test.YtagfmlkihindaaaDoorRows
import Derived.Test.YtagfmlkihindaaaDoorCards
import Derived.Test.YtagfmlkihindaaaDoorTie
import Derived.Test.YtagfmlkihindaaaDoorPureJlexSays
import Derived.Test.YtagfmlkihindaaaDoorBv27
import Derived.WalkKit
import Derived.ProofKit
import Derived.OpenShut
import Derived.LaidMore
import Derived.Lay
import Derived.SevenTiedAt
import Derived.Deep.DeepHandedRow
import Derived.Test.YtagfmlkihindaaaDoorBv31
import Derived.Stop.Joined
namespace Go.Proofs.YtagfmlkihindaaaDoor.jlexSays
open Go Go.ChangeShapes Go.WideShapes Go.ChangeAt Go.RowKit Go.Proofs.YtagfmlkihindaaaDoorBv
set_option linter.unusedVariables false
set_option linter.unusedSimpArgs false
theorem own : ownKnob Tryd.prog.godebug = none := by kernel_rfl
theorem laid : laidOutB Tryd.prog = true := by kernel_rfl
theorem good : plainTs Tryd.prog [9] = true := by kernel_rfl
/-- what the row lists -/
def listed : List (String × DataW Unit) := [("unicode.White_Space", Rows.laid_unicode_White_Space), ("strings.asciiSpace", Rows.laid_strings_asciiSpace)]
theorem globs {W : World} (h : laidMetH Tryd.prog listed W) (hs : W.ShapedOpen Tryd.prog) : ∃ mL : Int, ∀ g, GlobOK (entry W) g (GG mL g) := by
  rw [MakeChecks.laidMetH_plain _ _ _ (by kernel_rfl)] at h
  obtain ⟨mL, hm⟩ := glob_int (P := Tryd.prog) (g := 2) (t := 3) (zero := #[.int .i64 0]) hs (of_decide_eq_true (by kernel_rfl)) (by kernel_rfl) rfl (by kernel_rfl) (by kernel_rfl) Tryd.underlying3
  refine ⟨mL, ?_⟩
  intro g
  by_cases h3 : g = 3
  · subst h3
    exact laid_met h (n := "strings.asciiSpace") (dat := Rows.laid_strings_asciiSpace) (g := 3) (t := 220) (l := g3_c) (.tail _ (.head _)) (by kernel_rfl) (by kernel_rfl) (by kernel_rfl) (by kernel_rfl)
  by_cases h2 : g = 2
  · subst h2
    exact hm
  have e : GG mL g = [] := by unfold GG; rw [if_neg h2, if_neg h3]
  rw [e]
  exact glob_none g
mutual
theorem bulk_le {H : Type} : (d : DataW H) → bulkD d ≤ Rows.uptoBulk d
  | .lit l => by cases l <;> simp [bulkD, Rows.uptoBulk]
  | .nil => by simp [bulkD, Rows.uptoBulk]
  | .ptr d => by simp only [bulkD, Rows.uptoBulk]; omega
  | .slice es sp => by have := bulks_le es; simp only [bulkD, Rows.uptoBulk]; omega
  | .agg ps => by have := bulks_le ps; simp only [bulkD, Rows.uptoBulk]; omega
  | .iface _ d => by simp only [bulkD, Rows.uptoBulk]; omega
  | .map es => by simp only [bulkD, Rows.uptoBulk]; omega
  | .held _ => by simp [bulkD, Rows.uptoBulk]
theorem bulks_le {H : Type} : (l : List (DataW H)) → bulkDs l ≤ Rows.uptoBulkAll l
  | [] => Nat.zero_le _
  | d :: r => by have := bulk_le d; have := bulks_le r; simp only [bulkDs, Rows.uptoBulkAll]; omega
end
theorem reads (os : Os) {H : Type} (enc : TypeId × Value → H) : ∃ places, DataW.whole enc Tryd.prog ((World.laidAll Tryd.prog os listed).forCall (fun _ _ => 0) ⟨#[], #[.string ⟨#[]⟩], []⟩).memory Tryd.f5.params.toList Rows.jlexSaysSpec.vars false (#[.string ⟨#[]⟩] : Array Value).toList 8 = some ([.lit (.string [])], [], places) :=
  ⟨[], by kernel_rfl⟩
theorem fits (os : Os) : Input.okWideB Tryd.prog ((World.laidAll Tryd.prog os listed).forCall (fun _ _ => 0) ⟨#[], #[.string ⟨#[]⟩], []⟩) 5 ⟨#[], #[.string ⟨#[]⟩], []⟩ = true := by kernel_rfl
set_option maxRecDepth 100000 in
theorem lifted (os : Os) (started : os.Started) (H : Type) (enc : TypeId × Value → H) (F : Stop.Interp) :
    ReturnsInHanded {} Tryd.checked os 5 .any ((Rows.OpenSpec.upto Rows.jlexSaysSpec).preRow enc Tryd.prog Tryd.f5 Rows.jlexSaysUptoRow.domain false Rows.jlexSaysUptoRow.laid)
      (((Rows.OpenSpec.upto Rows.jlexSaysSpec).at F).post enc Tryd.prog Tryd.f5 false true false false) := by
  obtain ⟨places, hx⟩ := reads os enc
  have hlaid : laidMetH Tryd.prog listed ((World.laidAll Tryd.prog os listed).forCall (fun _ _ => 0) ⟨#[], #[.string ⟨#[]⟩], []⟩).memory := by
    rw [MakeChecks.laidMetH_plain _ _ _ (by kernel_rfl)]; exact laidMet_laidAll _ (by kernel_rfl) (by kernel_rfl)
  refine returnsInHanded_of_row (C := Tryd.checked) (s := Rows.OpenSpec.upto Rows.jlexSaysSpec) own started (by kernel_rfl) Tryd.func5
    ⟨World.laidAll Tryd.prog os listed, fun _ _ => 0, ⟨#[], #[.string ⟨#[]⟩], []⟩, World.laidAll_os _ _ _, World.shaped_of_ZipB (by kernel_rfl) (by kernel_rfl), (Input.okWide_of_okWideB (base := 0) (fits os)).1, (Input.okWide_of_okWideB (fits os)).2,
      OpenSpec.preRow_of_cond 8 hx (by kernel_rfl) (fun k hk => by cases hk; kernel_rfl) (by kernel_rfl) hlaid, by simp [Assume.holds]⟩ ?_
  intro W base args ds gs before hval0 hW hcnd hk hsz0 hL0 hsh _
  have hL : laidMetH Tryd.prog listed W := hL0
  have hsz1 : (DataW.weightsEach Tryd.prog (Tryd.f5.params.toList ++ Rows.jlexSaysSpec.plain.varTypes Tryd.prog) (ds ++ gs)).all (· ≤ reachBytes) = true := hsz0
  have hval : ∀ (j : Nat) t v, Tryd.f5.params[j]? = some t → args[j]? = some v → Value.okWide Tryd.prog W .any base t v := hval0
  have hW' := hW
  obtain ⟨p, q, hA0, hV, rfl, hfz, hnd⟩ := hW
  have hA : DataW.TrodAll enc Tryd.prog W 0 (fun _ => true) true Tryd.f5.params.toList args.toList ds p := hA0
  rw [Tryd.params5] at hA hval
  have hval1 : ∀ (j : Nat) t v, ([9] : List TypeId)[j]? = some t → args[j]? = some v → Value.okWide Tryd.prog W .any base t v := by
    intro j t v h1 h2
    exact hval j t v (by simpa using h1) h2
  have hA1 := hA
  obtain ⟨v0, vs0, d0, ds0, p0, q0, hargs, rfl, rfl, h0, r0⟩ := trodAll_cons hA
  obtain ⟨rfl, rfl, rfl⟩ := trodAll_nil r0
  obtain ⟨rfl, rfl⟩ := trodVars_none hV
  have ets : Tryd.f5.params.toList ++ Rows.jlexSaysSpec.plain.varTypes Tryd.prog = [9] := by kernel_rfl
  rw [ets, List.append_nil] at hsz1
  have hw : ∀ n ∈ DataW.weightsEach Tryd.prog ([9] : List TypeId) _, n ≤ reachBytes := fun n hn => by simpa using List.all_eq_true.1 hsz1 n hn
  obtain ⟨mL, hG⟩ := globs hL hsh
  have hN0 := of_decide_eq_true (p := Rows.uptoBulkAll _ ≤ 1048576) (hk _ rfl)
  rw [List.append_nil] at hN0
  have hN := Nat.le_trans (bulks_le _) hN0
  refine (law_callsU hG laid good hA1 hw hN hval1 (lawJlexSays pureJlexSays)).mono fun e W' ⟨he, bel, hT⟩ => ?_
  subst he
  exact ⟨_, rfl, _, _, _, [], _, [], hW', trodAll_mk1 (shut_bool Tryd.underlying4 _), hT, rfl, bel.frame _, fun h => by cases h⟩
theorem over : Rows.JlexSaysUptoSaid :=
  OpenClaim.holds_of_cond 5 Tryd.f5 rfl rfl rfl rfl rfl rfl rfl ⟨rfl, rfl, rfl, rfl, rfl⟩ rfl rfl rfl rfl rfl (by kernel_rfl) Tryd.func5 (by kernel_rfl)
    (of_decide_eq_true (by kernel_rfl)) (by unfold Func.isWrapper; first | (rw [if_pos (by decide +kernel)]; kernel_rfl) | (rw [if_neg (by decide +kernel)]; exact ⟨rfl, rfl⟩))
    (fun os started H enc _ F => by rw [OpenClaim.pre_eq_preRow]; exact lifted os started H enc F)
theorem card : Rows.JlexSaysUptoCardSaid :=
  Claim7.holds_tied_plain_at .later [] [.listed, .data] true (true, "41e547fbe42d7b5943deb6386e08341b7f908f8561d697b93a28b15b440e8ab8") false over (fun _ h => by cases h) (by kernel_rfl) (fun _ h => by cases h) jlexSaysUpto_row_tie rfl ⟨rfl, rfl⟩ (by kernel_rfl) rfl
    (fun f fn hf hfn => by
      obtain rfl : f = 5 := Option.some.inj ((show Tryd.prog.funcNamed "clerestory/clerestorylaw4.JlexSays" = some 5 by kernel_rfl).symm.trans hf) |>.symm
      obtain rfl : fn = Tryd.f5 := (Option.some.inj (Tryd.func5.symm.trans hfn)).symm
      exact ⟨by kernel_rfl, fun j t ht => by
        rw [Tryd.params5] at ht
        have hm : t ∈ [9] := by simpa using Array.mem_of_getElem? ht
        have hall : ([9].all fun u => !Tryd.prog.wantsStandIn u) = true := by kernel_rfl
        exact (show Tryd.prog.wantsStandIn t = false by simpa using List.all_eq_true.1 hall t hm)⟩)
    (by kernel_rfl)
end Go.Proofs.YtagfmlkihindaaaDoor.jlexSays
namespace Go.Proofs.YtagfmlkihindaaaDoor
/-- The card, under a short name, for the claim. -/
theorem jlexSays_holds : Rows.JlexSaysUptoCardSaid := jlexSays.card
#print axioms jlexSays_holds
end Go.Proofs.YtagfmlkihindaaaDoor
