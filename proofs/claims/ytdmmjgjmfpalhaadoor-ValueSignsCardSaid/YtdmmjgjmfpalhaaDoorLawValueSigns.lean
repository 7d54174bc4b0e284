/- The law 'ValueSigns' answers true, whatever is handed in, where the listed package variables read as the program's text lays them; and the card, which ties that to the text. -/
import Derived.Test.YtdmmjgjmfpalhaaDoorRows
import Derived.Test.YtdmmjgjmfpalhaaDoorCards
import Derived.Test.YtdmmjgjmfpalhaaDoorTie
import Derived.Test.YtdmmjgjmfpalhaaDoorPureValueSigns
import Derived.Test.YtdmmjgjmfpalhaaDoorBv24
import Derived.WalkKit
import Derived.ProofKit
import Derived.OpenShut
import Derived.LaidMore
import Derived.Lay
import Derived.SevenTiedAt
import Derived.Stop.Joined
namespace Go.Proofs.YtdmmjgjmfpalhaaDoor.valueSigns
open Go Go.ChangeShapes Go.WideShapes Go.ChangeAt Go.RowKit Go.Proofs.YtdmmjgjmfpalhaaDoorBv
set_option linter.unusedVariables false
set_option linter.unusedSimpArgs false
theorem own : ownKnob Tryd.prog.godebug = none := by kernel_rfl
theorem laid : laidOutB Tryd.prog = true := by kernel_rfl
theorem good : plainTs Tryd.prog [9, 31, 31] = true := by kernel_rfl
/-- what the row lists -/
def listed : List (String × DataW Unit) := [("math/bits.deBruijn32tab", Rows.laid_math_bits_deBruijn32tab), ("math/bits.deBruijn64tab", Rows.laid_math_bits_deBruijn64tab), ("internal/strconv.uint64pow10", Rows.laid_internal_strconv_uint64pow10)]
theorem globs {W : World} (h : laidMetH Tryd.prog listed W) : ∀ g, GlobOK (entry W) g (GG g) := by
  rw [MakeChecks.laidMetH_plain _ _ _ (by kernel_rfl)] at h
  intro g
  by_cases h8 : g = 8
  · subst h8
    exact laid_met h (n := "math/bits.deBruijn32tab") (dat := Rows.laid_math_bits_deBruijn32tab) (g := 8) (t := 241) (l := g8_c) (.head _) (by kernel_rfl) (by kernel_rfl) (by kernel_rfl) (by kernel_rfl)
  by_cases h9 : g = 9
  · subst h9
    exact laid_met h (n := "math/bits.deBruijn64tab") (dat := Rows.laid_math_bits_deBruijn64tab) (g := 9) (t := 242) (l := g9_c) (.tail _ (.head _)) (by kernel_rfl) (by kernel_rfl) (by kernel_rfl) (by kernel_rfl)
  by_cases h5 : g = 5
  · subst h5
    exact laid_met h (n := "internal/strconv.uint64pow10") (dat := Rows.laid_internal_strconv_uint64pow10) (g := 5) (t := 214) (l := g5_c) (.tail _ (.tail _ (.head _))) (by kernel_rfl) (by kernel_rfl) (by kernel_rfl) (by kernel_rfl)
  have e : GG g = [] := by unfold GG; rw [if_neg h5, if_neg h8, if_neg h9]
  rw [e]
  exact glob_none g
set_option maxRecDepth 100000 in
theorem lifted (os : Os) (started : os.Started) (H : Type) (enc : TypeId × Value → H) :
    ReturnsInHanded {} Tryd.checked os 4 .any (fun w args => (Rows.valueSignsSpec.pre enc Tryd.prog Tryd.f4 Rows.valueSignsRow.domain false w args ∧ laidMetH Tryd.prog listed w) ∧ sizedMet enc Tryd.prog Tryd.f4 (OpenSpec.ofChange Rows.valueSignsSpec) false w args)
      (Rows.valueSignsSpec.post enc Tryd.prog Tryd.f4 false true false false) := by
  refine returnsInHanded_of_change_and (C := Tryd.checked) (X := fun w _ => laidMetH Tryd.prog listed w) (fun _ _ _ hh h => h.of_heap hh) own started (by kernel_rfl) Tryd.func4
    (ChangeSpec.witness_shaped (enc := enc) (C := Tryd.checked) (os := os) (X := fun w _ => laidMetH Tryd.prog listed w) false (World.laidAll Tryd.prog os listed) #[.string ⟨#[]⟩, .agg #[.int .i64 0, .int .i64 0, .string ⟨#[]⟩], .agg #[.int .i64 0, .int .i64 0, .string ⟨#[]⟩]] 8 (World.laidAll_os _ _ _)
      (World.shaped_of_ZipB (by kernel_rfl) (by kernel_rfl)) (by kernel_rfl) (by kernel_rfl) (by kernel_rfl)
      (by rw [MakeChecks.laidMetH_plain _ _ _ (by kernel_rfl)]; exact laidMet_laidAll _ (by kernel_rfl) (by kernel_rfl))) ?_
  intro W base args ds gs before hval0 hW hcnd hsz0 hL _
  have hsz1 : (DataW.weightsEach Tryd.prog (Tryd.f4.params.toList ++ Rows.valueSignsSpec.plain.varTypes Tryd.prog) (ds ++ gs)).all (· ≤ reachBytes) = true := hsz0
  have hval : ∀ (j : Nat) t v, Tryd.f4.params[j]? = some t → args[j]? = some v → Value.okWide Tryd.prog W .any base t v := hval0
  have hW' := hW
  obtain ⟨p, q, hA0, hV, rfl, hfz, hnd⟩ := hW
  have hA : DataW.TrodAll enc Tryd.prog W 0 (fun _ => true) true Tryd.f4.params.toList args.toList ds p := hA0
  rw [Tryd.params4] at hA hval
  have hval1 : ∀ (j : Nat) t v, ([9, 31, 31] : List TypeId)[j]? = some t → args[j]? = some v → Value.okWide Tryd.prog W .any base t v := by
    intro j t v h1 h2
    exact hval j t v (by simpa using h1) h2
  have hA1 := hA
  obtain ⟨v0, vs0, d0, ds0, p0, q0, hargs, rfl, rfl, h0, r0⟩ := trodAll_cons hA
  obtain ⟨v1, vs1, d1, ds1, p1, q1, rfl, rfl, rfl, h1, r1⟩ := trodAll_cons r0
  obtain ⟨v2, vs2, d2, ds2, p2, q2, rfl, rfl, rfl, h2, r2⟩ := trodAll_cons r1
  obtain ⟨rfl, rfl, rfl⟩ := trodAll_nil r2
  obtain ⟨rfl, rfl⟩ := trodVars_none hV
  have ets : Tryd.f4.params.toList ++ Rows.valueSignsSpec.plain.varTypes Tryd.prog = [9, 31, 31] := by kernel_rfl
  rw [ets, List.append_nil] at hsz1
  have hw : ∀ n ∈ DataW.weightsEach Tryd.prog ([9, 31, 31] : List TypeId) _, n ≤ reachBytes := fun n hn => by simpa using List.all_eq_true.1 hsz1 n hn
  refine (law_callsG (globs hL) laid good hA1 hw hval1 (lawValueSigns pureValueSigns)).mono fun e W' ⟨he, bel, hT⟩ => ?_
  subst he
  exact ⟨_, rfl, _, _, _, [], _, [], hW', trodAll_mk1 (shut_bool Tryd.underlying4 _), hT, rfl, bel.frame _, fun h => by cases h⟩
theorem over : Rows.ValueSignsSaid :=
  OpenClaim.holds_of_wide 4 Tryd.f4 rfl rfl rfl rfl rfl rfl rfl ⟨rfl, rfl, rfl, rfl, rfl⟩ rfl rfl rfl rfl rfl (by kernel_rfl) Tryd.func4 (by kernel_rfl)
    (of_decide_eq_true (by kernel_rfl)) (by unfold Func.isWrapper; first | (rw [if_pos (by decide +kernel)]; kernel_rfl) | (rw [if_neg (by decide +kernel)]; exact ⟨rfl, rfl⟩))
    (fun os started H enc _ => lifted os started H enc)
theorem card : Rows.ValueSignsCardSaid :=
  Claim7.holds_tied_plain_at .later [] [.data, .data, .data] true (true, "1109560e48531bb94fe6538a52c0bcf608befe802a70412d030e8b6fd8eff374") false over (fun _ h => by cases h) (by kernel_rfl) (fun _ h => by cases h) valueSigns_row_tie rfl ⟨rfl, rfl⟩ (by kernel_rfl) rfl
    (fun f fn hf hfn => by
      obtain rfl : f = 4 := Option.some.inj ((show Tryd.prog.funcNamed "clerestory/clerestorylaw4.ValueSigns" = some 4 by kernel_rfl).symm.trans hf) |>.symm
      obtain rfl : fn = Tryd.f4 := (Option.some.inj (Tryd.func4.symm.trans hfn)).symm
      exact ⟨by kernel_rfl, fun j t ht => by
        rw [Tryd.params4] at ht
        have hm : t ∈ [9, 31, 31] := by simpa using Array.mem_of_getElem? ht
        have hall : ([9, 31, 31].all fun u => !Tryd.prog.wantsStandIn u) = true := by kernel_rfl
        exact (show Tryd.prog.wantsStandIn t = false by simpa using List.all_eq_true.1 hall t hm)⟩)
    (by kernel_rfl)
end Go.Proofs.YtdmmjgjmfpalhaaDoor.valueSigns
namespace Go.Proofs.YtdmmjgjmfpalhaaDoor
/-- The card, under a short name, for the claim. -/
theorem valueSigns_holds : Rows.ValueSignsCardSaid := valueSigns.card
#print axioms valueSigns_holds
end Go.Proofs.YtdmmjgjmfpalhaaDoor
