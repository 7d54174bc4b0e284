/- The law 'PropTells' answers true, whatever is handed in, where the listed package variables read as the program's text lays them; and the card, which ties that to the text. -/
import Derived.Test.YtmpdhpfimmahfaaDoorRows
import Derived.Test.YtmpdhpfimmahfaaDoorCards
import Derived.Test.YtmpdhpfimmahfaaDoorTie
import Derived.Test.YtmpdhpfimmahfaaDoorPurePropTells
import Derived.Test.YtmpdhpfimmahfaaDoorBv27
import Derived.WalkKit
import Derived.ProofKit
import Derived.OpenShut
import Derived.LaidMore
import Derived.Lay
import Derived.SevenTiedAt
import Derived.Stop.Joined
namespace Go.Proofs.YtmpdhpfimmahfaaDoor.propTells
open Go Go.ChangeShapes Go.WideShapes Go.ChangeAt Go.RowKit Go.Proofs.YtmpdhpfimmahfaaDoorBv
set_option linter.unusedVariables false
set_option linter.unusedSimpArgs false
theorem own : ownKnob Tryd.prog.godebug = none := by kernel_rfl
theorem laid : laidOutB Tryd.prog = true := by kernel_rfl
theorem good : plainTs Tryd.prog [3, 23] = true := by kernel_rfl
/-- what the row lists -/
def listed : List (String × DataW Unit) := [("math/bits.deBruijn32tab", Rows.laid_math_bits_deBruijn32tab), ("math/bits.deBruijn64tab", Rows.laid_math_bits_deBruijn64tab), ("internal/strconv.uint64pow10", Rows.laid_internal_strconv_uint64pow10), ("unicode/utf8.acceptRanges", Rows.laid_unicode_utf8_acceptRanges), ("unicode/utf8.first", Rows.laid_unicode_utf8_first)]
theorem globs {W : World} (h : laidMetH Tryd.prog listed W) (hs : W.ShapedOpen Tryd.prog) : ∃ mL : Int, ∀ g, GlobOK (entry W) g (GG mL g) := by
  rw [MakeChecks.laidMetH_plain _ _ _ (by kernel_rfl)] at h
  obtain ⟨mL, hm⟩ := glob_int (P := Tryd.prog) (g := 0) (t := 3) (zero := #[.int .i64 0]) hs (of_decide_eq_true (by kernel_rfl)) (by kernel_rfl) rfl (by kernel_rfl) (by kernel_rfl) Tryd.underlying3
  refine ⟨mL, ?_⟩
  intro g
  by_cases h6 : g = 6
  · subst h6
    exact laid_met h (n := "math/bits.deBruijn32tab") (dat := Rows.laid_math_bits_deBruijn32tab) (g := 6) (t := 140) (l := g6_c) (.head _) (by kernel_rfl) (by kernel_rfl) (by kernel_rfl) (by kernel_rfl)
  by_cases h7 : g = 7
  · subst h7
    exact laid_met h (n := "math/bits.deBruijn64tab") (dat := Rows.laid_math_bits_deBruijn64tab) (g := 7) (t := 141) (l := g7_c) (.tail _ (.head _)) (by kernel_rfl) (by kernel_rfl) (by kernel_rfl) (by kernel_rfl)
  by_cases h1 : g = 1
  · subst h1
    exact laid_met h (n := "internal/strconv.uint64pow10") (dat := Rows.laid_internal_strconv_uint64pow10) (g := 1) (t := 122) (l := g1_c) (.tail _ (.tail _ (.head _))) (by kernel_rfl) (by kernel_rfl) (by kernel_rfl) (by kernel_rfl)
  by_cases h5 : g = 5
  · subst h5
    exact laid_met h (n := "unicode/utf8.acceptRanges") (dat := Rows.laid_unicode_utf8_acceptRanges) (g := 5) (t := 136) (l := g5_c) (.tail _ (.tail _ (.tail _ (.head _)))) (by kernel_rfl) (by kernel_rfl) (by kernel_rfl) (by kernel_rfl)
  by_cases h4 : g = 4
  · subst h4
    exact laid_met h (n := "unicode/utf8.first") (dat := Rows.laid_unicode_utf8_first) (g := 4) (t := 133) (l := g4_c) (.tail _ (.tail _ (.tail _ (.tail _ (.head _))))) (by kernel_rfl) (by kernel_rfl) (by kernel_rfl) (by kernel_rfl)
  by_cases h0 : g = 0
  · subst h0
    exact hm
  have e : GG mL g = [] := by unfold GG; rw [if_neg h0, if_neg h1, if_neg h4, if_neg h5, if_neg h6, if_neg h7]
  rw [e]
  exact glob_none g
set_option maxRecDepth 100000 in
theorem lifted (os : Os) (started : os.Started) (H : Type) (enc : TypeId × Value → H) :
    ReturnsInHanded {} Tryd.checked os 3 .any (fun w args => (Rows.propTellsSpec.pre enc Tryd.prog Tryd.f3 Rows.propTellsRow.domain false w args ∧ laidMetH Tryd.prog listed w) ∧ sizedMet enc Tryd.prog Tryd.f3 (OpenSpec.ofChange Rows.propTellsSpec) false w args)
      (Rows.propTellsSpec.post enc Tryd.prog Tryd.f3 false true false false) := by
  refine returns_shaped_and (C := Tryd.checked) (X := fun w _ => laidMetH Tryd.prog listed w) (fun _ _ _ hh h => h.of_heap hh) own started (by kernel_rfl) Tryd.func3
    (ChangeSpec.witness_shaped (enc := enc) (C := Tryd.checked) (os := os) (X := fun w _ => laidMetH Tryd.prog listed w) false (World.laidAll Tryd.prog os listed) #[.int .i64 0, .agg #[.int .i64 0, .int .i64 0]] 8 (World.laidAll_os _ _ _)
      (World.shaped_of_ZipB (by kernel_rfl) (by kernel_rfl)) (by kernel_rfl) (by kernel_rfl) (by kernel_rfl)
      (by rw [MakeChecks.laidMetH_plain _ _ _ (by kernel_rfl)]; exact laidMet_laidAll _ (by kernel_rfl) (by kernel_rfl))) ?_
  intro W base args ds gs before hval0 hW hcnd hsz0 hL hsh _
  have hsz1 : (DataW.weightsEach Tryd.prog (Tryd.f3.params.toList ++ Rows.propTellsSpec.plain.varTypes Tryd.prog) (ds ++ gs)).all (· ≤ reachBytes) = true := hsz0
  have hval : ∀ (j : Nat) t v, Tryd.f3.params[j]? = some t → args[j]? = some v → Value.okWide Tryd.prog W .any base t v := hval0
  have hW' := hW
  obtain ⟨p, q, hA0, hV, rfl, hfz, hnd⟩ := hW
  have hA : DataW.TrodAll enc Tryd.prog W 0 (fun _ => true) true Tryd.f3.params.toList args.toList ds p := hA0
  rw [Tryd.params3] at hA hval
  have hval1 : ∀ (j : Nat) t v, ([3, 23] : List TypeId)[j]? = some t → args[j]? = some v → Value.okWide Tryd.prog W .any base t v := by
    intro j t v h1 h2
    exact hval j t v (by simpa using h1) h2
  have hA1 := hA
  obtain ⟨v0, vs0, d0, ds0, p0, q0, hargs, rfl, rfl, h0, r0⟩ := trodAll_cons hA
  obtain ⟨v1, vs1, d1, ds1, p1, q1, rfl, rfl, rfl, h1, r1⟩ := trodAll_cons r0
  obtain ⟨rfl, rfl, rfl⟩ := trodAll_nil r1
  obtain ⟨rfl, rfl⟩ := trodVars_none hV
  have ets : Tryd.f3.params.toList ++ Rows.propTellsSpec.plain.varTypes Tryd.prog = [3, 23] := by kernel_rfl
  rw [ets, List.append_nil] at hsz1
  have hw : ∀ n ∈ DataW.weightsEach Tryd.prog ([3, 23] : List TypeId) _, n ≤ reachBytes := fun n hn => by simpa using List.all_eq_true.1 hsz1 n hn
  obtain ⟨mL, hG⟩ := globs hL hsh
  refine (law_callsG hG laid good hA1 hw hval1 (lawPropTells purePropTells)).mono fun e W' ⟨he, bel, hT⟩ => ?_
  subst he
  exact ⟨_, rfl, _, _, _, [], _, [], hW', trodAll_mk1 (shut_bool Tryd.underlying4 _), hT, rfl, bel.frame _, fun h => by cases h⟩
theorem over : Rows.PropTellsSaid :=
  OpenClaim.holds_of_wide 3 Tryd.f3 rfl rfl rfl rfl rfl rfl rfl ⟨rfl, rfl, rfl, rfl, rfl⟩ rfl rfl rfl rfl rfl (by kernel_rfl) Tryd.func3 (by kernel_rfl)
    (of_decide_eq_true (by kernel_rfl)) (by unfold Func.isWrapper; first | (rw [if_pos (by decide +kernel)]; kernel_rfl) | (rw [if_neg (by decide +kernel)]; exact ⟨rfl, rfl⟩))
    (fun os started H enc _ => lifted os started H enc)
theorem card : Rows.PropTellsCardSaid :=
  Claim7.holds_tied_plain_at .later [] [.data, .data, .data, .data, .pinned] true (true, "331505b765220df194389e5df0f448ae9be97716696d2adf3ee4c15ae7dcc990") true over (fun _ h => by cases h) (by kernel_rfl) (fun _ h => by cases h) propTells_row_tie rfl ⟨rfl, rfl⟩ (by kernel_rfl) rfl
    (fun f fn hf hfn => by
      obtain rfl : f = 3 := Option.some.inj ((show Tryd.prog.funcNamed "clerestory/clerestorylaw2.PropTells" = some 3 by kernel_rfl).symm.trans hf) |>.symm
      obtain rfl : fn = Tryd.f3 := (Option.some.inj (Tryd.func3.symm.trans hfn)).symm
      exact ⟨by kernel_rfl, fun j t ht => by
        rw [Tryd.params3] at ht
        have hm : t ∈ [3, 23] := by simpa using Array.mem_of_getElem? ht
        have hall : ([3, 23].all fun u => !Tryd.prog.wantsStandIn u) = true := by kernel_rfl
        exact (show Tryd.prog.wantsStandIn t = false by simpa using List.all_eq_true.1 hall t hm)⟩)
    (by kernel_rfl)
end Go.Proofs.YtmpdhpfimmahfaaDoor.propTells
namespace Go.Proofs.YtmpdhpfimmahfaaDoor
/-- The card, under a short name, for the claim. -/
theorem propTells_holds : Rows.PropTellsCardSaid := propTells.card
#print axioms propTells_holds
end Go.Proofs.YtmpdhpfimmahfaaDoor
