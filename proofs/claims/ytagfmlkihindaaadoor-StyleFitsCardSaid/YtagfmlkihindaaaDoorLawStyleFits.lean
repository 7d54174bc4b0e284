/- The law 'StyleFits' answers true, whatever is handed in, where the listed package variables read as the program's text lays them; and the card, which ties that to the text. -/
import Derived.Test.YtagfmlkihindaaaDoorRows
import Derived.Test.YtagfmlkihindaaaDoorCards
import Derived.Test.YtagfmlkihindaaaDoorTie
import Derived.Test.YtagfmlkihindaaaDoorPureStyleFits
import Derived.Test.YtagfmlkihindaaaDoorBv27
import Derived.WalkKit
import Derived.ProofKit
import Derived.OpenShut
import Derived.LaidMore
import Derived.Lay
import Derived.SevenTiedAt
import Derived.Stop.Joined
namespace Go.Proofs.YtagfmlkihindaaaDoor.styleFits
open Go Go.ChangeShapes Go.WideShapes Go.ChangeAt Go.RowKit Go.Proofs.YtagfmlkihindaaaDoorBv
set_option linter.unusedVariables false
set_option linter.unusedSimpArgs false
theorem own : ownKnob Tryd.prog.godebug = none := by kernel_rfl
theorem laid : laidOutB Tryd.prog = true := by kernel_rfl
theorem good : plainTs Tryd.prog [42, 71] = true := by kernel_rfl
/-- what the row lists -/
def listed : List (String × DataW Unit) := [("unicode/utf8.acceptRanges", Rows.laid_unicode_utf8_acceptRanges), ("clerestory/style.initial", Rows.laid_clerestory_style_initial), ("unicode/utf8.first", Rows.laid_unicode_utf8_first)]
theorem globs {W : World} (h : laidMetH Tryd.prog listed W) (hs : W.ShapedOpen Tryd.prog) : ∃ mL : Int, ∀ g, GlobOK (entry W) g (GG mL g) := by
  rw [MakeChecks.laidMetH_plain _ _ _ (by kernel_rfl)] at h
  obtain ⟨mL, hm⟩ := glob_int (P := Tryd.prog) (g := 2) (t := 3) (zero := #[.int .i64 0]) hs (of_decide_eq_true (by kernel_rfl)) (by kernel_rfl) rfl (by kernel_rfl) (by kernel_rfl) Tryd.underlying3
  refine ⟨mL, ?_⟩
  intro g
  by_cases h7 : g = 7
  · subst h7
    exact laid_met h (n := "unicode/utf8.acceptRanges") (dat := Rows.laid_unicode_utf8_acceptRanges) (g := 7) (t := 267) (l := g7_c) (.head _) (by kernel_rfl) (by kernel_rfl) (by kernel_rfl) (by kernel_rfl)
  by_cases h0 : g = 0
  · subst h0
    exact laid_met h (n := "clerestory/style.initial") (dat := Rows.laid_clerestory_style_initial) (g := 0) (t := 78) (l := g0_c) (.tail _ (.head _)) (by kernel_rfl) (by kernel_rfl) (by kernel_rfl) (by kernel_rfl)
  by_cases h6 : g = 6
  · subst h6
    exact laid_met h (n := "unicode/utf8.first") (dat := Rows.laid_unicode_utf8_first) (g := 6) (t := 220) (l := g6_c) (.tail _ (.tail _ (.head _))) (by kernel_rfl) (by kernel_rfl) (by kernel_rfl) (by kernel_rfl)
  by_cases h2 : g = 2
  · subst h2
    exact hm
  have e : GG mL g = [] := by unfold GG; rw [if_neg h0, if_neg h2, if_neg h6, if_neg h7]
  rw [e]
  exact glob_none g
set_option maxRecDepth 100000 in
theorem lifted (os : Os) (started : os.Started) (H : Type) (enc : TypeId × Value → H) :
    ReturnsInHanded {} Tryd.checked os 9 .any (fun w args => (Rows.styleFitsSpec.pre enc Tryd.prog Tryd.f9 Rows.styleFitsRow.domain false w args ∧ laidMetH Tryd.prog listed w) ∧ sizedMet enc Tryd.prog Tryd.f9 (OpenSpec.ofChange Rows.styleFitsSpec) false w args)
      (Rows.styleFitsSpec.post enc Tryd.prog Tryd.f9 false true false false) := by
  refine returns_shaped_and (C := Tryd.checked) (X := fun w _ => laidMetH Tryd.prog listed w) (fun _ _ _ hh h => h.of_heap hh) own started (by kernel_rfl) Tryd.func9
    (ChangeSpec.witness_shaped (enc := enc) (C := Tryd.checked) (os := os) (X := fun w _ => laidMetH Tryd.prog listed w) false (World.laidAll Tryd.prog os listed) #[.agg #[.slice none 0 0, .bool false], .slice none 0 0] 8 (World.laidAll_os _ _ _)
      (World.shaped_of_ZipB (by kernel_rfl) (by kernel_rfl)) (by kernel_rfl) (by kernel_rfl) (by kernel_rfl)
      (by rw [MakeChecks.laidMetH_plain _ _ _ (by kernel_rfl)]; exact laidMet_laidAll _ (by kernel_rfl) (by kernel_rfl))) ?_
  intro W base args ds gs before hval0 hW hcnd hsz0 hL hsh _
  have hsz1 : (DataW.weightsEach Tryd.prog (Tryd.f9.params.toList ++ Rows.styleFitsSpec.plain.varTypes Tryd.prog) (ds ++ gs)).all (· ≤ reachBytes) = true := hsz0
  have hval : ∀ (j : Nat) t v, Tryd.f9.params[j]? = some t → args[j]? = some v → Value.okWide Tryd.prog W .any base t v := hval0
  have hW' := hW
  obtain ⟨p, q, hA0, hV, rfl, hfz, hnd⟩ := hW
  have hA : DataW.TrodAll enc Tryd.prog W 0 (fun _ => true) true Tryd.f9.params.toList args.toList ds p := hA0
  rw [Tryd.params9] at hA hval
  have hval1 : ∀ (j : Nat) t v, ([42, 71] : List TypeId)[j]? = some t → args[j]? = some v → Value.okWide Tryd.prog W .any base t v := by
    intro j t v h1 h2
    exact hval j t v (by simpa using h1) h2
  have hA1 := hA
  obtain ⟨v0, vs0, d0, ds0, p0, q0, hargs, rfl, rfl, h0, r0⟩ := trodAll_cons hA
  obtain ⟨v1, vs1, d1, ds1, p1, q1, rfl, rfl, rfl, h1, r1⟩ := trodAll_cons r0
  obtain ⟨rfl, rfl, rfl⟩ := trodAll_nil r1
  obtain ⟨rfl, rfl⟩ := trodVars_none hV
  have ets : Tryd.f9.params.toList ++ Rows.styleFitsSpec.plain.varTypes Tryd.prog = [42, 71] := by kernel_rfl
  rw [ets, List.append_nil] at hsz1
  have hw : ∀ n ∈ DataW.weightsEach Tryd.prog ([42, 71] : List TypeId) _, n ≤ reachBytes := fun n hn => by simpa using List.all_eq_true.1 hsz1 n hn
  obtain ⟨mL, hG⟩ := globs hL hsh
  refine (law_callsG hG laid good hA1 hw hval1 (lawStyleFits pureStyleFits)).mono fun e W' ⟨he, bel, hT⟩ => ?_
  subst he
  exact ⟨_, rfl, _, _, _, [], _, [], hW', trodAll_mk1 (shut_bool Tryd.underlying4 _), hT, rfl, bel.frame _, fun h => by cases h⟩
theorem over : Rows.StyleFitsSaid :=
  OpenClaim.holds_of_wide 9 Tryd.f9 rfl rfl rfl rfl rfl rfl rfl ⟨rfl, rfl, rfl, rfl, rfl⟩ rfl rfl rfl rfl rfl (by kernel_rfl) Tryd.func9 (by kernel_rfl)
    (of_decide_eq_true (by kernel_rfl)) (by unfold Func.isWrapper; first | (rw [if_pos (by decide +kernel)]; kernel_rfl) | (rw [if_neg (by decide +kernel)]; exact ⟨rfl, rfl⟩))
    (fun os started H enc _ => lifted os started H enc)
theorem card : Rows.StyleFitsCardSaid :=
  Claim7.holds_tied_plain_at .later [] [.data, .data, .pinned] true (true, "41e547fbe42d7b5943deb6386e08341b7f908f8561d697b93a28b15b440e8ab8") false over (fun _ h => by cases h) (by kernel_rfl) (fun _ h => by cases h) styleFits_row_tie rfl ⟨rfl, rfl⟩ (by kernel_rfl) rfl
    (fun f fn hf hfn => by
      obtain rfl : f = 9 := Option.some.inj ((show Tryd.prog.funcNamed "clerestory/clerestorylaw2.StyleFits" = some 9 by kernel_rfl).symm.trans hf) |>.symm
      obtain rfl : fn = Tryd.f9 := (Option.some.inj (Tryd.func9.symm.trans hfn)).symm
      exact ⟨by kernel_rfl, fun j t ht => by
        rw [Tryd.params9] at ht
        have hm : t ∈ [42, 71] := by simpa using Array.mem_of_getElem? ht
        have hall : ([42, 71].all fun u => !Tryd.prog.wantsStandIn u) = true := by kernel_rfl
        exact (show Tryd.prog.wantsStandIn t = false by simpa using List.all_eq_true.1 hall t hm)⟩)
    (by kernel_rfl)
end Go.Proofs.YtagfmlkihindaaaDoor.styleFits
namespace Go.Proofs.YtagfmlkihindaaaDoor
/-- The card, under a short name, for the claim. -/
theorem styleFits_holds : Rows.StyleFitsCardSaid := styleFits.card
#print axioms styleFits_holds
end Go.Proofs.YtagfmlkihindaaaDoor
