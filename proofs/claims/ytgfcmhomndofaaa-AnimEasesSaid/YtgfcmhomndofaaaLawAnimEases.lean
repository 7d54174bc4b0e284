/- 'clerestorylaw2.AnimEases' answers true of every easing and every time. -/
import Derived.Test.YtgfcmhomndofaaaRows
import Derived.Test.YtgfcmhomndofaaaEaseWalk2
import Derived.Test.YtgfcmhomndofaaaAv20
import Derived.WalkKit
import Derived.ProofKit
import Derived.OpenShut
import Derived.ChangeOld
import Derived.SizedLaws
namespace Go.Proofs.Ytgfcmhomndofaaa.animEases
open Go Go.ChangeShapes Go.WideShapes Go.ChangeAt Go.RowKit Go.Proofs.YtgfcmhomndofaaaAv
set_option linter.unusedVariables false
set_option linter.unusedSimpArgs false
theorem own : ownKnob Try.prog.godebug = none := by kernel_rfl
theorem laid : laidOutB Try.prog = true := by kernel_rfl
theorem good : plainTs Try.prog [25, 3] = true := by kernel_rfl
/-- what an easing's cells look like -/
theorem shape (xs : List AV) (hl : xs.length = 2) (hs : ∀ (i : Nat) (t : TypeId) (x : AV), ([25, 3] : List TypeId)[i]? = some t → xs[i]? = some x → ShapeV Try.prog t x) :
    ∃ k c0 c1 c2 c3 n t : Int, xs = [ease k c0 c1 c2 c3 n, I t] := by
  match xs, hl, hs with
  | [x, y], _, hs =>
    have h1 : ShapeV Try.prog 25 x := hs 0 25 x (by simp) (by simp)
    have h2 : ShapeV Try.prog 3 y := hs 1 3 y (by simp) (by simp)
    rw [ShapeV_struct Try.underlying25] at h1
    rw [ShapeV_int Try.underlying3] at h2
    simp only [Shape_struct Try.underlying25, Shape_array Try.underlying23, Shape_int Try.underlying3, Cat, List.map_cons, List.map_nil, List.replicate] at h1 h2
    obtain ⟨l, rfl, a, b, rfl, ⟨k, _, rfl⟩, a, b, rfl, ⟨x0, y0, rfl, ⟨c0, _, rfl⟩, x1, y1, rfl, ⟨c1, _, rfl⟩, x2, y2, rfl, ⟨c2, _, rfl⟩, x3, y3, rfl, ⟨c3, _, rfl⟩, rfl⟩, x4, y4, rfl, ⟨n, _, rfl⟩, rfl⟩ := h1
    obtain ⟨c, rfl, t, _, h⟩ := h2
    cases h
    exact ⟨k, c0, c1, c2, c3, n, t, rfl⟩
theorem pureLaw (xs : List AV) (hl : xs.length = 2) (hs : ∀ (i : Nat) (t : TypeId) (x : AV), ([25, 3] : List TypeId)[i]? = some t → xs[i]? = some x → ShapeV Try.prog t x) : APure Try.prog (fun _ => []) 4 xs (.c (.val (.bool true))) := by
  obtain ⟨k, c0, c1, c2, c3, n, t, rfl⟩ := shape xs hl hs
  exact k4
set_option maxRecDepth 100000 in
theorem lifted (os : Os) (started : os.Started) (H : Type) (enc : TypeId × Value → H) :
    ReturnsInHanded {} Try.checked os 4 .any (Rows.animEasesSpec.pre6 enc Try.prog Try.f4 Rows.animEasesRow.domain false) (Rows.animEasesSpec.post enc Try.prog Try.f4 false true false false) := by
  refine returnsInHanded_of_change_sized (C := Try.checked) own started (by kernel_rfl) Try.func4
    (ChangeSpec.witness6 (enc := enc) (C := Try.checked) false ⟨#[], #[.agg #[.int .i64 0, .int .i64 0, .int .i64 0, .int .i64 0, .int .i64 0, .int .i64 0], .int .i64 0], []⟩ 8 (by kernel_rfl) (by kernel_rfl) (by kernel_rfl) (by kernel_rfl)) ?_
  intro W base args ds gs before hval0 hW hcnd hsz0 _
  have hval : ∀ (j : Nat) t v, Try.f4.params[j]? = some t → args[j]? = some v → Value.okWide Try.prog W .any base t v := hval0
  have hW' := hW
  obtain ⟨p, q, hA0, hV, rfl, hfz, hnd⟩ := hW
  have hA : DataW.TrodAll enc Try.prog W 0 (fun _ => true) true Try.f4.params.toList args.toList ds p := hA0
  rw [Try.params4] at hA hval
  have hval1 : ∀ (j : Nat) t v, [25, 3][j]? = some t → args[j]? = some v → Value.okWide Try.prog W .any base t v := by
    intro j t v h1 h2
    exact hval j t v (by simpa using h1) h2
  have hA1 := hA
  obtain ⟨v0, vs0, d0, ds0, p0, q0, hargs, rfl, rfl, h0, r0⟩ := trodAll_cons hA
  obtain ⟨v1, vs1, d1, ds1, p1, q1, rfl, rfl, rfl, h1, r1⟩ := trodAll_cons r0
  obtain ⟨rfl, rfl, rfl⟩ := trodAll_nil r1
  obtain ⟨rfl, rfl⟩ := trodVars_none hV
  refine (law_calls laid good hA1 hval1 pureLaw).mono fun e W' ⟨he, bel, hT⟩ => ?_
  subst he
  exact ⟨_, rfl, _, _, _, [], _, [], hW', trodAll_mk1 (shut_bool Try.underlying4 _), hT, rfl, bel.frame _, fun h => by cases h⟩
theorem over : Rows.animEasesRow.holds Try.pinned (OpenSpec.ofChange Rows.animEasesSpec) :=
  OpenClaim.holds_of_wide 4 Try.f4 rfl rfl rfl rfl rfl rfl rfl ⟨rfl, rfl, rfl, rfl, rfl⟩ rfl rfl rfl rfl rfl (by kernel_rfl) Try.func4 (by kernel_rfl)
    (of_decide_eq_true (by kernel_rfl)) (by unfold Func.isWrapper; first | (rw [if_pos (by decide +kernel)]; kernel_rfl) | (rw [if_neg (by decide +kernel)]; exact ⟨rfl, rfl⟩))
    (fun os started H enc _ => lifted os started H enc)
theorem proved : Rows.AnimEasesSaid := over
end Go.Proofs.Ytgfcmhomndofaaa.animEases
namespace Go.Proofs.Ytgfcmhomndofaaa
/-- The row, under a short name, for the claim. -/
theorem animEases_holds : Rows.AnimEasesSaid := animEases.proved
#print axioms animEases_holds
end Go.Proofs.Ytgfcmhomndofaaa
