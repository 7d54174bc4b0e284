/- 'AnimChecks' answers true, whatever is handed in. -/
import Derived.Test.YtgfcmhomndofaaaRows
import Derived.Test.YtgfcmhomndofaaaChecksWalk
import Derived.Test.YtgfcmhomndofaaaAv20
import Derived.WalkKit
import Derived.ProofKit
import Derived.OpenShut
import Derived.ChangeOld
import Derived.SizedLaws
namespace Go.Proofs.Ytgfcmhomndofaaa.animChecks
open Go Go.ChangeShapes Go.WideShapes Go.ChangeAt Go.RowKit Go.Proofs.YtgfcmhomndofaaaAv
set_option linter.unusedVariables false
set_option linter.unusedSimpArgs false
theorem own : ownKnob Try.prog.godebug = none := by kernel_rfl
theorem laid : laidOutB Try.prog = true := by kernel_rfl
theorem good : plainTs Try.prog [40] = true := by kernel_rfl
theorem cells78 : Try.prog.cellsOf 78 = 3 := by kernel_rfl
/-- what a change's cells look like -/
theorem shape (xs : List AV) (hl : xs.length = 1) (hs : ∀ (i : Nat) (t : TypeId) (x : AV), ([40] : List TypeId)[i]? = some t → xs[i]? = some x → ShapeV Try.prog t x) :
    ∃ (f l t : Int) (tu st : Bool) (k c0 c1 c2 c3 n : Int) (nl : Bool) (fs : List Fr), xs = [anim f l t tu st k c0 c1 c2 c3 n nl fs] := by
  match xs, hl, hs with
  | [x], _, hs =>
    have h1 : ShapeV Try.prog 40 x := hs 0 40 x (by simp) (by simp)
    rw [ShapeV_struct Try.underlying40] at h1
    simp only [Shape_struct Try.underlying40, Shape_struct Try.underlying25, Shape_array Try.underlying23, Shape_slice Try.underlying38, Shape_struct Try.underlying78, Shape_struct Try.underlying44, Shape_int Try.underlying3, Shape_bool Try.underlying4, Cat, List.map_cons, List.map_nil, List.replicate, cells78] at h1
    obtain ⟨l, rfl, _, _, rfl, ⟨f, _, rfl⟩, _, _, rfl, ⟨l, _, rfl⟩, _, _, rfl, ⟨t, _, rfl⟩, _, _, rfl, ⟨tu, rfl⟩, _, _, rfl, ⟨st, rfl⟩, _, _, rfl,
      ⟨a, b, rfl, ⟨k, _, rfl⟩, a, b, rfl, ⟨x0, y0, rfl, ⟨c0, _, rfl⟩, x1, y1, rfl, ⟨c1, _, rfl⟩, x2, y2, rfl, ⟨c2, _, rfl⟩, x3, y3, rfl, ⟨c3, _, rfl⟩, rfl⟩, x4, y4, rfl, ⟨n, _, rfl⟩, rfl⟩,
      _, _, rfl, ⟨nl, xs, rfl, _, _, hx⟩, rfl⟩ := h1
    obtain ⟨fs, rfl⟩ := map_of (f := fr3) (xs := xs) fun x hxm => by
      obtain ⟨_, _, rfl, ⟨a, _, rfl⟩, _, _, rfl, ⟨_, _, rfl, ⟨b, _, rfl⟩, _, _, rfl, ⟨c, _, rfl⟩, rfl⟩, rfl⟩ := hx x hxm
      exact ⟨(a, b, c), rfl⟩
    exact ⟨f, l, t, tu, st, k, c0, c1, c2, c3, n, nl, fs, rfl⟩
theorem pureLaw (xs : List AV) (hl : xs.length = 1) (hs : ∀ (i : Nat) (t : TypeId) (x : AV), ([40] : List TypeId)[i]? = some t → xs[i]? = some x → ShapeV Try.prog t x) : APure Try.prog (fun _ => []) 6 xs (.c (.val (.bool true))) := by
  obtain ⟨f, l, t, tu, st, k, c0, c1, c2, c3, n, nl, fs, rfl⟩ := shape xs hl hs
  exact k6 f l t tu st k c0 c1 c2 c3 n nl fs
set_option maxRecDepth 100000 in
theorem lifted (os : Os) (started : os.Started) (H : Type) (enc : TypeId × Value → H) :
    ReturnsInHanded {} Try.checked os 6 .any (Rows.animChecksSpec.pre6 enc Try.prog Try.f6 Rows.animChecksRow.domain false) (Rows.animChecksSpec.post enc Try.prog Try.f6 false true false false) := by
  refine returnsInHanded_of_change_sized (C := Try.checked) own started (by kernel_rfl) Try.func6
    (ChangeSpec.witness6 (enc := enc) (C := Try.checked) false ⟨#[], #[.agg #[.int .i64 0, .int .i64 0, .int .i64 0, .bool false, .bool false, .int .i64 0, .int .i64 0, .int .i64 0, .int .i64 0, .int .i64 0, .int .i64 0, .slice none 0 0]], []⟩ 8 (by kernel_rfl) (by kernel_rfl) (by kernel_rfl) (by kernel_rfl)) ?_
  intro W base args ds gs before hval0 hW hcnd hsz0 _
  have hval : ∀ (j : Nat) t v, Try.f6.params[j]? = some t → args[j]? = some v → Value.okWide Try.prog W .any base t v := hval0
  have hW' := hW
  obtain ⟨p, q, hA0, hV, rfl, hfz, hnd⟩ := hW
  have hA : DataW.TrodAll enc Try.prog W 0 (fun _ => true) true Try.f6.params.toList args.toList ds p := hA0
  rw [Try.params6] at hA hval
  have hval1 : ∀ (j : Nat) t v, ([40] : List TypeId)[j]? = some t → args[j]? = some v → Value.okWide Try.prog W .any base t v := by
    intro j t v h1 h2
    exact hval j t v (by simpa using h1) h2
  have hA1 := hA
  obtain ⟨v0, vs0, d0, ds0, p0, q0, hargs, rfl, rfl, h0, r0⟩ := trodAll_cons hA
  obtain ⟨rfl, rfl, rfl⟩ := trodAll_nil r0
  obtain ⟨rfl, rfl⟩ := trodVars_none hV
  refine (law_calls laid good hA1 hval1 pureLaw).mono fun e W' ⟨he, bel, hT⟩ => ?_
  subst he
  exact ⟨_, rfl, _, _, _, [], _, [], hW', trodAll_mk1 (shut_bool Try.underlying4 _), hT, rfl, bel.frame _, fun h => by cases h⟩
theorem over : Rows.animChecksRow.holds Try.pinned (OpenSpec.ofChange Rows.animChecksSpec) :=
  OpenClaim.holds_of_wide 6 Try.f6 rfl rfl rfl rfl rfl rfl rfl ⟨rfl, rfl, rfl, rfl, rfl⟩ rfl rfl rfl rfl rfl (by kernel_rfl) Try.func6 (by kernel_rfl)
    (of_decide_eq_true (by kernel_rfl)) (by unfold Func.isWrapper; first | (rw [if_pos (by decide +kernel)]; kernel_rfl) | (rw [if_neg (by decide +kernel)]; exact ⟨rfl, rfl⟩))
    (fun os started H enc _ => lifted os started H enc)
theorem proved : Rows.AnimChecksSaid := over
end Go.Proofs.Ytgfcmhomndofaaa.animChecks
namespace Go.Proofs.Ytgfcmhomndofaaa
/-- The row, under a short name, for the claim. -/
theorem animChecks_holds : Rows.AnimChecksSaid := animChecks.proved
#print axioms animChecks_holds
end Go.Proofs.Ytgfcmhomndofaaa
