/- What is handed in to the law AnimMixes, as plain values. -/
import Derived.Test.YtgfcmhomndofaaaGAnimMixes0
namespace Go.Proofs.YtgfcmhomndofaaaBv
open Go
set_option linter.unusedVariables false
set_option linter.unusedSimpArgs false
attribute [local irreducible] Shape
def ok3 (x : Int) : Prop := (Lit.int .i64 x).wf = true
theorem sh3 (d : Nat) {l : List Cel} (h : Shape Try.prog (d + 1) 3 l) : ∃ v : Int, l = eI v ∧ ok3 v := by
  rw [Shape_int Try.underlying3] at h
  obtain ⟨v, h1, rfl⟩ := h; exact ⟨v, rfl, h1⟩
def ok44 (x : TVal) : Prop := ok3 x.Kind ∧ ok3 x.N
theorem sh44 (d : Nat) {l : List Cel} (h : Shape Try.prog (d + 2) 44 l) : ∃ v : TVal, l = e_TVal v ∧ ok44 v := by
  rw [Shape_struct Try.underlying44] at h
  simp only [Cat, List.map_cons, List.map_nil] at h
  obtain ⟨l0, r0, rfl, h0, l1, r1, rfl, h1, rfl⟩ := h
  obtain ⟨v0, rfl, k0⟩ := sh3 (d + 0) h0
  obtain ⟨v1, rfl, k1⟩ := sh3 (d + 0) h1
  exact ⟨⟨v0, v1⟩, rfl, k0, k1⟩
/-- The law, over plain values. -/
def PureAnimMixes : Prop := ∀ (a0 : TVal) (a1 : TVal) (a2 : Int), ok44 a0 → ok44 a1 → ok3 a2 → clerestorylaw2_AnimMixes a0 a1 a2 = some true
theorem lawAnimMixes (pureAnimMixes : PureAnimMixes) (xs : List AV) (hl : xs.length = 3) (hs : ∀ (i : Nat) (t : TypeId) (x : AV), ([44, 44, 3] : List TypeId)[i]? = some t → xs[i]? = some x → ShapeV Try.prog t x) : CPure Try.prog (fun _ => []) 7 xs (.c (.val (.bool true))) := by
  match xs, hl, hs with
  | [x0, x1, x2], _, hs =>
    have h0 := hs 0 44 x0 (by simp) (by simp)
    rw [ShapeV_struct Try.underlying44] at h0
    obtain ⟨l0, rfl, h0⟩ := h0
    obtain ⟨a0, rfl, k0⟩ := sh44 10 h0
    have h1 := hs 1 44 x1 (by simp) (by simp)
    rw [ShapeV_struct Try.underlying44] at h1
    obtain ⟨l1, rfl, h1⟩ := h1
    obtain ⟨a1, rfl, k1⟩ := sh44 10 h1
    have h2 := hs 2 3 x2 (by simp) (by simp)
    rw [ShapeV_int Try.underlying3] at h2
    obtain ⟨l2, rfl, h2⟩ := h2
    obtain ⟨a2, e2, k2⟩ := sh3 11 h2
    cases e2
    exact clerestorylaw2_AnimMixes_ok (pureAnimMixes a0 a1 a2 k0 k1 k2)
end Go.Proofs.YtgfcmhomndofaaaBv
