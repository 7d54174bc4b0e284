/- What is handed in to the law ColorTells, as plain values. -/
import Derived.Test.YtmpdhpfimmahfaaDoorGColorTells2
namespace Go.Proofs.YtmpdhpfimmahfaaDoorBv
open Go
set_option linter.unusedVariables false
set_option linter.unusedSimpArgs false
attribute [local irreducible] Shape
def ok3 (x : Int) : Prop := (Lit.int .i64 x).wf = true
theorem sh3 (d : Nat) {l : List Cel} (h : Shape Tryd.prog (d + 1) 3 l) : ∃ v : Int, l = eI v ∧ ok3 v := by
  rw [Shape_int Tryd.underlying3] at h
  obtain ⟨v, h1, rfl⟩ := h; exact ⟨v, rfl, h1⟩
/-- The law, over plain values. -/
def PureColorTells : Prop := ∀ (a0 : Int), ok3 a0 → clerestorylaw2_ColorTells a0 = some true
theorem lawColorTells {mL : Int} (pureColorTells : PureColorTells) (xs : List AV) (hl : xs.length = 1) (hs : ∀ (i : Nat) (t : TypeId) (x : AV), ([3] : List TypeId)[i]? = some t → xs[i]? = some x → ShapeV Tryd.prog t x) : CPure Tryd.prog (GG mL) 7 xs (.c (.val (.bool true))) := by
  match xs, hl, hs with
  | [x0], _, hs =>
    have h0 := hs 0 3 x0 (by simp) (by simp)
    rw [ShapeV_int Tryd.underlying3] at h0
    obtain ⟨l0, rfl, h0⟩ := h0
    obtain ⟨a0, e0, k0⟩ := sh3 11 h0
    cases e0
    exact clerestorylaw2_ColorTells_ok (pureColorTells a0 k0)
end Go.Proofs.YtmpdhpfimmahfaaDoorBv
