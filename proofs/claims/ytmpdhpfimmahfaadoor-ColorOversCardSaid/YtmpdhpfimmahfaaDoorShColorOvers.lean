/- What is handed in to the law ColorOvers, as plain values. -/
import Derived.Test.YtmpdhpfimmahfaaDoorGColorOvers1
namespace Go.Proofs.YtmpdhpfimmahfaaDoorBv
open Go
set_option linter.unusedVariables false
set_option linter.unusedSimpArgs false
attribute [local irreducible] Shape
def ok3 (x : Int) : Prop := (Lit.int .i64 x).wf = true
theorem sh3 (d : Nat) {l : List Cel} (h : Shape Tryd.prog (d + 1) 3 l) : ∃ v : Int, l = eI v ∧ ok3 v := by
  rw [Shape_int Tryd.underlying3] at h
  obtain ⟨v, h1, rfl⟩ := h; exact ⟨v, rfl, h1⟩
/-- The law, over plain values. -/
def PureColorOvers : Prop := ∀ (a0 : Int) (a1 : Int), ok3 a0 → ok3 a1 → clerestorylaw2_ColorOvers a0 a1 = some true
theorem lawColorOvers {mL : Int} (pureColorOvers : PureColorOvers) (xs : List AV) (hl : xs.length = 2) (hs : ∀ (i : Nat) (t : TypeId) (x : AV), ([3, 3] : List TypeId)[i]? = some t → xs[i]? = some x → ShapeV Tryd.prog t x) : CPure Tryd.prog (GG mL) 6 xs (.c (.val (.bool true))) := by
  match xs, hl, hs with
  | [x0, x1], _, hs =>
    have h0 := hs 0 3 x0 (by simp) (by simp)
    rw [ShapeV_int Tryd.underlying3] at h0
    obtain ⟨l0, rfl, h0⟩ := h0
    obtain ⟨a0, e0, k0⟩ := sh3 11 h0
    cases e0
    have h1 := hs 1 3 x1 (by simp) (by simp)
    rw [ShapeV_int Tryd.underlying3] at h1
    obtain ⟨l1, rfl, h1⟩ := h1
    obtain ⟨a1, e1, k1⟩ := sh3 11 h1
    cases e1
    exact clerestorylaw2_ColorOvers_ok (pureColorOvers a0 a1 k0 k1)
end Go.Proofs.YtmpdhpfimmahfaaDoorBv
