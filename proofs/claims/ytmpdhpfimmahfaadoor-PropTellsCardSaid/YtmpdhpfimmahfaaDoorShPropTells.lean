/- What is handed in to the law PropTells, as plain values. -/
import Derived.Test.YtmpdhpfimmahfaaDoorGPropTells2
namespace Go.Proofs.YtmpdhpfimmahfaaDoorBv
open Go
set_option linter.unusedVariables false
set_option linter.unusedSimpArgs false
attribute [local irreducible] Shape
def ok3 (x : Int) : Prop := (Lit.int .i64 x).wf = true
theorem sh3 (d : Nat) {l : List Cel} (h : Shape Tryd.prog (d + 1) 3 l) : ∃ v : Int, l = eI v ∧ ok3 v := by
  rw [Shape_int Tryd.underlying3] at h
  obtain ⟨v, h1, rfl⟩ := h; exact ⟨v, rfl, h1⟩
def ok23 (x : TVal) : Prop := ok3 x.Kind ∧ ok3 x.N
theorem sh23 (d : Nat) {l : List Cel} (h : Shape Tryd.prog (d + 2) 23 l) : ∃ v : TVal, l = e_TVal v ∧ ok23 v := by
  rw [Shape_struct Tryd.underlying23] at h
  simp only [Cat, List.map_cons, List.map_nil] at h
  obtain ⟨l0, r0, rfl, h0, l1, r1, rfl, h1, rfl⟩ := h
  obtain ⟨v0, rfl, k0⟩ := sh3 (d + 0) h0
  obtain ⟨v1, rfl, k1⟩ := sh3 (d + 0) h1
  exact ⟨⟨v0, v1⟩, rfl, k0, k1⟩
/-- The law, over plain values. -/
def PurePropTells : Prop := ∀ (a0 : Int) (a1 : TVal), ok3 a0 → ok23 a1 → clerestorylaw2_PropTells a0 a1 = some true
theorem lawPropTells {mL : Int} (purePropTells : PurePropTells) (xs : List AV) (hl : xs.length = 2) (hs : ∀ (i : Nat) (t : TypeId) (x : AV), ([3, 23] : List TypeId)[i]? = some t → xs[i]? = some x → ShapeV Tryd.prog t x) : CPure Tryd.prog (GG mL) 3 xs (.c (.val (.bool true))) := by
  match xs, hl, hs with
  | [x0, x1], _, hs =>
    have h0 := hs 0 3 x0 (by simp) (by simp)
    rw [ShapeV_int Tryd.underlying3] at h0
    obtain ⟨l0, rfl, h0⟩ := h0
    obtain ⟨a0, e0, k0⟩ := sh3 11 h0
    cases e0
    have h1 := hs 1 23 x1 (by simp) (by simp)
    rw [ShapeV_struct Tryd.underlying23] at h1
    obtain ⟨l1, rfl, h1⟩ := h1
    obtain ⟨a1, rfl, k1⟩ := sh23 10 h1
    exact clerestorylaw2_PropTells_ok (purePropTells a0 a1 k0 k1)
end Go.Proofs.YtmpdhpfimmahfaaDoorBv
