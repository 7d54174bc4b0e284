/- What is handed in to the law ValueSays, as plain values. -/
import Derived.Test.YtgfcmhomndofaaaDoorGValueSays0
namespace Go.Proofs.YtgfcmhomndofaaaDoorBv
open Go
set_option linter.unusedVariables false
set_option linter.unusedSimpArgs false
attribute [local irreducible] Shape
def ok3 (x : Int) : Prop := (Lit.int .i64 x).wf = true
theorem sh3 (d : Nat) {l : List Cel} (h : Shape Tryd.prog (d + 1) 3 l) : ∃ v : Int, l = eI v ∧ ok3 v := by
  rw [Shape_int Tryd.underlying3] at h
  obtain ⟨v, h1, rfl⟩ := h; exact ⟨v, rfl, h1⟩
def ok9 (x : (List UInt8)) : Prop := x.length ≤ reachBytes
theorem sh9 (d : Nat) {l : List Cel} (h : Shape Tryd.prog (d + 1) 9 l) : ∃ v : (List UInt8), l = eStr v ∧ ok9 v := by
  rw [Shape_string Tryd.underlying9] at h
  obtain ⟨v, h1, rfl⟩ := h; exact ⟨v, rfl, h1⟩
def ok27 (x : TJVal) : Prop := ok3 x.Kind ∧ ok3 x.N ∧ ok9 x.S
theorem sh27 (d : Nat) {l : List Cel} (h : Shape Tryd.prog (d + 2) 27 l) : ∃ v : TJVal, l = e_TJVal v ∧ ok27 v := by
  rw [Shape_struct Tryd.underlying27] at h
  simp only [Cat, List.map_cons, List.map_nil] at h
  obtain ⟨l0, r0, rfl, h0, l1, r1, rfl, h1, l2, r2, rfl, h2, rfl⟩ := h
  obtain ⟨v0, rfl, k0⟩ := sh3 (d + 0) h0
  obtain ⟨v1, rfl, k1⟩ := sh3 (d + 0) h1
  obtain ⟨v2, rfl, k2⟩ := sh9 (d + 0) h2
  exact ⟨⟨v0, v1, v2⟩, rfl, k0, k1, k2⟩
/-- The law, over plain values. -/
def PureValueSays : Prop := ∀ (a0 : TJVal) (a1 : TJVal), ok27 a0 → ok27 a1 → clerestorylaw4_ValueSays a0 a1 = some true
theorem lawValueSays (pureValueSays : PureValueSays) (xs : List AV) (hl : xs.length = 2) (hs : ∀ (i : Nat) (t : TypeId) (x : AV), ([27, 27] : List TypeId)[i]? = some t → xs[i]? = some x → ShapeV Tryd.prog t x) : CPure Tryd.prog GG 4 xs (.c (.val (.bool true))) := by
  match xs, hl, hs with
  | [x0, x1], _, hs =>
    have h0 := hs 0 27 x0 (by simp) (by simp)
    rw [ShapeV_struct Tryd.underlying27] at h0
    obtain ⟨l0, rfl, h0⟩ := h0
    obtain ⟨a0, rfl, k0⟩ := sh27 10 h0
    have h1 := hs 1 27 x1 (by simp) (by simp)
    rw [ShapeV_struct Tryd.underlying27] at h1
    obtain ⟨l1, rfl, h1⟩ := h1
    obtain ⟨a1, rfl, k1⟩ := sh27 10 h1
    exact clerestorylaw4_ValueSays_ok (pureValueSays a0 a1 k0 k1)
end Go.Proofs.YtgfcmhomndofaaaDoorBv
