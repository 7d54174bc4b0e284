/- What is handed in to the law DimPxs, as plain values. -/
import Derived.Test.YtagfmlkihindaaaDoorGDimPxs1
namespace Go.Proofs.YtagfmlkihindaaaDoorBv
open Go
set_option linter.unusedVariables false
set_option linter.unusedSimpArgs false
attribute [local irreducible] Shape
def ok3 (x : Int) : Prop := (Lit.int .i64 x).wf = true
theorem sh3 (d : Nat) {l : List Cel} (h : Shape Tryd.prog (d + 1) 3 l) : ∃ v : Int, l = eI v ∧ ok3 v := by
  rw [Shape_int Tryd.underlying3] at h
  obtain ⟨v, h1, rfl⟩ := h; exact ⟨v, rfl, h1⟩
def ok9 (x : (List UInt8)) : Prop := x.length ≤ reachBytes
theorem sh9 (d : Nat) {l : List Cel} (h : Shape Tryd.prog (d + 1) 9 l) : ∃ v : (List UInt8), l = eStr v ∧ ok9 v := by
  rw [Shape_string Tryd.underlying9] at h
  obtain ⟨v, h1, rfl⟩ := h; exact ⟨v, rfl, h1⟩
def ok61 (x : TSDim) : Prop := ok3 x.Num ∧ ok9 x.Unit
theorem sh61 (d : Nat) {l : List Cel} (h : Shape Tryd.prog (d + 2) 61 l) : ∃ v : TSDim, l = e_TSDim v ∧ ok61 v := by
  rw [Shape_struct Tryd.underlying61] at h
  simp only [Cat, List.map_cons, List.map_nil] at h
  obtain ⟨l0, r0, rfl, h0, l1, r1, rfl, h1, rfl⟩ := h
  obtain ⟨v0, rfl, k0⟩ := sh3 (d + 0) h0
  obtain ⟨v1, rfl, k1⟩ := sh9 (d + 0) h1
  exact ⟨⟨v0, v1⟩, rfl, k0, k1⟩
def ok63 (x : TSScale) : Prop := ok3 x.Em ∧ ok3 x.Rem ∧ ok3 x.Width ∧ ok3 x.Height
theorem sh63 (d : Nat) {l : List Cel} (h : Shape Tryd.prog (d + 2) 63 l) : ∃ v : TSScale, l = e_TSScale v ∧ ok63 v := by
  rw [Shape_struct Tryd.underlying63] at h
  simp only [Cat, List.map_cons, List.map_nil] at h
  obtain ⟨l0, r0, rfl, h0, l1, r1, rfl, h1, l2, r2, rfl, h2, l3, r3, rfl, h3, rfl⟩ := h
  obtain ⟨v0, rfl, k0⟩ := sh3 (d + 0) h0
  obtain ⟨v1, rfl, k1⟩ := sh3 (d + 0) h1
  obtain ⟨v2, rfl, k2⟩ := sh3 (d + 0) h2
  obtain ⟨v3, rfl, k3⟩ := sh3 (d + 0) h3
  exact ⟨⟨v0, v1, v2, v3⟩, rfl, k0, k1, k2, k3⟩
/-- The law, over plain values. -/
def PureDimPxs : Prop := ∀ (a0 : TSDim) (a1 : TSScale), ok61 a0 → ok63 a1 → clerestorylaw2_DimPxs a0 a1 = some true
theorem lawDimPxs {mL : Int} (pureDimPxs : PureDimPxs) (xs : List AV) (hl : xs.length = 2) (hs : ∀ (i : Nat) (t : TypeId) (x : AV), ([61, 63] : List TypeId)[i]? = some t → xs[i]? = some x → ShapeV Tryd.prog t x) : CPure Tryd.prog (GG mL) 7 xs (.c (.val (.bool true))) := by
  match xs, hl, hs with
  | [x0, x1], _, hs =>
    have h0 := hs 0 61 x0 (by simp) (by simp)
    rw [ShapeV_struct Tryd.underlying61] at h0
    obtain ⟨l0, rfl, h0⟩ := h0
    obtain ⟨a0, rfl, k0⟩ := sh61 10 h0
    have h1 := hs 1 63 x1 (by simp) (by simp)
    rw [ShapeV_struct Tryd.underlying63] at h1
    obtain ⟨l1, rfl, h1⟩ := h1
    obtain ⟨a1, rfl, k1⟩ := sh63 10 h1
    exact clerestorylaw2_DimPxs_ok (pureDimPxs a0 a1 k0 k1)
end Go.Proofs.YtagfmlkihindaaaDoorBv
