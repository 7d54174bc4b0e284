/- What is handed in to the law DimTells, as plain values. -/
import Derived.Test.YteldbcjjojjjiaaDoorGDimTells1
namespace Go.Proofs.YteldbcjjojjjiaaDoorBv
open Go
set_option linter.unusedVariables false
set_option linter.unusedSimpArgs false
attribute [local irreducible] Shape
def ok3 (x : Int) : Prop := (Lit.int .i64 x).wf = true
theorem sh3 (d : Nat) {l : List Cel} (h : Shape Tryd.prog (d + 1) 3 l) : ∃ v : Int, l = eI v ∧ ok3 v := by
  rw [Shape_int Tryd.underlying3] at h
  obtain ⟨v, h1, rfl⟩ := h; exact ⟨v, rfl, h1⟩
def ok9 (x : (List UInt8)) : Prop := x.length ≤ reachBytes
theorem sh9 (d : Nat) {l : List Cel} (h : Shape Tryd.prog (d + 1) 9 l) : ∃ v : (List UInt8), l = eStr v ∧ ok9 v := by
  rw [Shape_string Tryd.underlying9] at h
  obtain ⟨v, h1, rfl⟩ := h; exact ⟨v, rfl, h1⟩
def ok23 (x : TSDim) : Prop := ok3 x.Num ∧ ok9 x.Unit
theorem sh23 (d : Nat) {l : List Cel} (h : Shape Tryd.prog (d + 2) 23 l) : ∃ v : TSDim, l = e_TSDim v ∧ ok23 v := by
  rw [Shape_struct Tryd.underlying23] at h
  simp only [Cat, List.map_cons, List.map_nil] at h
  obtain ⟨l0, r0, rfl, h0, l1, r1, rfl, h1, rfl⟩ := h
  obtain ⟨v0, rfl, k0⟩ := sh3 (d + 0) h0
  obtain ⟨v1, rfl, k1⟩ := sh9 (d + 0) h1
  exact ⟨⟨v0, v1⟩, rfl, k0, k1⟩
/-- The law, over plain values. -/
def PureDimTells : Prop := ∀ (a0 : TSDim), ok23 a0 → clerestorylaw2_DimTells a0 = some true
theorem lawDimTells {mL : Int} (pureDimTells : PureDimTells) (xs : List AV) (hl : xs.length = 1) (hs : ∀ (i : Nat) (t : TypeId) (x : AV), ([23] : List TypeId)[i]? = some t → xs[i]? = some x → ShapeV Tryd.prog t x) : CPure Tryd.prog (GG mL) 3 xs (.c (.val (.bool true))) := by
  match xs, hl, hs with
  | [x0], _, hs =>
    have h0 := hs 0 23 x0 (by simp) (by simp)
    rw [ShapeV_struct Tryd.underlying23] at h0
    obtain ⟨l0, rfl, h0⟩ := h0
    obtain ⟨a0, rfl, k0⟩ := sh23 10 h0
    exact clerestorylaw2_DimTells_ok (pureDimTells a0 k0)
end Go.Proofs.YteldbcjjojjjiaaDoorBv
