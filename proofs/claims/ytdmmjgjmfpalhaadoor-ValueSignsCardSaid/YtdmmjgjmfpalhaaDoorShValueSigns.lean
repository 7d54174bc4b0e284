/- What is handed in to the law ValueSigns, as plain values. -/
import Derived.Test.YtdmmjgjmfpalhaaDoorGValueSigns1
namespace Go.Proofs.YtdmmjgjmfpalhaaDoorBv
open Go
set_option linter.unusedVariables false
set_option linter.unusedSimpArgs false
attribute [local irreducible] Shape
def ok9 (x : (List UInt8)) : Prop := x.length ≤ reachBytes
theorem sh9 (d : Nat) {l : List Cel} (h : Shape Tryd.prog (d + 1) 9 l) : ∃ v : (List UInt8), l = eStr v ∧ ok9 v := by
  rw [Shape_string Tryd.underlying9] at h
  obtain ⟨v, h1, rfl⟩ := h; exact ⟨v, rfl, h1⟩
def ok3 (x : Int) : Prop := (Lit.int .i64 x).wf = true
theorem sh3 (d : Nat) {l : List Cel} (h : Shape Tryd.prog (d + 1) 3 l) : ∃ v : Int, l = eI v ∧ ok3 v := by
  rw [Shape_int Tryd.underlying3] at h
  obtain ⟨v, h1, rfl⟩ := h; exact ⟨v, rfl, h1⟩
def ok31 (x : TJVal) : Prop := ok3 x.Kind ∧ ok3 x.N ∧ ok9 x.S
theorem sh31 (d : Nat) {l : List Cel} (h : Shape Tryd.prog (d + 2) 31 l) : ∃ v : TJVal, l = e_TJVal v ∧ ok31 v := by
  rw [Shape_struct Tryd.underlying31] at h
  simp only [Cat, List.map_cons, List.map_nil] at h
  obtain ⟨l0, r0, rfl, h0, l1, r1, rfl, h1, l2, r2, rfl, h2, rfl⟩ := h
  obtain ⟨v0, rfl, k0⟩ := sh3 (d + 0) h0
  obtain ⟨v1, rfl, k1⟩ := sh3 (d + 0) h1
  obtain ⟨v2, rfl, k2⟩ := sh9 (d + 0) h2
  exact ⟨⟨v0, v1, v2⟩, rfl, k0, k1, k2⟩
/-- The law, over plain values. -/
def PureValueSigns : Prop := ∀ (a0 : (List UInt8)) (a1 : TJVal) (a2 : TJVal), ok9 a0 → ok31 a1 → ok31 a2 → clerestorylaw4_ValueSigns a0 a1 a2 = some true
theorem lawValueSigns (pureValueSigns : PureValueSigns) (xs : List AV) (hl : xs.length = 3) (hs : ∀ (i : Nat) (t : TypeId) (x : AV), ([9, 31, 31] : List TypeId)[i]? = some t → xs[i]? = some x → ShapeV Tryd.prog t x) : CPure Tryd.prog GG 4 xs (.c (.val (.bool true))) := by
  match xs, hl, hs with
  | [x0, x1, x2], _, hs =>
    have h0 := hs 0 9 x0 (by simp) (by simp)
    rw [ShapeV_string Tryd.underlying9] at h0
    obtain ⟨l0, rfl, h0⟩ := h0
    obtain ⟨a0, e0, k0⟩ := sh9 11 h0
    cases e0
    have h1 := hs 1 31 x1 (by simp) (by simp)
    rw [ShapeV_struct Tryd.underlying31] at h1
    obtain ⟨l1, rfl, h1⟩ := h1
    obtain ⟨a1, rfl, k1⟩ := sh31 10 h1
    have h2 := hs 2 31 x2 (by simp) (by simp)
    rw [ShapeV_struct Tryd.underlying31] at h2
    obtain ⟨l2, rfl, h2⟩ := h2
    obtain ⟨a2, rfl, k2⟩ := sh31 10 h2
    exact clerestorylaw4_ValueSigns_ok (pureValueSigns a0 a1 a2 k0 k1 k2)
end Go.Proofs.YtdmmjgjmfpalhaaDoorBv
