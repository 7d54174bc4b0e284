/- What is handed in to the law UrlResolves, as plain values. -/
import Derived.Test.YtjicgjhhiallkaaGreatDoorGUrlResolves3
namespace Go.Proofs.YtjicgjhhiallkaaGreatDoorBv
open Go
set_option linter.unusedVariables false
set_option linter.unusedSimpArgs false
attribute [local irreducible] Shape
def ok9 (x : (List UInt8)) : Prop := x.length ≤ reachBytes
theorem sh9 (d : Nat) {l : List Cel} (h : Shape Tryz.prog (d + 1) 9 l) : ∃ v : (List UInt8), l = eStr v ∧ ok9 v := by
 rw [Shape_string Tryz.underlying9] at h
 obtain ⟨v, h1, rfl⟩ := h; exact ⟨v, rfl, h1⟩
/-- The law, over plain values. -/
def PureUrlResolves : Prop := ∀ (a0 : (List UInt8)) (a1 : (List UInt8)), ok9 a0 → ok9 a1 → l4_UrlResolves a0 a1 = some true
theorem lawUrlResolves {mL : Int} (pureUrlResolves : PureUrlResolves) (xs : List AV) (hl : xs.length = 2) (hs : ∀ (i : Nat) (t : TypeId) (x : AV), ([9, 9] : List TypeId)[i]? = some t → xs[i]? = some x → ShapeV Tryz.prog t x) : CPure Tryz.prog (GG mL) 5 xs (.c (.val (.bool true))) := by
 match xs, hl, hs with
 | [x0, x1], _, hs =>
  have h0 := hs 0 9 x0 (by simp) (by simp)
  rw [ShapeV_string Tryz.underlying9] at h0
  obtain ⟨l0, rfl, h0⟩ := h0
  obtain ⟨a0, e0, k0⟩ := sh9 11 h0
  cases e0
  have h1 := hs 1 9 x1 (by simp) (by simp)
  rw [ShapeV_string Tryz.underlying9] at h1
  obtain ⟨l1, rfl, h1⟩ := h1
  obtain ⟨a1, e1, k1⟩ := sh9 11 h1
  cases e1
  exact l4_UrlResolves_ok (pureUrlResolves a0 a1 k0 k1)
end Go.Proofs.YtjicgjhhiallkaaGreatDoorBv
-- squeezed
