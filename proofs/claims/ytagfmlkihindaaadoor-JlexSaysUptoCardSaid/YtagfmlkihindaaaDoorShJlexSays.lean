/- What is handed in to the law JlexSays, as plain values. -/
import Derived.Test.YtagfmlkihindaaaDoorGJlexSays2
import Derived.Test.YtagfmlkihindaaaDoorBv31
namespace Go.Proofs.YtagfmlkihindaaaDoorBv
open Go
set_option linter.unusedVariables false
set_option linter.unusedSimpArgs false
attribute [local irreducible] Shape
def ok9 (x : (List UInt8)) : Prop := x.length ≤ reachBytes
theorem sh9 (d : Nat) {l : List Cel} (h : Shape Tryd.prog (d + 1) 9 l) : ∃ v : (List UInt8), l = eStr v ∧ ok9 v := by
  rw [Shape_string Tryd.underlying9] at h
  obtain ⟨v, h1, rfl⟩ := h; exact ⟨v, rfl, h1⟩
/-- The law, over plain values. -/
def PureJlexSays : Prop := ∀ (a0 : (List UInt8)), ok9 a0 → bulkVs [(S a0)] ≤ 1048576 → clerestorylaw4_JlexSays a0 = some true
theorem lawJlexSays {mL : Int} (pureJlexSays : PureJlexSays) (xs : List AV) (hl : xs.length = 1) (hs : ∀ (i : Nat) (t : TypeId) (x : AV), ([9] : List TypeId)[i]? = some t → xs[i]? = some x → ShapeV Tryd.prog t x) (hb : bulkVs xs ≤ 1048576) : CPure Tryd.prog (GG mL) 5 xs (.c (.val (.bool true))) := by
  match xs, hl, hs, hb with
  | [x0], _, hs, hb =>
    have h0 := hs 0 9 x0 (by simp) (by simp)
    rw [ShapeV_string Tryd.underlying9] at h0
    obtain ⟨l0, rfl, h0⟩ := h0
    obtain ⟨a0, e0, k0⟩ := sh9 11 h0
    cases e0
    exact clerestorylaw4_JlexSays_ok (pureJlexSays a0 k0 hb)
end Go.Proofs.YtagfmlkihindaaaDoorBv
