/- What is handed in to the law MediaHolds, as plain values. -/
import Derived.Test.YtkimpaokepfonaaGreatDoorGMediaHolds1
import Derived.Test.YtkimpaokepfonaaGreatDoorBv31
namespace Go.Proofs.YtkimpaokepfonaaGreatDoorBv
open Go
set_option linter.unusedVariables false
set_option linter.unusedSimpArgs false
attribute [local irreducible] Shape
def ok4 (x : Bool) : Prop := True
theorem sh4 (d : Nat) {l : List Cel} (h : Shape Tryz.prog (d + 1) 4 l) : ∃ v : Bool, l = eB v ∧ ok4 v := by
 rw [Shape_bool Tryz.underlying4] at h
 obtain ⟨v, rfl⟩ := h; exact ⟨v, rfl, trivial⟩
def ok3 (x : Int) : Prop := (Lit.int .i64 x).wf = true
theorem sh3 (d : Nat) {l : List Cel} (h : Shape Tryz.prog (d + 1) 3 l) : ∃ v : Int, l = eI v ∧ ok3 v := by
 rw [Shape_int Tryz.underlying3] at h
 obtain ⟨v, h1, rfl⟩ := h; exact ⟨v, rfl, h1⟩
def ok31 (x : TSFeature) : Prop := ok3 x.Kind ∧ ok3 x.Num
theorem sh31 (d : Nat) {l : List Cel} (h : Shape Tryz.prog (d + 2) 31 l) : ∃ v : TSFeature, l = e_TSFeature v ∧ ok31 v := by
 rw [Shape_struct Tryz.underlying31] at h
 simp only [Cat, List.map_cons, List.map_nil] at h
 obtain ⟨l0, r0, rfl, h0, l1, r1, rfl, h1, rfl⟩ := h
 obtain ⟨v0, rfl, k0⟩ := sh3 (d + 0) h0
 obtain ⟨v1, rfl, k1⟩ := sh3 (d + 0) h1
 exact ⟨⟨v0, v1⟩, rfl, k0, k1⟩
theorem cells31 : Tryz.prog.cellsOf 31 = 2 := by kernel_rfl
def ok26 (x : (List TSFeature)) : Prop := x.length ≤ reachBytes ∧ ∀ y, y ∈ x → ok31 y
theorem sh26 (d : Nat) {l : List Cel} (h : Shape Tryz.prog (d + 3) 26 l) : ∃ v : (List TSFeature), l = (eSl 2 e_TSFeature) v ∧ ok26 v := by
 rw [Shape_slice Tryz.underlying26, cells31] at h
 obtain ⟨xs, rfl, h1, h2⟩ := h
 obtain ⟨ps, rfl, h3⟩ := map_ofP (f := e_TSFeature) (ok := ok31) (xs := xs) fun x hx => sh31 d (h2 x hx)
 exact ⟨ps, rfl, by simpa using h1, h3⟩
def ok28 (x : TSQuery) : Prop := ok4 x.Not ∧ ok26 x.Features
theorem sh28 (d : Nat) {l : List Cel} (h : Shape Tryz.prog (d + 4) 28 l) : ∃ v : TSQuery, l = e_TSQuery v ∧ ok28 v := by
 rw [Shape_struct Tryz.underlying28] at h
 simp only [Cat, List.map_cons, List.map_nil] at h
 obtain ⟨l0, r0, rfl, h0, l1, r1, rfl, h1, rfl⟩ := h
 obtain ⟨v0, rfl, k0⟩ := sh4 (d + 2) h0
 obtain ⟨v1, rfl, k1⟩ := sh26 (d + 0) h1
 exact ⟨⟨v0, v1⟩, rfl, k0, k1⟩
theorem cells28 : Tryz.prog.cellsOf 28 = 2 := by kernel_rfl
def ok22 (x : (List TSQuery)) : Prop := x.length ≤ reachBytes ∧ ∀ y, y ∈ x → ok28 y
theorem sh22 (d : Nat) {l : List Cel} (h : Shape Tryz.prog (d + 5) 22 l) : ∃ v : (List TSQuery), l = (eSl 2 e_TSQuery) v ∧ ok22 v := by
 rw [Shape_slice Tryz.underlying22, cells28] at h
 obtain ⟨xs, rfl, h1, h2⟩ := h
 obtain ⟨ps, rfl, h3⟩ := map_ofP (f := e_TSQuery) (ok := ok28) (xs := xs) fun x hx => sh28 d (h2 x hx)
 exact ⟨ps, rfl, by simpa using h1, h3⟩
def ok24 (x : TEnv) : Prop := ok3 x.Width ∧ ok3 x.Height ∧ ok4 x.Dark ∧ ok4 x.Print
theorem sh24 (d : Nat) {l : List Cel} (h : Shape Tryz.prog (d + 2) 24 l) : ∃ v : TEnv, l = e_TEnv v ∧ ok24 v := by
 rw [Shape_struct Tryz.underlying24] at h
 simp only [Cat, List.map_cons, List.map_nil] at h
 obtain ⟨l0, r0, rfl, h0, l1, r1, rfl, h1, l2, r2, rfl, h2, l3, r3, rfl, h3, rfl⟩ := h
 obtain ⟨v0, rfl, k0⟩ := sh3 (d + 0) h0
 obtain ⟨v1, rfl, k1⟩ := sh3 (d + 0) h1
 obtain ⟨v2, rfl, k2⟩ := sh4 (d + 0) h2
 obtain ⟨v3, rfl, k3⟩ := sh4 (d + 0) h3
 exact ⟨⟨v0, v1, v2, v3⟩, rfl, k0, k1, k2, k3⟩
/-- The law, over plain values. -/
def PureMediaHolds : Prop := ∀ (a0 : (List TSQuery)) (a1 : TEnv), ok22 a0 → ok24 a1 → bulkVs [(.c (.ro false 2 (a0.map e_TSQuery))), .agg (e_TEnv a1)] ≤ 1048576 → Z3c a0 a1 = some true
theorem lawMediaHolds {mL : Int} (pureMediaHolds : PureMediaHolds) (xs : List AV) (hl : xs.length = 2) (hs : ∀ (i : Nat) (t : TypeId) (x : AV), ([22, 24] : List TypeId)[i]? = some t → xs[i]? = some x → ShapeV Tryz.prog t x) (hb : bulkVs xs ≤ 1048576) : CPure Tryz.prog (GG mL) 3 xs (.c (.val (.bool true))) := by
 match xs, hl, hs, hb with
 | [x0, x1], _, hs, hb =>
  have h0 := hs 0 22 x0 (by simp) (by simp)
  rw [ShapeV_slice Tryz.underlying22] at h0
  obtain ⟨l0, rfl, h0⟩ := h0
  obtain ⟨a0, e0, k0⟩ := sh22 7 h0
  cases e0
  have h1 := hs 1 24 x1 (by simp) (by simp)
  rw [ShapeV_struct Tryz.underlying24] at h1
  obtain ⟨l1, rfl, h1⟩ := h1
  obtain ⟨a1, rfl, k1⟩ := sh24 10 h1
  exact Z9l (pureMediaHolds a0 a1 k0 k1 hb)
end Go.Proofs.YtkimpaokepfonaaGreatDoorBv
-- squeezed
