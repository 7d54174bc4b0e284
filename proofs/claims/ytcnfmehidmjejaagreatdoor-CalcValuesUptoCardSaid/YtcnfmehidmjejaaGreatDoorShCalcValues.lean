/- What is handed in to the law CalcValues, as plain values. -/
import Derived.Test.YtcnfmehidmjejaaGreatDoorGCalcValues2
import Derived.Test.YtcnfmehidmjejaaGreatDoorBv31
import Derived.Test.YtcnfmehidmjejaaGreatDoorBv53
namespace Go.Proofs.YtcnfmehidmjejaaGreatDoorBv
open Go
set_option linter.unusedVariables false
set_option linter.unusedSimpArgs false
attribute [local irreducible] Shape
def ok3 (x : Int) : Prop := (Lit.int .i64 x).wf = true
theorem sh3 (d : Nat) {l : List Cel} (h : Shape Tryz.prog (d + 1) 3 l) : ∃ v : Int, l = eI v ∧ ok3 v := by
 rw [Shape_int Tryz.underlying3] at h
 obtain ⟨v, h1, rfl⟩ := h; exact ⟨v, rfl, h1⟩
def ok9 (x : (List UInt8)) : Prop := x.length ≤ reachBytes
theorem sh9 (d : Nat) {l : List Cel} (h : Shape Tryz.prog (d + 1) 9 l) : ∃ v : (List UInt8), l = eStr v ∧ ok9 v := by
 rw [Shape_string Tryz.underlying9] at h
 obtain ⟨v, h1, rfl⟩ := h; exact ⟨v, rfl, h1⟩
def ok23 (x : TSDim) : Prop := ok3 x.Num ∧ ok9 x.Unit
theorem sh23 (d : Nat) {l : List Cel} (h : Shape Tryz.prog (d + 2) 23 l) : ∃ v : TSDim, l = e_TSDim v ∧ ok23 v := by
 rw [Shape_struct Tryz.underlying23] at h
 simp only [Cat, List.map_cons, List.map_nil] at h
 obtain ⟨l0, r0, rfl, h0, l1, r1, rfl, h1, rfl⟩ := h
 obtain ⟨v0, rfl, k0⟩ := sh3 (d + 0) h0
 obtain ⟨v1, rfl, k1⟩ := sh9 (d + 0) h1
 exact ⟨⟨v0, v1⟩, rfl, k0, k1⟩
theorem cells26 : Tryz.prog.cellsOf 26 = 4 := by kernel_rfl
def ok24 (x : (List Raw)) : Prop := x.length ≤ reachBytes ∧ ∀ y, y ∈ x → ∃ D, Shape Tryz.prog D 26 y.c
theorem sh24 (d : Nat) {l : List Cel} (h : Shape Tryz.prog (d + 1) 24 l) : ∃ v : (List Raw), l = (eSl 4 eRaw) v ∧ ok24 v := by
 rw [Shape_slice Tryz.underlying24, cells26] at h
 obtain ⟨xs, rfl, h1, h2⟩ := h
 obtain ⟨ps, rfl⟩ := raws_of (xs := xs) fun x hx => Shape_free (h2 x hx)
 exact ⟨ps, rfl, by simpa using h1, fun y hy => ⟨d, h2 _ (List.mem_map_of_mem hy)⟩⟩
def ok26 (x : TSTerm) : Prop := ok3 x.Kind ∧ ok23 x.Dim ∧ ok24 x.Subs
theorem sh26 (d : Nat) {l : List Cel} (h : Shape Tryz.prog (d + 3) 26 l) : ∃ v : TSTerm, l = e_TSTerm v ∧ ok26 v := by
 rw [Shape_struct Tryz.underlying26] at h
 simp only [Cat, List.map_cons, List.map_nil] at h
 obtain ⟨l0, r0, rfl, h0, l1, r1, rfl, h1, l2, r2, rfl, h2, rfl⟩ := h
 obtain ⟨v0, rfl, k0⟩ := sh3 (d + 1) h0
 obtain ⟨v1, rfl, k1⟩ := sh23 (d + 0) h1
 obtain ⟨v2, rfl, k2⟩ := sh24 (d + 1) h2
 exact ⟨⟨v0, v1, v2⟩, rfl, k0, k1, k2⟩
def ok28 (x : TSScale) : Prop := ok3 x.Em ∧ ok3 x.Rem ∧ ok3 x.Width ∧ ok3 x.Height
theorem sh28 (d : Nat) {l : List Cel} (h : Shape Tryz.prog (d + 2) 28 l) : ∃ v : TSScale, l = e_TSScale v ∧ ok28 v := by
 rw [Shape_struct Tryz.underlying28] at h
 simp only [Cat, List.map_cons, List.map_nil] at h
 obtain ⟨l0, r0, rfl, h0, l1, r1, rfl, h1, l2, r2, rfl, h2, l3, r3, rfl, h3, rfl⟩ := h
 obtain ⟨v0, rfl, k0⟩ := sh3 (d + 0) h0
 obtain ⟨v1, rfl, k1⟩ := sh3 (d + 0) h1
 obtain ⟨v2, rfl, k2⟩ := sh3 (d + 0) h2
 obtain ⟨v3, rfl, k3⟩ := sh3 (d + 0) h3
 exact ⟨⟨v0, v1, v2, v3⟩, rfl, k0, k1, k2, k3⟩
theorem raw26 {D : Nat} {y : List Cel} (h : Shape Tryz.prog D 26 y) : ∃ x : TSTerm, y = e_TSTerm x ∧ ok26 x := sh26 D (Shape_mono h (Nat.le_add_right D 3))
/-- The law, over plain values. -/
def PureCalcValues : Prop := ∀ (a0 : TSTerm) (a1 : TSScale), ok26 a0 → ok28 a1 → bulkVs [.agg (e_TSTerm a0), .agg (e_TSScale a1)] ≤ 1048576 → Z4j a0 a1 = some true
theorem lawCalcValues {mL : Int} (pureCalcValues : PureCalcValues) (xs : List AV) (hl : xs.length = 2) (hs : ∀ (i : Nat) (t : TypeId) (x : AV), ([26, 28] : List TypeId)[i]? = some t → xs[i]? = some x → ShapeW Tryz.prog t x) (hb : bulkVs xs ≤ 1048576) : CPure Tryz.prog (GG mL) 3 xs (.c (.val (.bool true))) := by
 match xs, hl, hs, hb with
 | [x0, x1], _, hs, hb =>
  have h0 := hs 0 26 x0 (by simp) (by simp)
  rw [ShapeW_struct Tryz.underlying26] at h0
  obtain ⟨l0, rfl, D0, h0⟩ := h0
  obtain ⟨a0, rfl, k0⟩ := sh26 D0 (Shape_mono h0 (Nat.le_add_right D0 3))
  have h1 := hs 1 28 x1 (by simp) (by simp)
  rw [ShapeW_struct Tryz.underlying28] at h1
  obtain ⟨l1, rfl, D1, h1⟩ := h1
  obtain ⟨a1, rfl, k1⟩ := sh28 D1 (Shape_mono h1 (Nat.le_add_right D1 2))
  exact Zci (pureCalcValues a0 a1 k0 k1 hb)
end Go.Proofs.YtcnfmehidmjejaaGreatDoorBv
-- squeezed
