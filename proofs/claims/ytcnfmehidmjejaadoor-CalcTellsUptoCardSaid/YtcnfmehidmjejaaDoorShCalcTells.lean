/- What is handed in to the law CalcTells, as plain values. -/
import Derived.Test.YtcnfmehidmjejaaDoorGCalcTells2
import Derived.Test.YtcnfmehidmjejaaDoorBv31
import Derived.Test.YtcnfmehidmjejaaDoorBv53
namespace Go.Proofs.YtcnfmehidmjejaaDoorBv
open Go
set_option linter.unusedVariables false
set_option linter.unusedSimpArgs false
attribute [local irreducible] Shape
def ok3 (x : Int) : Prop := (Lit.int .i64 x).wf = true
theorem sh3 (d : Nat) {l : List Cel} (h : Shape Tryd.prog (d + 1) 3 l) : ∃ v : Int, l = eI v ∧ ok3 v := by
  rw [Shape_int Tryd.underlying3] at h
  obtain ⟨v, h1, rfl⟩ := h; exact ⟨v, rfl, h1⟩
def ok9 (x : (List UInt8)) : Prop := x.length ≤ reachBytes
theorem sh9 (d : Nat) {l : List Cel} (h : Shape Tryd.prog (d + 1) 9 l) : ∃ v : (List UInt8), l = eStr v ∧ ok9 v := by
  rw [Shape_string Tryd.underlying9] at h
  obtain ⟨v, h1, rfl⟩ := h; exact ⟨v, rfl, h1⟩
def ok23 (x : TSDim) : Prop := ok3 x.Num ∧ ok9 x.Unit
theorem sh23 (d : Nat) {l : List Cel} (h : Shape Tryd.prog (d + 2) 23 l) : ∃ v : TSDim, l = e_TSDim v ∧ ok23 v := by
  rw [Shape_struct Tryd.underlying23] at h
  simp only [Cat, List.map_cons, List.map_nil] at h
  obtain ⟨l0, r0, rfl, h0, l1, r1, rfl, h1, rfl⟩ := h
  obtain ⟨v0, rfl, k0⟩ := sh3 (d + 0) h0
  obtain ⟨v1, rfl, k1⟩ := sh9 (d + 0) h1
  exact ⟨⟨v0, v1⟩, rfl, k0, k1⟩
theorem cells26 : Tryd.prog.cellsOf 26 = 4 := by kernel_rfl
def ok24 (x : (List Raw)) : Prop := x.length ≤ reachBytes ∧ ∀ y, y ∈ x → ∃ D, Shape Tryd.prog D 26 y.c
theorem sh24 (d : Nat) {l : List Cel} (h : Shape Tryd.prog (d + 1) 24 l) : ∃ v : (List Raw), l = (eSl 4 eRaw) v ∧ ok24 v := by
  rw [Shape_slice Tryd.underlying24, cells26] at h
  obtain ⟨xs, rfl, h1, h2⟩ := h
  obtain ⟨ps, rfl⟩ := raws_of (xs := xs) fun x hx => Shape_free (h2 x hx)
  exact ⟨ps, rfl, by simpa using h1, fun y hy => ⟨d, h2 _ (List.mem_map_of_mem hy)⟩⟩
def ok26 (x : TSTerm) : Prop := ok3 x.Kind ∧ ok23 x.Dim ∧ ok24 x.Subs
theorem sh26 (d : Nat) {l : List Cel} (h : Shape Tryd.prog (d + 3) 26 l) : ∃ v : TSTerm, l = e_TSTerm v ∧ ok26 v := by
  rw [Shape_struct Tryd.underlying26] at h
  simp only [Cat, List.map_cons, List.map_nil] at h
  obtain ⟨l0, r0, rfl, h0, l1, r1, rfl, h1, l2, r2, rfl, h2, rfl⟩ := h
  obtain ⟨v0, rfl, k0⟩ := sh3 (d + 1) h0
  obtain ⟨v1, rfl, k1⟩ := sh23 (d + 0) h1
  obtain ⟨v2, rfl, k2⟩ := sh24 (d + 1) h2
  exact ⟨⟨v0, v1, v2⟩, rfl, k0, k1, k2⟩
theorem raw26 {D : Nat} {y : List Cel} (h : Shape Tryd.prog D 26 y) : ∃ x : TSTerm, y = e_TSTerm x ∧ ok26 x := sh26 D (Shape_mono h (Nat.le_add_right D 3))
/-- The law, over plain values. -/
def PureCalcTells : Prop := ∀ (a0 : TSTerm), ok26 a0 → bulkVs [.agg (e_TSTerm a0)] ≤ 1048576 → clerestorylaw2_CalcTells a0 = some true
theorem lawCalcTells {mL : Int} (pureCalcTells : PureCalcTells) (xs : List AV) (hl : xs.length = 1) (hs : ∀ (i : Nat) (t : TypeId) (x : AV), ([26] : List TypeId)[i]? = some t → xs[i]? = some x → ShapeW Tryd.prog t x) (hb : bulkVs xs ≤ 1048576) : CPure Tryd.prog (GG mL) 3 xs (.c (.val (.bool true))) := by
  match xs, hl, hs, hb with
  | [x0], _, hs, hb =>
    have h0 := hs 0 26 x0 (by simp) (by simp)
    rw [ShapeW_struct Tryd.underlying26] at h0
    obtain ⟨l0, rfl, D0, h0⟩ := h0
    obtain ⟨a0, rfl, k0⟩ := sh26 D0 (Shape_mono h0 (Nat.le_add_right D0 3))
    exact clerestorylaw2_CalcTells_ok (pureCalcTells a0 k0 hb)
end Go.Proofs.YtcnfmehidmjejaaDoorBv
