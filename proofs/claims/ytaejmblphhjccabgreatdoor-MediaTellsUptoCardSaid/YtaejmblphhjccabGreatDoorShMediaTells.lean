/- What is handed in to the law MediaTells, as plain values. -/
import Derived.Test.YtaejmblphhjccabGreatDoorGMediaTells2
import Derived.Test.YtaejmblphhjccabGreatDoorBv31
namespace Go.Proofs.YtaejmblphhjccabGreatDoorBv
open Go
set_option linter.unusedVariables false
set_option linter.unusedSimpArgs false
attribute [local irreducible] Shape
def ok4 (x : Bool) : Prop := True
theorem sh4 (d : Nat) {l : List Cel} (h : Shape Tryz.prog (d + 1) 4 l) : ∃ v : Bool, l = eB v ∧ ok4 v := by
  rw [Shape_bool Tryz.underlying4] at h
  obtain ⟨v, rfl⟩ := h; exact ⟨v, rfl, trivial⟩
def ok3 (x : Int) : Prop := (Lit.int .i64 x).wf = true
theorem sh3 (d : Nat) {l : List Cel} (h : Shape Tryz.prog (d + 1) 3 l) : ∃ v : Int, l = eI v ∧ ok3 v := by
  rw [Shape_int Tryz.underlying3] at h
  obtain ⟨v, h1, rfl⟩ := h; exact ⟨v, rfl, h1⟩
def ok52 (x : TSFeature) : Prop := ok3 x.Kind ∧ ok3 x.Num
theorem sh52 (d : Nat) {l : List Cel} (h : Shape Tryz.prog (d + 2) 52 l) : ∃ v : TSFeature, l = e_TSFeature v ∧ ok52 v := by
  rw [Shape_struct Tryz.underlying52] at h
  simp only [Cat, List.map_cons, List.map_nil] at h
  obtain ⟨l0, r0, rfl, h0, l1, r1, rfl, h1, rfl⟩ := h
  obtain ⟨v0, rfl, k0⟩ := sh3 (d + 0) h0
  obtain ⟨v1, rfl, k1⟩ := sh3 (d + 0) h1
  exact ⟨⟨v0, v1⟩, rfl, k0, k1⟩
theorem cells52 : Tryz.prog.cellsOf 52 = 2 := by kernel_rfl
def ok48 (x : (List TSFeature)) : Prop := x.length ≤ reachBytes ∧ ∀ y, y ∈ x → ok52 y
theorem sh48 (d : Nat) {l : List Cel} (h : Shape Tryz.prog (d + 3) 48 l) : ∃ v : (List TSFeature), l = (eSl 2 e_TSFeature) v ∧ ok48 v := by
  rw [Shape_slice Tryz.underlying48, cells52] at h
  obtain ⟨xs, rfl, h1, h2⟩ := h
  obtain ⟨ps, rfl, h3⟩ := map_ofP (f := e_TSFeature) (ok := ok52) (xs := xs) fun x hx => sh52 d (h2 x hx)
  exact ⟨ps, rfl, by simpa using h1, h3⟩
def ok50 (x : TSQuery) : Prop := ok4 x.Not ∧ ok48 x.Features
theorem sh50 (d : Nat) {l : List Cel} (h : Shape Tryz.prog (d + 4) 50 l) : ∃ v : TSQuery, l = e_TSQuery v ∧ ok50 v := by
  rw [Shape_struct Tryz.underlying50] at h
  simp only [Cat, List.map_cons, List.map_nil] at h
  obtain ⟨l0, r0, rfl, h0, l1, r1, rfl, h1, rfl⟩ := h
  obtain ⟨v0, rfl, k0⟩ := sh4 (d + 2) h0
  obtain ⟨v1, rfl, k1⟩ := sh48 (d + 0) h1
  exact ⟨⟨v0, v1⟩, rfl, k0, k1⟩
theorem cells50 : Tryz.prog.cellsOf 50 = 2 := by kernel_rfl
def ok32 (x : (List TSQuery)) : Prop := x.length ≤ reachBytes ∧ ∀ y, y ∈ x → ok50 y
theorem sh32 (d : Nat) {l : List Cel} (h : Shape Tryz.prog (d + 5) 32 l) : ∃ v : (List TSQuery), l = (eSl 2 e_TSQuery) v ∧ ok32 v := by
  rw [Shape_slice Tryz.underlying32, cells50] at h
  obtain ⟨xs, rfl, h1, h2⟩ := h
  obtain ⟨ps, rfl, h3⟩ := map_ofP (f := e_TSQuery) (ok := ok50) (xs := xs) fun x hx => sh50 d (h2 x hx)
  exact ⟨ps, rfl, by simpa using h1, h3⟩
/-- The law, over plain values. -/
def PureMediaTells : Prop := ∀ (a0 : (List TSQuery)), ok32 a0 → bulkVs [(.c (.ro false 2 (a0.map e_TSQuery)))] ≤ 1048576 → clerestorylaw2_MediaTells a0 = some true
theorem lawMediaTells {mL : Int} (pureMediaTells : PureMediaTells) (xs : List AV) (hl : xs.length = 1) (hs : ∀ (i : Nat) (t : TypeId) (x : AV), ([32] : List TypeId)[i]? = some t → xs[i]? = some x → ShapeV Tryz.prog t x) (hb : bulkVs xs ≤ 1048576) : CPure Tryz.prog (GG mL) 4 xs (.c (.val (.bool true))) := by
  match xs, hl, hs, hb with
  | [x0], _, hs, hb =>
    have h0 := hs 0 32 x0 (by simp) (by simp)
    rw [ShapeV_slice Tryz.underlying32] at h0
    obtain ⟨l0, rfl, h0⟩ := h0
    obtain ⟨a0, e0, k0⟩ := sh32 7 h0
    cases e0
    exact clerestorylaw2_MediaTells_ok (pureMediaTells a0 k0 hb)
end Go.Proofs.YtaejmblphhjccabGreatDoorBv
