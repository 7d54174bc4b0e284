/- What is handed in to the law HeapAlike, as plain values. -/
import Derived.Test.YtagfmlkihindaaaGHeapAlike2
namespace Go.Proofs.YtagfmlkihindaaaBv
open Go
set_option linter.unusedVariables false
set_option linter.unusedSimpArgs false
attribute [local irreducible] Shape
def ok3 (x : Int) : Prop := (Lit.int .i64 x).wf = true
theorem sh3 (d : Nat) {l : List Cel} (h : Shape Try.prog (d + 1) 3 l) : ∃ v : Int, l = eI v ∧ ok3 v := by
  rw [Shape_int Try.underlying3] at h
  obtain ⟨v, h1, rfl⟩ := h; exact ⟨v, rfl, h1⟩
def ok9 (x : (List UInt8)) : Prop := x.length ≤ reachBytes
theorem sh9 (d : Nat) {l : List Cel} (h : Shape Try.prog (d + 1) 9 l) : ∃ v : (List UInt8), l = eStr v ∧ ok9 v := by
  rw [Shape_string Try.underlying9] at h
  obtain ⟨v, h1, rfl⟩ := h; exact ⟨v, rfl, h1⟩
theorem cells9 : Try.prog.cellsOf 9 = 1 := by kernel_rfl
def ok76 (x : (List (List UInt8))) : Prop := x.length ≤ reachBytes ∧ ∀ y, y ∈ x → ok9 y
theorem sh76 (d : Nat) {l : List Cel} (h : Shape Try.prog (d + 2) 76 l) : ∃ v : (List (List UInt8)), l = (eSl 1 eStr) v ∧ ok76 v := by
  rw [Shape_slice Try.underlying76, cells9] at h
  obtain ⟨xs, rfl, h1, h2⟩ := h
  obtain ⟨ps, rfl, h3⟩ := map_ofP (f := eStr) (ok := ok9) (xs := xs) fun x hx => sh9 d (h2 x hx)
  exact ⟨ps, rfl, by simpa using h1, h3⟩
def ok30 (x : TJVal) : Prop := ok3 x.Kind ∧ ok3 x.N ∧ ok9 x.S
theorem sh30 (d : Nat) {l : List Cel} (h : Shape Try.prog (d + 2) 30 l) : ∃ v : TJVal, l = e_TJVal v ∧ ok30 v := by
  rw [Shape_struct Try.underlying30] at h
  simp only [Cat, List.map_cons, List.map_nil] at h
  obtain ⟨l0, r0, rfl, h0, l1, r1, rfl, h1, l2, r2, rfl, h2, rfl⟩ := h
  obtain ⟨v0, rfl, k0⟩ := sh3 (d + 0) h0
  obtain ⟨v1, rfl, k1⟩ := sh3 (d + 0) h1
  obtain ⟨v2, rfl, k2⟩ := sh9 (d + 0) h2
  exact ⟨⟨v0, v1, v2⟩, rfl, k0, k1, k2⟩
theorem cells30 : Try.prog.cellsOf 30 = 3 := by kernel_rfl
def ok35 (x : (List TJVal)) : Prop := x.length ≤ reachBytes ∧ ∀ y, y ∈ x → ok30 y
theorem sh35 (d : Nat) {l : List Cel} (h : Shape Try.prog (d + 3) 35 l) : ∃ v : (List TJVal), l = (eSl 3 e_TJVal) v ∧ ok35 v := by
  rw [Shape_slice Try.underlying35, cells30] at h
  obtain ⟨xs, rfl, h1, h2⟩ := h
  obtain ⟨ps, rfl, h3⟩ := map_ofP (f := e_TJVal) (ok := ok30) (xs := xs) fun x hx => sh30 d (h2 x hx)
  exact ⟨ps, rfl, by simpa using h1, h3⟩
def ok78 (x : TJCell) : Prop := ok3 x.Kind ∧ ok76 x.Names ∧ ok35 x.Vals
theorem sh78 (d : Nat) {l : List Cel} (h : Shape Try.prog (d + 4) 78 l) : ∃ v : TJCell, l = e_TJCell v ∧ ok78 v := by
  rw [Shape_struct Try.underlying78] at h
  simp only [Cat, List.map_cons, List.map_nil] at h
  obtain ⟨l0, r0, rfl, h0, l1, r1, rfl, h1, l2, r2, rfl, h2, rfl⟩ := h
  obtain ⟨v0, rfl, k0⟩ := sh3 (d + 2) h0
  obtain ⟨v1, rfl, k1⟩ := sh76 (d + 1) h1
  obtain ⟨v2, rfl, k2⟩ := sh35 (d + 0) h2
  exact ⟨⟨v0, v1, v2⟩, rfl, k0, k1, k2⟩
theorem cells78 : Try.prog.cellsOf 78 = 3 := by kernel_rfl
def ok28 (x : (List TJCell)) : Prop := x.length ≤ reachBytes ∧ ∀ y, y ∈ x → ok78 y
theorem sh28 (d : Nat) {l : List Cel} (h : Shape Try.prog (d + 5) 28 l) : ∃ v : (List TJCell), l = (eSl 3 e_TJCell) v ∧ ok28 v := by
  rw [Shape_slice Try.underlying28, cells78] at h
  obtain ⟨xs, rfl, h1, h2⟩ := h
  obtain ⟨ps, rfl, h3⟩ := map_ofP (f := e_TJCell) (ok := ok78) (xs := xs) fun x hx => sh78 d (h2 x hx)
  exact ⟨ps, rfl, by simpa using h1, h3⟩
/-- The law, over plain values. -/
def PureHeapAlike : Prop := ∀ (a0 : (List TJCell)) (a1 : TJVal) (a2 : (List TJCell)) (a3 : TJVal), ok28 a0 → ok30 a1 → ok28 a2 → ok30 a3 → clerestorylaw4_HeapAlike a0 a1 a2 a3 = some true
theorem lawHeapAlike (pureHeapAlike : PureHeapAlike) (xs : List AV) (hl : xs.length = 4) (hs : ∀ (i : Nat) (t : TypeId) (x : AV), ([28, 30, 28, 30] : List TypeId)[i]? = some t → xs[i]? = some x → ShapeV Try.prog t x) : CPure Try.prog (fun _ => []) 4 xs (.c (.val (.bool true))) := by
  match xs, hl, hs with
  | [x0, x1, x2, x3], _, hs =>
    have h0 := hs 0 28 x0 (by simp) (by simp)
    rw [ShapeV_slice Try.underlying28] at h0
    obtain ⟨l0, rfl, h0⟩ := h0
    obtain ⟨a0, e0, k0⟩ := sh28 7 h0
    cases e0
    have h1 := hs 1 30 x1 (by simp) (by simp)
    rw [ShapeV_struct Try.underlying30] at h1
    obtain ⟨l1, rfl, h1⟩ := h1
    obtain ⟨a1, rfl, k1⟩ := sh30 10 h1
    have h2 := hs 2 28 x2 (by simp) (by simp)
    rw [ShapeV_slice Try.underlying28] at h2
    obtain ⟨l2, rfl, h2⟩ := h2
    obtain ⟨a2, e2, k2⟩ := sh28 7 h2
    cases e2
    have h3 := hs 3 30 x3 (by simp) (by simp)
    rw [ShapeV_struct Try.underlying30] at h3
    obtain ⟨l3, rfl, h3⟩ := h3
    obtain ⟨a3, rfl, k3⟩ := sh30 10 h3
    exact clerestorylaw4_HeapAlike_ok (pureHeapAlike a0 a1 a2 a3 k0 k1 k2 k3)
end Go.Proofs.YtagfmlkihindaaaBv
