/- What is handed in to the law CodeChecks, as plain values. -/
import Derived.Test.YtolmbcngghkfiaaDoorGCodeChecks1
namespace Go.Proofs.YtolmbcngghkfiaaDoorBv
open Go
set_option linter.unusedVariables false
set_option linter.unusedSimpArgs false
attribute [local irreducible] Shape
def ok3 (x : Int) : Prop := (Lit.int .i64 x).wf = true
theorem sh3 (d : Nat) {l : List Cel} (h : Shape Tryd.prog (d + 1) 3 l) : ∃ v : Int, l = eI v ∧ ok3 v := by
 rw [Shape_int Tryd.underlying3] at h
 obtain ⟨v, h1, rfl⟩ := h; exact ⟨v, rfl, h1⟩
theorem cells3 : Tryd.prog.cellsOf 3 = 1 := by kernel_rfl
def ok30 (x : (List Int)) : Prop := x.length ≤ reachBytes ∧ ∀ y, y ∈ x → ok3 y
theorem sh30 (d : Nat) {l : List Cel} (h : Shape Tryd.prog (d + 2) 30 l) : ∃ v : (List Int), l = (eSl 1 eI) v ∧ ok30 v := by
 rw [Shape_slice Tryd.underlying30, cells3] at h
 obtain ⟨xs, rfl, h1, h2⟩ := h
 obtain ⟨ps, rfl, h3⟩ := map_ofP (f := eI) (ok := ok3) (xs := xs) fun x hx => sh3 d (h2 x hx)
 exact ⟨ps, rfl, by simpa using h1, h3⟩
def ok46 (x : TJIns) : Prop := ok3 x.Do ∧ ok3 x.A
theorem sh46 (d : Nat) {l : List Cel} (h : Shape Tryd.prog (d + 2) 46 l) : ∃ v : TJIns, l = e_TJIns v ∧ ok46 v := by
 rw [Shape_struct Tryd.underlying46] at h
 simp only [Cat, List.map_cons, List.map_nil] at h
 obtain ⟨l0, r0, rfl, h0, l1, r1, rfl, h1, rfl⟩ := h
 obtain ⟨v0, rfl, k0⟩ := sh3 (d + 0) h0
 obtain ⟨v1, rfl, k1⟩ := sh3 (d + 0) h1
 exact ⟨⟨v0, v1⟩, rfl, k0, k1⟩
theorem cells46 : Tryd.prog.cellsOf 46 = 2 := by kernel_rfl
def ok31 (x : (List TJIns)) : Prop := x.length ≤ reachBytes ∧ ∀ y, y ∈ x → ok46 y
theorem sh31 (d : Nat) {l : List Cel} (h : Shape Tryd.prog (d + 3) 31 l) : ∃ v : (List TJIns), l = (eSl 2 e_TJIns) v ∧ ok31 v := by
 rw [Shape_slice Tryd.underlying31, cells46] at h
 obtain ⟨xs, rfl, h1, h2⟩ := h
 obtain ⟨ps, rfl, h3⟩ := map_ofP (f := e_TJIns) (ok := ok46) (xs := xs) fun x hx => sh46 d (h2 x hx)
 exact ⟨ps, rfl, by simpa using h1, h3⟩
def ok33 (x : TJFunc) : Prop := ok3 x.Params ∧ ok3 x.Slots ∧ ok30 x.Caught ∧ ok31 x.Code
theorem sh33 (d : Nat) {l : List Cel} (h : Shape Tryd.prog (d + 4) 33 l) : ∃ v : TJFunc, l = e_TJFunc v ∧ ok33 v := by
 rw [Shape_struct Tryd.underlying33] at h
 simp only [Cat, List.map_cons, List.map_nil] at h
 obtain ⟨l0, r0, rfl, h0, l1, r1, rfl, h1, l2, r2, rfl, h2, l3, r3, rfl, h3, rfl⟩ := h
 obtain ⟨v0, rfl, k0⟩ := sh3 (d + 2) h0
 obtain ⟨v1, rfl, k1⟩ := sh3 (d + 2) h1
 obtain ⟨v2, rfl, k2⟩ := sh30 (d + 1) h2
 obtain ⟨v3, rfl, k3⟩ := sh31 (d + 0) h3
 exact ⟨⟨v0, v1, v2, v3⟩, rfl, k0, k1, k2, k3⟩
theorem cells33 : Tryd.prog.cellsOf 33 = 4 := by kernel_rfl
def ok22 (x : (List TJFunc)) : Prop := x.length ≤ reachBytes ∧ ∀ y, y ∈ x → ok33 y
theorem sh22 (d : Nat) {l : List Cel} (h : Shape Tryd.prog (d + 5) 22 l) : ∃ v : (List TJFunc), l = (eSl 4 e_TJFunc) v ∧ ok22 v := by
 rw [Shape_slice Tryd.underlying22, cells33] at h
 obtain ⟨xs, rfl, h1, h2⟩ := h
 obtain ⟨ps, rfl, h3⟩ := map_ofP (f := e_TJFunc) (ok := ok33) (xs := xs) fun x hx => sh33 d (h2 x hx)
 exact ⟨ps, rfl, by simpa using h1, h3⟩
def ok9 (x : (List UInt8)) : Prop := x.length ≤ reachBytes
theorem sh9 (d : Nat) {l : List Cel} (h : Shape Tryd.prog (d + 1) 9 l) : ∃ v : (List UInt8), l = eStr v ∧ ok9 v := by
 rw [Shape_string Tryd.underlying9] at h
 obtain ⟨v, h1, rfl⟩ := h; exact ⟨v, rfl, h1⟩
def ok109 (x : TJVal) : Prop := ok3 x.Kind ∧ ok3 x.N ∧ ok9 x.S
theorem sh109 (d : Nat) {l : List Cel} (h : Shape Tryd.prog (d + 2) 109 l) : ∃ v : TJVal, l = e_TJVal v ∧ ok109 v := by
 rw [Shape_struct Tryd.underlying109] at h
 simp only [Cat, List.map_cons, List.map_nil] at h
 obtain ⟨l0, r0, rfl, h0, l1, r1, rfl, h1, l2, r2, rfl, h2, rfl⟩ := h
 obtain ⟨v0, rfl, k0⟩ := sh3 (d + 0) h0
 obtain ⟨v1, rfl, k1⟩ := sh3 (d + 0) h1
 obtain ⟨v2, rfl, k2⟩ := sh9 (d + 0) h2
 exact ⟨⟨v0, v1, v2⟩, rfl, k0, k1, k2⟩
theorem cells109 : Tryd.prog.cellsOf 109 = 3 := by kernel_rfl
def ok23 (x : (List TJVal)) : Prop := x.length ≤ reachBytes ∧ ∀ y, y ∈ x → ok109 y
theorem sh23 (d : Nat) {l : List Cel} (h : Shape Tryd.prog (d + 3) 23 l) : ∃ v : (List TJVal), l = (eSl 3 e_TJVal) v ∧ ok23 v := by
 rw [Shape_slice Tryd.underlying23, cells109] at h
 obtain ⟨xs, rfl, h1, h2⟩ := h
 obtain ⟨ps, rfl, h3⟩ := map_ofP (f := e_TJVal) (ok := ok109) (xs := xs) fun x hx => sh109 d (h2 x hx)
 exact ⟨ps, rfl, by simpa using h1, h3⟩
theorem cells9 : Tryd.prog.cellsOf 9 = 1 := by kernel_rfl
def ok64 (x : (List (List UInt8))) : Prop := x.length ≤ reachBytes ∧ ∀ y, y ∈ x → ok9 y
theorem sh64 (d : Nat) {l : List Cel} (h : Shape Tryd.prog (d + 2) 64 l) : ∃ v : (List (List UInt8)), l = (eSl 1 eStr) v ∧ ok64 v := by
 rw [Shape_slice Tryd.underlying64, cells9] at h
 obtain ⟨xs, rfl, h1, h2⟩ := h
 obtain ⟨ps, rfl, h3⟩ := map_ofP (f := eStr) (ok := ok9) (xs := xs) fun x hx => sh9 d (h2 x hx)
 exact ⟨ps, rfl, by simpa using h1, h3⟩
theorem cells64 : Tryd.prog.cellsOf 64 = 1 := by kernel_rfl
def ok24 (x : (List (List (List UInt8)))) : Prop := x.length ≤ reachBytes ∧ ∀ y, y ∈ x → ok64 y
theorem sh24 (d : Nat) {l : List Cel} (h : Shape Tryd.prog (d + 3) 24 l) : ∃ v : (List (List (List UInt8))), l = (eSl 1 (eSl 1 eStr)) v ∧ ok24 v := by
 rw [Shape_slice Tryd.underlying24, cells64] at h
 obtain ⟨xs, rfl, h1, h2⟩ := h
 obtain ⟨ps, rfl, h3⟩ := map_ofP (f := (eSl 1 eStr)) (ok := ok64) (xs := xs) fun x hx => sh64 d (h2 x hx)
 exact ⟨ps, rfl, by simpa using h1, h3⟩
def ok26 (x : TJProg) : Prop := ok22 x.Funcs ∧ ok23 x.Consts ∧ ok24 x.Shapes
theorem sh26 (d : Nat) {l : List Cel} (h : Shape Tryd.prog (d + 6) 26 l) : ∃ v : TJProg, l = e_TJProg v ∧ ok26 v := by
 rw [Shape_struct Tryd.underlying26] at h
 simp only [Cat, List.map_cons, List.map_nil] at h
 obtain ⟨l0, r0, rfl, h0, l1, r1, rfl, h1, l2, r2, rfl, h2, rfl⟩ := h
 obtain ⟨v0, rfl, k0⟩ := sh22 (d + 0) h0
 obtain ⟨v1, rfl, k1⟩ := sh23 (d + 2) h1
 obtain ⟨v2, rfl, k2⟩ := sh24 (d + 2) h2
 exact ⟨⟨v0, v1, v2⟩, rfl, k0, k1, k2⟩
/-- The law, over plain values. -/
def PureCodeChecks : Prop := ∀ (a0 : TJProg), ok26 a0 → Z2a a0 = some true
theorem lawCodeChecks (pureCodeChecks : PureCodeChecks) (xs : List AV) (hl : xs.length = 1) (hs : ∀ (i : Nat) (t : TypeId) (x : AV), ([26] : List TypeId)[i]? = some t → xs[i]? = some x → ShapeV Tryd.prog t x) : CPure Tryd.prog GG 3 xs (.c (.val (.bool true))) := by
 match xs, hl, hs with
 | [x0], _, hs =>
  have h0 := hs 0 26 x0 (by simp) (by simp)
  rw [ShapeV_struct Tryd.underlying26] at h0
  obtain ⟨l0, rfl, h0⟩ := h0
  obtain ⟨a0, rfl, k0⟩ := sh26 6 h0
  exact Z64 (pureCodeChecks a0 k0)
end Go.Proofs.YtolmbcngghkfiaaDoorBv
-- squeezed
