/- What is handed in to the law CountNumbers, as plain values. -/
import Derived.Test.YtaejmblphhjccaaGreatDoorGCountNumbers2
namespace Go.Proofs.YtaejmblphhjccaaGreatDoorBv
open Go
set_option linter.unusedVariables false
set_option linter.unusedSimpArgs false
set_option maxRecDepth 100000
set_option maxHeartbeats 1000000
attribute [local irreducible] Shape
def ok3 (x : Int) : Prop := (Lit.int .i64 x).wf = true
theorem sh3 (d : Nat) {l : List Cel} (h : Shape Tryz.prog (d + 1) 3 l) : ∃ v : Int, l = eI v ∧ ok3 v := by
 rw [Shape_int Tryz.underlying3] at h
 obtain ⟨v, h1, rfl⟩ := h; exact ⟨v, rfl, h1⟩
def ok9 (x : (List UInt8)) : Prop := x.length ≤ reachBytes
theorem sh9 (d : Nat) {l : List Cel} (h : Shape Tryz.prog (d + 1) 9 l) : ∃ v : (List UInt8), l = eStr v ∧ ok9 v := by
 rw [Shape_string Tryz.underlying9] at h
 obtain ⟨v, h1, rfl⟩ := h; exact ⟨v, rfl, h1⟩
def ok116 (x : TAttr) : Prop := ok9 x.Name ∧ ok9 x.Value
theorem sh116 (d : Nat) {l : List Cel} (h : Shape Tryz.prog (d + 2) 116 l) : ∃ v : TAttr, l = e_TAttr v ∧ ok116 v := by
 rw [Shape_struct Tryz.underlying116] at h
 simp only [Cat, List.map_cons, List.map_nil] at h
 obtain ⟨l0, r0, rfl, h0, l1, r1, rfl, h1, rfl⟩ := h
 obtain ⟨v0, rfl, k0⟩ := sh9 (d + 0) h0
 obtain ⟨v1, rfl, k1⟩ := sh9 (d + 0) h1
 exact ⟨⟨v0, v1⟩, rfl, k0, k1⟩
theorem cells116 : Tryz.prog.cellsOf 116 = 2 := by kernel_rfl
def ok59 (x : (List TAttr)) : Prop := x.length ≤ reachBytes ∧ ∀ y, y ∈ x → ok116 y
theorem sh59 (d : Nat) {l : List Cel} (h : Shape Tryz.prog (d + 3) 59 l) : ∃ v : (List TAttr), l = (eSl 2 e_TAttr) v ∧ ok59 v := by
 rw [Shape_slice Tryz.underlying59, cells116] at h
 obtain ⟨xs, rfl, h1, h2⟩ := h
 obtain ⟨ps, rfl, h3⟩ := map_ofP (f := e_TAttr) (ok := ok116) (xs := xs) fun x hx => sh116 d (h2 x hx)
 exact ⟨ps, rfl, by simpa using h1, h3⟩
theorem cells3 : Tryz.prog.cellsOf 3 = 1 := by kernel_rfl
def ok27 (x : (List Int)) : Prop := x.length ≤ reachBytes ∧ ∀ y, y ∈ x → ok3 y
theorem sh27 (d : Nat) {l : List Cel} (h : Shape Tryz.prog (d + 2) 27 l) : ∃ v : (List Int), l = (eSl 1 eI) v ∧ ok27 v := by
 rw [Shape_slice Tryz.underlying27, cells3] at h
 obtain ⟨xs, rfl, h1, h2⟩ := h
 obtain ⟨ps, rfl, h3⟩ := map_ofP (f := eI) (ok := ok3) (xs := xs) fun x hx => sh3 d (h2 x hx)
 exact ⟨ps, rfl, by simpa using h1, h3⟩
def ok61 (x : TNode) : Prop := ok3 x.Kind ∧ ok9 x.Name ∧ ok59 x.Attrs ∧ ok9 x.Text ∧ ok3 x.Parent ∧ ok27 x.Kids
theorem sh61 (d : Nat) {l : List Cel} (h : Shape Tryz.prog (d + 4) 61 l) : ∃ v : TNode, l = e_TNode v ∧ ok61 v := by
 rw [Shape_struct Tryz.underlying61] at h
 simp only [Cat, List.map_cons, List.map_nil] at h
 obtain ⟨l0, r0, rfl, h0, l1, r1, rfl, h1, l2, r2, rfl, h2, l3, r3, rfl, h3, l4, r4, rfl, h4, l5, r5, rfl, h5, rfl⟩ := h
 obtain ⟨v0, rfl, k0⟩ := sh3 (d + 2) h0
 obtain ⟨v1, rfl, k1⟩ := sh9 (d + 2) h1
 obtain ⟨v2, rfl, k2⟩ := sh59 (d + 0) h2
 obtain ⟨v3, rfl, k3⟩ := sh9 (d + 2) h3
 obtain ⟨v4, rfl, k4⟩ := sh3 (d + 2) h4
 obtain ⟨v5, rfl, k5⟩ := sh27 (d + 1) h5
 exact ⟨⟨v0, v1, v2, v3, v4, v5⟩, rfl, k0, k1, k2, k3, k4, k5⟩
theorem cells61 : Tryz.prog.cellsOf 61 = 6 := by kernel_rfl
def ok22 (x : (List TNode)) : Prop := x.length ≤ reachBytes ∧ ∀ y, y ∈ x → ok61 y
theorem sh22 (d : Nat) {l : List Cel} (h : Shape Tryz.prog (d + 5) 22 l) : ∃ v : (List TNode), l = (eSl 6 e_TNode) v ∧ ok22 v := by
 rw [Shape_slice Tryz.underlying22, cells61] at h
 obtain ⟨xs, rfl, h1, h2⟩ := h
 obtain ⟨ps, rfl, h3⟩ := map_ofP (f := e_TNode) (ok := ok61) (xs := xs) fun x hx => sh61 d (h2 x hx)
 exact ⟨ps, rfl, by simpa using h1, h3⟩
def ok4 (x : Bool) : Prop := True
theorem sh4 (d : Nat) {l : List Cel} (h : Shape Tryz.prog (d + 1) 4 l) : ∃ v : Bool, l = eB v ∧ ok4 v := by
 rw [Shape_bool Tryz.underlying4] at h
 obtain ⟨v, rfl⟩ := h; exact ⟨v, rfl, trivial⟩
def ok24 (x : TDoc) : Prop := ok22 x.Nodes ∧ ok4 x.Quirks
theorem sh24 (d : Nat) {l : List Cel} (h : Shape Tryz.prog (d + 6) 24 l) : ∃ v : TDoc, l = e_TDoc v ∧ ok24 v := by
 rw [Shape_struct Tryz.underlying24] at h
 simp only [Cat, List.map_cons, List.map_nil] at h
 obtain ⟨l0, r0, rfl, h0, l1, r1, rfl, h1, rfl⟩ := h
 obtain ⟨v0, rfl, k0⟩ := sh22 (d + 0) h0
 obtain ⟨v1, rfl, k1⟩ := sh4 (d + 4) h1
 exact ⟨⟨v0, v1⟩, rfl, k0, k1⟩
def ok38 (x : TVal) : Prop := ok3 x.Kind ∧ ok3 x.N
theorem sh38 (d : Nat) {l : List Cel} (h : Shape Tryz.prog (d + 2) 38 l) : ∃ v : TVal, l = e_TVal v ∧ ok38 v := by
 rw [Shape_struct Tryz.underlying38] at h
 simp only [Cat, List.map_cons, List.map_nil] at h
 obtain ⟨l0, r0, rfl, h0, l1, r1, rfl, h1, rfl⟩ := h
 obtain ⟨v0, rfl, k0⟩ := sh3 (d + 0) h0
 obtain ⟨v1, rfl, k1⟩ := sh3 (d + 0) h1
 exact ⟨⟨v0, v1⟩, rfl, k0, k1⟩
def ok40 (x : (Ar59 TVal)) : Prop := okA59 ok38 x
theorem sh40 (d : Nat) {l : List Cel} (h : Shape Tryz.prog (d + 3) 40 l) : ∃ v : (Ar59 TVal), l = (eA59 e_TVal) v ∧ ok40 v := by
 rw [Shape_array Tryz.underlying40] at h
 exact cat59 (fun l hl => sh38 d hl) h
theorem cells40 : Tryz.prog.cellsOf 40 = 118 := by kernel_rfl
def ok25 (x : (List (Ar59 TVal))) : Prop := x.length ≤ reachBytes ∧ ∀ y, y ∈ x → ok40 y
theorem sh25 (d : Nat) {l : List Cel} (h : Shape Tryz.prog (d + 4) 25 l) : ∃ v : (List (Ar59 TVal)), l = (eSl 118 (eA59 e_TVal)) v ∧ ok25 v := by
 rw [Shape_slice Tryz.underlying25, cells40] at h
 obtain ⟨xs, rfl, h1, h2⟩ := h
 obtain ⟨ps, rfl, h3⟩ := map_ofP (f := (eA59 e_TVal)) (ok := ok40) (xs := xs) fun x hx => sh40 d (h2 x hx)
 exact ⟨ps, rfl, by simpa using h1, h3⟩
/-- The law, over plain values. -/
def PureCountNumbers : Prop := ∀ (a0 : TDoc) (a1 : (List (Ar59 TVal))), ok24 a0 → ok25 a1 → Z3q a0 a1 = some true
theorem lawCountNumbers {mL : Int} (pureCountNumbers : PureCountNumbers) (xs : List AV) (hl : xs.length = 2) (hs : ∀ (i : Nat) (t : TypeId) (x : AV), ([24, 25] : List TypeId)[i]? = some t → xs[i]? = some x → ShapeV Tryz.prog t x) : CPure Tryz.prog (GG mL) 3 xs (.c (.val (.bool true))) := by
 match xs, hl, hs with
 | [x0, x1], _, hs =>
  have h0 := hs 0 24 x0 (by simp) (by simp)
  rw [ShapeV_struct Tryz.underlying24] at h0
  obtain ⟨l0, rfl, h0⟩ := h0
  obtain ⟨a0, rfl, k0⟩ := sh24 6 h0
  have h1 := hs 1 25 x1 (by simp) (by simp)
  rw [ShapeV_slice Tryz.underlying25] at h1
  obtain ⟨l1, rfl, h1⟩ := h1
  obtain ⟨a1, e1, k1⟩ := sh25 8 h1
  cases e1
  exact Zbj (pureCountNumbers a0 a1 k0 k1)
end Go.Proofs.YtaejmblphhjccaaGreatDoorBv
-- squeezed
