/- What is handed in to the law StyleFits, as plain values. -/
import Derived.Test.YtagfmlkihindaaaDoorGStyleFits2
namespace Go.Proofs.YtagfmlkihindaaaDoorBv
open Go
set_option linter.unusedVariables false
set_option linter.unusedSimpArgs false
set_option maxRecDepth 100000
set_option maxHeartbeats 1000000
attribute [local irreducible] Shape
def ok3 (x : Int) : Prop := (Lit.int .i64 x).wf = true
theorem sh3 (d : Nat) {l : List Cel} (h : Shape Tryd.prog (d + 1) 3 l) : ∃ v : Int, l = eI v ∧ ok3 v := by
  rw [Shape_int Tryd.underlying3] at h
  obtain ⟨v, h1, rfl⟩ := h; exact ⟨v, rfl, h1⟩
def ok9 (x : (List UInt8)) : Prop := x.length ≤ reachBytes
theorem sh9 (d : Nat) {l : List Cel} (h : Shape Tryd.prog (d + 1) 9 l) : ∃ v : (List UInt8), l = eStr v ∧ ok9 v := by
  rw [Shape_string Tryd.underlying9] at h
  obtain ⟨v, h1, rfl⟩ := h; exact ⟨v, rfl, h1⟩
def ok209 (x : TAttr) : Prop := ok9 x.Name ∧ ok9 x.Value
theorem sh209 (d : Nat) {l : List Cel} (h : Shape Tryd.prog (d + 2) 209 l) : ∃ v : TAttr, l = e_TAttr v ∧ ok209 v := by
  rw [Shape_struct Tryd.underlying209] at h
  simp only [Cat, List.map_cons, List.map_nil] at h
  obtain ⟨l0, r0, rfl, h0, l1, r1, rfl, h1, rfl⟩ := h
  obtain ⟨v0, rfl, k0⟩ := sh9 (d + 0) h0
  obtain ⟨v1, rfl, k1⟩ := sh9 (d + 0) h1
  exact ⟨⟨v0, v1⟩, rfl, k0, k1⟩
theorem cells209 : Tryd.prog.cellsOf 209 = 2 := by kernel_rfl
def ok120 (x : (List TAttr)) : Prop := x.length ≤ reachBytes ∧ ∀ y, y ∈ x → ok209 y
theorem sh120 (d : Nat) {l : List Cel} (h : Shape Tryd.prog (d + 3) 120 l) : ∃ v : (List TAttr), l = (eSl 2 e_TAttr) v ∧ ok120 v := by
  rw [Shape_slice Tryd.underlying120, cells209] at h
  obtain ⟨xs, rfl, h1, h2⟩ := h
  obtain ⟨ps, rfl, h3⟩ := map_ofP (f := e_TAttr) (ok := ok209) (xs := xs) fun x hx => sh209 d (h2 x hx)
  exact ⟨ps, rfl, by simpa using h1, h3⟩
theorem cells3 : Tryd.prog.cellsOf 3 = 1 := by kernel_rfl
def ok46 (x : (List Int)) : Prop := x.length ≤ reachBytes ∧ ∀ y, y ∈ x → ok3 y
theorem sh46 (d : Nat) {l : List Cel} (h : Shape Tryd.prog (d + 2) 46 l) : ∃ v : (List Int), l = (eSl 1 eI) v ∧ ok46 v := by
  rw [Shape_slice Tryd.underlying46, cells3] at h
  obtain ⟨xs, rfl, h1, h2⟩ := h
  obtain ⟨ps, rfl, h3⟩ := map_ofP (f := eI) (ok := ok3) (xs := xs) fun x hx => sh3 d (h2 x hx)
  exact ⟨ps, rfl, by simpa using h1, h3⟩
def ok122 (x : TNode) : Prop := ok3 x.Kind ∧ ok9 x.Name ∧ ok120 x.Attrs ∧ ok9 x.Text ∧ ok3 x.Parent ∧ ok46 x.Kids
theorem sh122 (d : Nat) {l : List Cel} (h : Shape Tryd.prog (d + 4) 122 l) : ∃ v : TNode, l = e_TNode v ∧ ok122 v := by
  rw [Shape_struct Tryd.underlying122] at h
  simp only [Cat, List.map_cons, List.map_nil] at h
  obtain ⟨l0, r0, rfl, h0, l1, r1, rfl, h1, l2, r2, rfl, h2, l3, r3, rfl, h3, l4, r4, rfl, h4, l5, r5, rfl, h5, rfl⟩ := h
  obtain ⟨v0, rfl, k0⟩ := sh3 (d + 2) h0
  obtain ⟨v1, rfl, k1⟩ := sh9 (d + 2) h1
  obtain ⟨v2, rfl, k2⟩ := sh120 (d + 0) h2
  obtain ⟨v3, rfl, k3⟩ := sh9 (d + 2) h3
  obtain ⟨v4, rfl, k4⟩ := sh3 (d + 2) h4
  obtain ⟨v5, rfl, k5⟩ := sh46 (d + 1) h5
  exact ⟨⟨v0, v1, v2, v3, v4, v5⟩, rfl, k0, k1, k2, k3, k4, k5⟩
theorem cells122 : Tryd.prog.cellsOf 122 = 6 := by kernel_rfl
def ok40 (x : (List TNode)) : Prop := x.length ≤ reachBytes ∧ ∀ y, y ∈ x → ok122 y
theorem sh40 (d : Nat) {l : List Cel} (h : Shape Tryd.prog (d + 5) 40 l) : ∃ v : (List TNode), l = (eSl 6 e_TNode) v ∧ ok40 v := by
  rw [Shape_slice Tryd.underlying40, cells122] at h
  obtain ⟨xs, rfl, h1, h2⟩ := h
  obtain ⟨ps, rfl, h3⟩ := map_ofP (f := e_TNode) (ok := ok122) (xs := xs) fun x hx => sh122 d (h2 x hx)
  exact ⟨ps, rfl, by simpa using h1, h3⟩
def ok4 (x : Bool) : Prop := True
theorem sh4 (d : Nat) {l : List Cel} (h : Shape Tryd.prog (d + 1) 4 l) : ∃ v : Bool, l = eB v ∧ ok4 v := by
  rw [Shape_bool Tryd.underlying4] at h
  obtain ⟨v, rfl⟩ := h; exact ⟨v, rfl, trivial⟩
def ok42 (x : TDoc) : Prop := ok40 x.Nodes ∧ ok4 x.Quirks
theorem sh42 (d : Nat) {l : List Cel} (h : Shape Tryd.prog (d + 6) 42 l) : ∃ v : TDoc, l = e_TDoc v ∧ ok42 v := by
  rw [Shape_struct Tryd.underlying42] at h
  simp only [Cat, List.map_cons, List.map_nil] at h
  obtain ⟨l0, r0, rfl, h0, l1, r1, rfl, h1, rfl⟩ := h
  obtain ⟨v0, rfl, k0⟩ := sh40 (d + 0) h0
  obtain ⟨v1, rfl, k1⟩ := sh4 (d + 4) h1
  exact ⟨⟨v0, v1⟩, rfl, k0, k1⟩
def ok73 (x : TVal) : Prop := ok3 x.Kind ∧ ok3 x.N
theorem sh73 (d : Nat) {l : List Cel} (h : Shape Tryd.prog (d + 2) 73 l) : ∃ v : TVal, l = e_TVal v ∧ ok73 v := by
  rw [Shape_struct Tryd.underlying73] at h
  simp only [Cat, List.map_cons, List.map_nil] at h
  obtain ⟨l0, r0, rfl, h0, l1, r1, rfl, h1, rfl⟩ := h
  obtain ⟨v0, rfl, k0⟩ := sh3 (d + 0) h0
  obtain ⟨v1, rfl, k1⟩ := sh3 (d + 0) h1
  exact ⟨⟨v0, v1⟩, rfl, k0, k1⟩
def ok78 (x : (Ar59 TVal)) : Prop := okA59 ok73 x
theorem sh78 (d : Nat) {l : List Cel} (h : Shape Tryd.prog (d + 3) 78 l) : ∃ v : (Ar59 TVal), l = (eA59 e_TVal) v ∧ ok78 v := by
  rw [Shape_array Tryd.underlying78] at h
  exact cat59 (fun l hl => sh73 d hl) h
theorem cells78 : Tryd.prog.cellsOf 78 = 118 := by kernel_rfl
def ok71 (x : (List (Ar59 TVal))) : Prop := x.length ≤ reachBytes ∧ ∀ y, y ∈ x → ok78 y
theorem sh71 (d : Nat) {l : List Cel} (h : Shape Tryd.prog (d + 4) 71 l) : ∃ v : (List (Ar59 TVal)), l = (eSl 118 (eA59 e_TVal)) v ∧ ok71 v := by
  rw [Shape_slice Tryd.underlying71, cells78] at h
  obtain ⟨xs, rfl, h1, h2⟩ := h
  obtain ⟨ps, rfl, h3⟩ := map_ofP (f := (eA59 e_TVal)) (ok := ok78) (xs := xs) fun x hx => sh78 d (h2 x hx)
  exact ⟨ps, rfl, by simpa using h1, h3⟩
/-- The law, over plain values. -/
def PureStyleFits : Prop := ∀ (a0 : TDoc) (a1 : (List (Ar59 TVal))), ok42 a0 → ok71 a1 → clerestorylaw2_StyleFits a0 a1 = some true
theorem lawStyleFits {mL : Int} (pureStyleFits : PureStyleFits) (xs : List AV) (hl : xs.length = 2) (hs : ∀ (i : Nat) (t : TypeId) (x : AV), ([42, 71] : List TypeId)[i]? = some t → xs[i]? = some x → ShapeV Tryd.prog t x) : CPure Tryd.prog (GG mL) 9 xs (.c (.val (.bool true))) := by
  match xs, hl, hs with
  | [x0, x1], _, hs =>
    have h0 := hs 0 42 x0 (by simp) (by simp)
    rw [ShapeV_struct Tryd.underlying42] at h0
    obtain ⟨l0, rfl, h0⟩ := h0
    obtain ⟨a0, rfl, k0⟩ := sh42 6 h0
    have h1 := hs 1 71 x1 (by simp) (by simp)
    rw [ShapeV_slice Tryd.underlying71] at h1
    obtain ⟨l1, rfl, h1⟩ := h1
    obtain ⟨a1, e1, k1⟩ := sh71 8 h1
    cases e1
    exact clerestorylaw2_StyleFits_ok (pureStyleFits a0 a1 k0 k1)
end Go.Proofs.YtagfmlkihindaaaDoorBv
