/- What is handed in to the law EventSays, as plain values. -/
import Derived.Test.YtoomjemboekooaaDoorGEventSays3
namespace Go.Proofs.YtoomjemboekooaaDoorBv
open Go
set_option linter.unusedVariables false
set_option linter.unusedSimpArgs false
attribute [local irreducible] Shape
def ok3 (x : Int) : Prop := (Lit.int .i64 x).wf = true
theorem sh3 (d : Nat) {l : List Cel} (h : Shape Tryd.prog (d + 1) 3 l) : ∃ v : Int, l = eI v ∧ ok3 v := by
  rw [Shape_int Tryd.underlying3] at h
  obtain ⟨v, h1, rfl⟩ := h; exact ⟨v, rfl, h1⟩
def ok9 (x : (List UInt8)) : Prop := x.length ≤ reachBytes
theorem sh9 (d : Nat) {l : List Cel} (h : Shape Tryd.prog (d + 1) 9 l) : ∃ v : (List UInt8), l = eStr v ∧ ok9 v := by
  rw [Shape_string Tryd.underlying9] at h
  obtain ⟨v, h1, rfl⟩ := h; exact ⟨v, rfl, h1⟩
def ok117 (x : TAttr) : Prop := ok9 x.Name ∧ ok9 x.Value
theorem sh117 (d : Nat) {l : List Cel} (h : Shape Tryd.prog (d + 2) 117 l) : ∃ v : TAttr, l = e_TAttr v ∧ ok117 v := by
  rw [Shape_struct Tryd.underlying117] at h
  simp only [Cat, List.map_cons, List.map_nil] at h
  obtain ⟨l0, r0, rfl, h0, l1, r1, rfl, h1, rfl⟩ := h
  obtain ⟨v0, rfl, k0⟩ := sh9 (d + 0) h0
  obtain ⟨v1, rfl, k1⟩ := sh9 (d + 0) h1
  exact ⟨⟨v0, v1⟩, rfl, k0, k1⟩
theorem cells117 : Tryd.prog.cellsOf 117 = 2 := by kernel_rfl
def ok51 (x : (List TAttr)) : Prop := x.length ≤ reachBytes ∧ ∀ y, y ∈ x → ok117 y
theorem sh51 (d : Nat) {l : List Cel} (h : Shape Tryd.prog (d + 3) 51 l) : ∃ v : (List TAttr), l = (eSl 2 e_TAttr) v ∧ ok51 v := by
  rw [Shape_slice Tryd.underlying51, cells117] at h
  obtain ⟨xs, rfl, h1, h2⟩ := h
  obtain ⟨ps, rfl, h3⟩ := map_ofP (f := e_TAttr) (ok := ok117) (xs := xs) fun x hx => sh117 d (h2 x hx)
  exact ⟨ps, rfl, by simpa using h1, h3⟩
theorem cells3 : Tryd.prog.cellsOf 3 = 1 := by kernel_rfl
def ok28 (x : (List Int)) : Prop := x.length ≤ reachBytes ∧ ∀ y, y ∈ x → ok3 y
theorem sh28 (d : Nat) {l : List Cel} (h : Shape Tryd.prog (d + 2) 28 l) : ∃ v : (List Int), l = (eSl 1 eI) v ∧ ok28 v := by
  rw [Shape_slice Tryd.underlying28, cells3] at h
  obtain ⟨xs, rfl, h1, h2⟩ := h
  obtain ⟨ps, rfl, h3⟩ := map_ofP (f := eI) (ok := ok3) (xs := xs) fun x hx => sh3 d (h2 x hx)
  exact ⟨ps, rfl, by simpa using h1, h3⟩
def ok53 (x : TNode) : Prop := ok3 x.Kind ∧ ok9 x.Name ∧ ok51 x.Attrs ∧ ok9 x.Text ∧ ok3 x.Parent ∧ ok28 x.Kids
theorem sh53 (d : Nat) {l : List Cel} (h : Shape Tryd.prog (d + 4) 53 l) : ∃ v : TNode, l = e_TNode v ∧ ok53 v := by
  rw [Shape_struct Tryd.underlying53] at h
  simp only [Cat, List.map_cons, List.map_nil] at h
  obtain ⟨l0, r0, rfl, h0, l1, r1, rfl, h1, l2, r2, rfl, h2, l3, r3, rfl, h3, l4, r4, rfl, h4, l5, r5, rfl, h5, rfl⟩ := h
  obtain ⟨v0, rfl, k0⟩ := sh3 (d + 2) h0
  obtain ⟨v1, rfl, k1⟩ := sh9 (d + 2) h1
  obtain ⟨v2, rfl, k2⟩ := sh51 (d + 0) h2
  obtain ⟨v3, rfl, k3⟩ := sh9 (d + 2) h3
  obtain ⟨v4, rfl, k4⟩ := sh3 (d + 2) h4
  obtain ⟨v5, rfl, k5⟩ := sh28 (d + 1) h5
  exact ⟨⟨v0, v1, v2, v3, v4, v5⟩, rfl, k0, k1, k2, k3, k4, k5⟩
theorem cells53 : Tryd.prog.cellsOf 53 = 6 := by kernel_rfl
def ok22 (x : (List TNode)) : Prop := x.length ≤ reachBytes ∧ ∀ y, y ∈ x → ok53 y
theorem sh22 (d : Nat) {l : List Cel} (h : Shape Tryd.prog (d + 5) 22 l) : ∃ v : (List TNode), l = (eSl 6 e_TNode) v ∧ ok22 v := by
  rw [Shape_slice Tryd.underlying22, cells53] at h
  obtain ⟨xs, rfl, h1, h2⟩ := h
  obtain ⟨ps, rfl, h3⟩ := map_ofP (f := e_TNode) (ok := ok53) (xs := xs) fun x hx => sh53 d (h2 x hx)
  exact ⟨ps, rfl, by simpa using h1, h3⟩
def ok4 (x : Bool) : Prop := True
theorem sh4 (d : Nat) {l : List Cel} (h : Shape Tryd.prog (d + 1) 4 l) : ∃ v : Bool, l = eB v ∧ ok4 v := by
  rw [Shape_bool Tryd.underlying4] at h
  obtain ⟨v, rfl⟩ := h; exact ⟨v, rfl, trivial⟩
def ok24 (x : TDoc) : Prop := ok22 x.Nodes ∧ ok4 x.Quirks
theorem sh24 (d : Nat) {l : List Cel} (h : Shape Tryd.prog (d + 6) 24 l) : ∃ v : TDoc, l = e_TDoc v ∧ ok24 v := by
  rw [Shape_struct Tryd.underlying24] at h
  simp only [Cat, List.map_cons, List.map_nil] at h
  obtain ⟨l0, r0, rfl, h0, l1, r1, rfl, h1, rfl⟩ := h
  obtain ⟨v0, rfl, k0⟩ := sh22 (d + 0) h0
  obtain ⟨v1, rfl, k1⟩ := sh4 (d + 4) h1
  exact ⟨⟨v0, v1⟩, rfl, k0, k1⟩
def ok41 (x : TListener) : Prop := ok3 x.ID ∧ ok3 x.Node ∧ ok9 x.f_Type ∧ ok4 x.Capture ∧ ok4 x.Once ∧ ok4 x.Stops ∧ ok4 x.StopsAll ∧ ok4 x.Prevents
theorem sh41 (d : Nat) {l : List Cel} (h : Shape Tryd.prog (d + 2) 41 l) : ∃ v : TListener, l = e_TListener v ∧ ok41 v := by
  rw [Shape_struct Tryd.underlying41] at h
  simp only [Cat, List.map_cons, List.map_nil] at h
  obtain ⟨l0, r0, rfl, h0, l1, r1, rfl, h1, l2, r2, rfl, h2, l3, r3, rfl, h3, l4, r4, rfl, h4, l5, r5, rfl, h5, l6, r6, rfl, h6, l7, r7, rfl, h7, rfl⟩ := h
  obtain ⟨v0, rfl, k0⟩ := sh3 (d + 0) h0
  obtain ⟨v1, rfl, k1⟩ := sh3 (d + 0) h1
  obtain ⟨v2, rfl, k2⟩ := sh9 (d + 0) h2
  obtain ⟨v3, rfl, k3⟩ := sh4 (d + 0) h3
  obtain ⟨v4, rfl, k4⟩ := sh4 (d + 0) h4
  obtain ⟨v5, rfl, k5⟩ := sh4 (d + 0) h5
  obtain ⟨v6, rfl, k6⟩ := sh4 (d + 0) h6
  obtain ⟨v7, rfl, k7⟩ := sh4 (d + 0) h7
  exact ⟨⟨v0, v1, v2, v3, v4, v5, v6, v7⟩, rfl, k0, k1, k2, k3, k4, k5, k6, k7⟩
theorem cells41 : Tryd.prog.cellsOf 41 = 8 := by kernel_rfl
def ok25 (x : (List TListener)) : Prop := x.length ≤ reachBytes ∧ ∀ y, y ∈ x → ok41 y
theorem sh25 (d : Nat) {l : List Cel} (h : Shape Tryd.prog (d + 3) 25 l) : ∃ v : (List TListener), l = (eSl 8 e_TListener) v ∧ ok25 v := by
  rw [Shape_slice Tryd.underlying25, cells41] at h
  obtain ⟨xs, rfl, h1, h2⟩ := h
  obtain ⟨ps, rfl, h3⟩ := map_ofP (f := e_TListener) (ok := ok41) (xs := xs) fun x hx => sh41 d (h2 x hx)
  exact ⟨ps, rfl, by simpa using h1, h3⟩
def ok27 (x : TEvent) : Prop := ok9 x.f_Type ∧ ok3 x.Target ∧ ok3 x.X ∧ ok3 x.Y ∧ ok9 x.Key ∧ ok4 x.Bubbles ∧ ok4 x.Cancels
theorem sh27 (d : Nat) {l : List Cel} (h : Shape Tryd.prog (d + 2) 27 l) : ∃ v : TEvent, l = e_TEvent v ∧ ok27 v := by
  rw [Shape_struct Tryd.underlying27] at h
  simp only [Cat, List.map_cons, List.map_nil] at h
  obtain ⟨l0, r0, rfl, h0, l1, r1, rfl, h1, l2, r2, rfl, h2, l3, r3, rfl, h3, l4, r4, rfl, h4, l5, r5, rfl, h5, l6, r6, rfl, h6, rfl⟩ := h
  obtain ⟨v0, rfl, k0⟩ := sh9 (d + 0) h0
  obtain ⟨v1, rfl, k1⟩ := sh3 (d + 0) h1
  obtain ⟨v2, rfl, k2⟩ := sh3 (d + 0) h2
  obtain ⟨v3, rfl, k3⟩ := sh3 (d + 0) h3
  obtain ⟨v4, rfl, k4⟩ := sh9 (d + 0) h4
  obtain ⟨v5, rfl, k5⟩ := sh4 (d + 0) h5
  obtain ⟨v6, rfl, k6⟩ := sh4 (d + 0) h6
  exact ⟨⟨v0, v1, v2, v3, v4, v5, v6⟩, rfl, k0, k1, k2, k3, k4, k5, k6⟩
/-- The law, over plain values. -/
def PureEventSays : Prop := ∀ (a0 : TDoc) (a1 : (List TListener)) (a2 : TEvent), ok24 a0 → ok25 a1 → ok27 a2 → clerestorylaw4_EventSays a0 a1 a2 = some true
theorem lawEventSays {mL : Int} (pureEventSays : PureEventSays) (xs : List AV) (hl : xs.length = 3) (hs : ∀ (i : Nat) (t : TypeId) (x : AV), ([24, 25, 27] : List TypeId)[i]? = some t → xs[i]? = some x → ShapeV Tryd.prog t x) : CPure Tryd.prog (GG mL) 3 xs (.c (.val (.bool true))) := by
  match xs, hl, hs with
  | [x0, x1, x2], _, hs =>
    have h0 := hs 0 24 x0 (by simp) (by simp)
    rw [ShapeV_struct Tryd.underlying24] at h0
    obtain ⟨l0, rfl, h0⟩ := h0
    obtain ⟨a0, rfl, k0⟩ := sh24 6 h0
    have h1 := hs 1 25 x1 (by simp) (by simp)
    rw [ShapeV_slice Tryd.underlying25] at h1
    obtain ⟨l1, rfl, h1⟩ := h1
    obtain ⟨a1, e1, k1⟩ := sh25 9 h1
    cases e1
    have h2 := hs 2 27 x2 (by simp) (by simp)
    rw [ShapeV_struct Tryd.underlying27] at h2
    obtain ⟨l2, rfl, h2⟩ := h2
    obtain ⟨a2, rfl, k2⟩ := sh27 10 h2
    exact clerestorylaw4_EventSays_ok (pureEventSays a0 a1 a2 k0 k1 k2)
end Go.Proofs.YtoomjemboekooaaDoorBv
