/- What is handed in to the law AnimTells, as plain values. -/
import Derived.Test.YtgfcmhomndofaaaGAnimTells1
namespace Go.Proofs.YtgfcmhomndofaaaBv
open Go
set_option linter.unusedVariables false
set_option linter.unusedSimpArgs false
attribute [local irreducible] Shape
def ok3 (x : Int) : Prop := (Lit.int .i64 x).wf = true
theorem sh3 (d : Nat) {l : List Cel} (h : Shape Try.prog (d + 1) 3 l) : ∃ v : Int, l = eI v ∧ ok3 v := by
  rw [Shape_int Try.underlying3] at h
  obtain ⟨v, h1, rfl⟩ := h; exact ⟨v, rfl, h1⟩
def ok4 (x : Bool) : Prop := True
theorem sh4 (d : Nat) {l : List Cel} (h : Shape Try.prog (d + 1) 4 l) : ∃ v : Bool, l = eB v ∧ ok4 v := by
  rw [Shape_bool Try.underlying4] at h
  obtain ⟨v, rfl⟩ := h; exact ⟨v, rfl, trivial⟩
def ok23 (x : (Ar4 Int)) : Prop := ok3 x.a0 ∧ ok3 x.a1 ∧ ok3 x.a2 ∧ ok3 x.a3
theorem sh23 (d : Nat) {l : List Cel} (h : Shape Try.prog (d + 2) 23 l) : ∃ v : (Ar4 Int), l = (eA4 eI) v ∧ ok23 v := by
  rw [Shape_array Try.underlying23] at h
  simp only [Cat, List.replicate] at h
  obtain ⟨l0, r0, rfl, h0, l1, r1, rfl, h1, l2, r2, rfl, h2, l3, r3, rfl, h3, rfl⟩ := h
  obtain ⟨v0, rfl, k0⟩ := sh3 d h0
  obtain ⟨v1, rfl, k1⟩ := sh3 d h1
  obtain ⟨v2, rfl, k2⟩ := sh3 d h2
  obtain ⟨v3, rfl, k3⟩ := sh3 d h3
  exact ⟨⟨v0, v1, v2, v3⟩, rfl, k0, k1, k2, k3⟩
def ok25 (x : TSEase) : Prop := ok3 x.Kind ∧ ok23 x.Curve ∧ ok3 x.N
theorem sh25 (d : Nat) {l : List Cel} (h : Shape Try.prog (d + 3) 25 l) : ∃ v : TSEase, l = e_TSEase v ∧ ok25 v := by
  rw [Shape_struct Try.underlying25] at h
  simp only [Cat, List.map_cons, List.map_nil] at h
  obtain ⟨l0, r0, rfl, h0, l1, r1, rfl, h1, l2, r2, rfl, h2, rfl⟩ := h
  obtain ⟨v0, rfl, k0⟩ := sh3 (d + 1) h0
  obtain ⟨v1, rfl, k1⟩ := sh23 (d + 0) h1
  obtain ⟨v2, rfl, k2⟩ := sh3 (d + 1) h2
  exact ⟨⟨v0, v1, v2⟩, rfl, k0, k1, k2⟩
def ok44 (x : TVal) : Prop := ok3 x.Kind ∧ ok3 x.N
theorem sh44 (d : Nat) {l : List Cel} (h : Shape Try.prog (d + 2) 44 l) : ∃ v : TVal, l = e_TVal v ∧ ok44 v := by
  rw [Shape_struct Try.underlying44] at h
  simp only [Cat, List.map_cons, List.map_nil] at h
  obtain ⟨l0, r0, rfl, h0, l1, r1, rfl, h1, rfl⟩ := h
  obtain ⟨v0, rfl, k0⟩ := sh3 (d + 0) h0
  obtain ⟨v1, rfl, k1⟩ := sh3 (d + 0) h1
  exact ⟨⟨v0, v1⟩, rfl, k0, k1⟩
def ok78 (x : TSFrame) : Prop := ok3 x.At ∧ ok44 x.Val
theorem sh78 (d : Nat) {l : List Cel} (h : Shape Try.prog (d + 3) 78 l) : ∃ v : TSFrame, l = e_TSFrame v ∧ ok78 v := by
  rw [Shape_struct Try.underlying78] at h
  simp only [Cat, List.map_cons, List.map_nil] at h
  obtain ⟨l0, r0, rfl, h0, l1, r1, rfl, h1, rfl⟩ := h
  obtain ⟨v0, rfl, k0⟩ := sh3 (d + 1) h0
  obtain ⟨v1, rfl, k1⟩ := sh44 (d + 0) h1
  exact ⟨⟨v0, v1⟩, rfl, k0, k1⟩
theorem cells78 : Try.prog.cellsOf 78 = 3 := by kernel_rfl
def ok38 (x : (List TSFrame)) : Prop := x.length ≤ maxLen ∧ ∀ y, y ∈ x → ok78 y
theorem sh38 (d : Nat) {l : List Cel} (h : Shape Try.prog (d + 4) 38 l) : ∃ v : (List TSFrame), l = (eSl 3 e_TSFrame) v ∧ ok38 v := by
  rw [Shape_slice Try.underlying38, cells78] at h
  obtain ⟨xs, rfl, h1, h2⟩ := h
  obtain ⟨ps, rfl, h3⟩ := map_ofP (f := e_TSFrame) (ok := ok78) (xs := xs) fun x hx => sh78 d (h2 x hx)
  exact ⟨ps, rfl, by simpa using h1, h3⟩
def ok40 (x : TSAnim) : Prop := ok3 x.From ∧ ok3 x.Length ∧ ok3 x.Times ∧ ok4 x.Turn ∧ ok4 x.Stays ∧ ok25 x.Ease ∧ ok38 x.Frames
theorem sh40 (d : Nat) {l : List Cel} (h : Shape Try.prog (d + 5) 40 l) : ∃ v : TSAnim, l = e_TSAnim v ∧ ok40 v := by
  rw [Shape_struct Try.underlying40] at h
  simp only [Cat, List.map_cons, List.map_nil] at h
  obtain ⟨l0, r0, rfl, h0, l1, r1, rfl, h1, l2, r2, rfl, h2, l3, r3, rfl, h3, l4, r4, rfl, h4, l5, r5, rfl, h5, l6, r6, rfl, h6, rfl⟩ := h
  obtain ⟨v0, rfl, k0⟩ := sh3 (d + 3) h0
  obtain ⟨v1, rfl, k1⟩ := sh3 (d + 3) h1
  obtain ⟨v2, rfl, k2⟩ := sh3 (d + 3) h2
  obtain ⟨v3, rfl, k3⟩ := sh4 (d + 3) h3
  obtain ⟨v4, rfl, k4⟩ := sh4 (d + 3) h4
  obtain ⟨v5, rfl, k5⟩ := sh25 (d + 1) h5
  obtain ⟨v6, rfl, k6⟩ := sh38 (d + 0) h6
  exact ⟨⟨v0, v1, v2, v3, v4, v5, v6⟩, rfl, k0, k1, k2, k3, k4, k5, k6⟩
theorem cells40 : Try.prog.cellsOf 40 = 12 := by kernel_rfl
def ok54 (x : (List TSAnim)) : Prop := x.length ≤ maxLen ∧ ∀ y, y ∈ x → ok40 y
theorem sh54 (d : Nat) {l : List Cel} (h : Shape Try.prog (d + 6) 54 l) : ∃ v : (List TSAnim), l = (eSl 12 e_TSAnim) v ∧ ok54 v := by
  rw [Shape_slice Try.underlying54, cells40] at h
  obtain ⟨xs, rfl, h1, h2⟩ := h
  obtain ⟨ps, rfl, h3⟩ := map_ofP (f := e_TSAnim) (ok := ok40) (xs := xs) fun x hx => sh40 d (h2 x hx)
  exact ⟨ps, rfl, by simpa using h1, h3⟩
/-- The law, over plain values. -/
def PureAnimTells : Prop := ∀ (a0 : (List TSAnim)) (a1 : TVal) (a2 : Int), ok54 a0 → ok44 a1 → ok3 a2 → clerestorylaw2_AnimTells a0 a1 a2 = some true
theorem lawAnimTells (pureAnimTells : PureAnimTells) (xs : List AV) (hl : xs.length = 3) (hs : ∀ (i : Nat) (t : TypeId) (x : AV), ([54, 44, 3] : List TypeId)[i]? = some t → xs[i]? = some x → ShapeV Try.prog t x) : CPure Try.prog (fun _ => []) 9 xs (.c (.val (.bool true))) := by
  match xs, hl, hs with
  | [x0, x1, x2], _, hs =>
    have h0 := hs 0 54 x0 (by simp) (by simp)
    rw [ShapeV_slice Try.underlying54] at h0
    obtain ⟨l0, rfl, h0⟩ := h0
    obtain ⟨a0, e0, k0⟩ := sh54 6 h0
    cases e0
    have h1 := hs 1 44 x1 (by simp) (by simp)
    rw [ShapeV_struct Try.underlying44] at h1
    obtain ⟨l1, rfl, h1⟩ := h1
    obtain ⟨a1, rfl, k1⟩ := sh44 10 h1
    have h2 := hs 2 3 x2 (by simp) (by simp)
    rw [ShapeV_int Try.underlying3] at h2
    obtain ⟨l2, rfl, h2⟩ := h2
    obtain ⟨a2, e2, k2⟩ := sh3 11 h2
    cases e2
    exact clerestorylaw2_AnimTells_ok (pureAnimTells a0 a1 a2 k0 k1 k2)
end Go.Proofs.YtgfcmhomndofaaaBv
