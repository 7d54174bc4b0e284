/- What is handed in to the law HeapSays, as plain values. -/
import Derived.Test.YtoomjemboekooaaGHeapSays2
import Derived.Test.YtoomjemboekooaaBv31
namespace Go.Proofs.YtoomjemboekooaaBv
open Go
set_option linter.unusedVariables false
set_option linter.unusedSimpArgs false
attribute [local irreducible] Shape
def ok3 (x : Int) : Prop := (Lit.int .i64 x).wf = true
theorem sh3 (d : Nat) {l : List Cel} (h : Shape Try.prog (d + 1) 3 l) : ∃ v : Int, l = eI v ∧ ok3 v := by
  rw [Shape_int Try.underlying3] at h
  obtain ⟨v, h1, rfl⟩ := h; exact ⟨v, rfl, h1⟩
def ok9 (x : (List UInt8)) : Prop := x.length ≤ reachBytes
theorem sh9 (d : Nat) {l : List Cel} (h : Shape Try.prog (d + 1) 9 l) : ∃ v : (List UInt8), l = eStr v ∧ ok9 v := by
  rw [Shape_string Try.underlying9] at h
  obtain ⟨v, h1, rfl⟩ := h; exact ⟨v, rfl, h1⟩
theorem cells9 : Try.prog.cellsOf 9 = 1 := by kernel_rfl
def ok64 (x : (List (List UInt8))) : Prop := x.length ≤ reachBytes ∧ ∀ y, y ∈ x → ok9 y
theorem sh64 (d : Nat) {l : List Cel} (h : Shape Try.prog (d + 2) 64 l) : ∃ v : (List (List UInt8)), l = (eSl 1 eStr) v ∧ ok64 v := by
  rw [Shape_slice Try.underlying64, cells9] at h
  obtain ⟨xs, rfl, h1, h2⟩ := h
  obtain ⟨ps, rfl, h3⟩ := map_ofP (f := eStr) (ok := ok9) (xs := xs) fun x hx => sh9 d (h2 x hx)
  exact ⟨ps, rfl, by simpa using h1, h3⟩
def ok27 (x : TJVal) : Prop := ok3 x.Kind ∧ ok3 x.N ∧ ok9 x.S
theorem sh27 (d : Nat) {l : List Cel} (h : Shape Try.prog (d + 2) 27 l) : ∃ v : TJVal, l = e_TJVal v ∧ ok27 v := by
  rw [Shape_struct Try.underlying27] at h
  simp only [Cat, List.map_cons, List.map_nil] at h
  obtain ⟨l0, r0, rfl, h0, l1, r1, rfl, h1, l2, r2, rfl, h2, rfl⟩ := h
  obtain ⟨v0, rfl, k0⟩ := sh3 (d + 0) h0
  obtain ⟨v1, rfl, k1⟩ := sh3 (d + 0) h1
  obtain ⟨v2, rfl, k2⟩ := sh9 (d + 0) h2
  exact ⟨⟨v0, v1, v2⟩, rfl, k0, k1, k2⟩
theorem cells27 : Try.prog.cellsOf 27 = 3 := by kernel_rfl
def ok53 (x : (List TJVal)) : Prop := x.length ≤ reachBytes ∧ ∀ y, y ∈ x → ok27 y
theorem sh53 (d : Nat) {l : List Cel} (h : Shape Try.prog (d + 3) 53 l) : ∃ v : (List TJVal), l = (eSl 3 e_TJVal) v ∧ ok53 v := by
  rw [Shape_slice Try.underlying53, cells27] at h
  obtain ⟨xs, rfl, h1, h2⟩ := h
  obtain ⟨ps, rfl, h3⟩ := map_ofP (f := e_TJVal) (ok := ok27) (xs := xs) fun x hx => sh27 d (h2 x hx)
  exact ⟨ps, rfl, by simpa using h1, h3⟩
def ok66 (x : TJCell) : Prop := ok3 x.Kind ∧ ok64 x.Names ∧ ok53 x.Vals
theorem sh66 (d : Nat) {l : List Cel} (h : Shape Try.prog (d + 4) 66 l) : ∃ v : TJCell, l = e_TJCell v ∧ ok66 v := by
  rw [Shape_struct Try.underlying66] at h
  simp only [Cat, List.map_cons, List.map_nil] at h
  obtain ⟨l0, r0, rfl, h0, l1, r1, rfl, h1, l2, r2, rfl, h2, rfl⟩ := h
  obtain ⟨v0, rfl, k0⟩ := sh3 (d + 2) h0
  obtain ⟨v1, rfl, k1⟩ := sh64 (d + 1) h1
  obtain ⟨v2, rfl, k2⟩ := sh53 (d + 0) h2
  exact ⟨⟨v0, v1, v2⟩, rfl, k0, k1, k2⟩
theorem cells66 : Try.prog.cellsOf 66 = 3 := by kernel_rfl
def ok52 (x : (List TJCell)) : Prop := x.length ≤ reachBytes ∧ ∀ y, y ∈ x → ok66 y
theorem sh52 (d : Nat) {l : List Cel} (h : Shape Try.prog (d + 5) 52 l) : ∃ v : (List TJCell), l = (eSl 3 e_TJCell) v ∧ ok52 v := by
  rw [Shape_slice Try.underlying52, cells66] at h
  obtain ⟨xs, rfl, h1, h2⟩ := h
  obtain ⟨ps, rfl, h3⟩ := map_ofP (f := e_TJCell) (ok := ok66) (xs := xs) fun x hx => sh66 d (h2 x hx)
  exact ⟨ps, rfl, by simpa using h1, h3⟩
/-- The law, over plain values. -/
def PureHeapSays : Prop := ∀ (a0 : (List TJCell)) (a1 : (List TJVal)), ok52 a0 → ok53 a1 → bulkVs [(.c (.ro false 3 (a0.map e_TJCell))), (.c (.ro false 3 (a1.map e_TJVal)))] ≤ 1048576 → clerestorylaw4_HeapSays a0 a1 = some true
theorem lawHeapSays (pureHeapSays : PureHeapSays) (xs : List AV) (hl : xs.length = 2) (hs : ∀ (i : Nat) (t : TypeId) (x : AV), ([52, 53] : List TypeId)[i]? = some t → xs[i]? = some x → ShapeV Try.prog t x) (hb : bulkVs xs ≤ 1048576) : CPure Try.prog (fun _ => []) 5 xs (.c (.val (.bool true))) := by
  match xs, hl, hs, hb with
  | [x0, x1], _, hs, hb =>
    have h0 := hs 0 52 x0 (by simp) (by simp)
    rw [ShapeV_slice Try.underlying52] at h0
    obtain ⟨l0, rfl, h0⟩ := h0
    obtain ⟨a0, e0, k0⟩ := sh52 7 h0
    cases e0
    have h1 := hs 1 53 x1 (by simp) (by simp)
    rw [ShapeV_slice Try.underlying53] at h1
    obtain ⟨l1, rfl, h1⟩ := h1
    obtain ⟨a1, e1, k1⟩ := sh53 9 h1
    cases e1
    exact clerestorylaw4_HeapSays_ok (pureHeapSays a0 a1 k0 k1 hb)
end Go.Proofs.YtoomjemboekooaaBv
