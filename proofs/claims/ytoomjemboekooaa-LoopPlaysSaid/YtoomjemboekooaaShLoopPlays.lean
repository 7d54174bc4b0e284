/- What is handed in to the law LoopPlays, as plain values. -/
import Derived.Test.YtoomjemboekooaaGLoopPlays2
namespace Go.Proofs.YtoomjemboekooaaBv
open Go
set_option linter.unusedVariables false
set_option linter.unusedSimpArgs false
attribute [local irreducible] Shape
def ok3 (x : Int) : Prop := (Lit.int .i64 x).wf = true
theorem sh3 (d : Nat) {l : List Cel} (h : Shape Try.prog (d + 1) 3 l) : ∃ v : Int, l = eI v ∧ ok3 v := by
 rw [Shape_int Try.underlying3] at h
 obtain ⟨v, h1, rfl⟩ := h; exact ⟨v, rfl, h1⟩
def ok9 (x : (List UInt8)) : Prop := x.length ≤ reachBytes
theorem sh9 (d : Nat) {l : List Cel} (h : Shape Try.prog (d + 1) 9 l) : ∃ v : (List UInt8), l = eStr v ∧ ok9 v := by
 rw [Shape_string Try.underlying9] at h
 obtain ⟨v, h1, rfl⟩ := h; exact ⟨v, rfl, h1⟩
def ok27 (x : TJVal) : Prop := ok3 x.Kind ∧ ok3 x.N ∧ ok9 x.S
theorem sh27 (d : Nat) {l : List Cel} (h : Shape Try.prog (d + 2) 27 l) : ∃ v : TJVal, l = e_TJVal v ∧ ok27 v := by
 rw [Shape_struct Try.underlying27] at h
 simp only [Cat, List.map_cons, List.map_nil] at h
 obtain ⟨l0, r0, rfl, h0, l1, r1, rfl, h1, l2, r2, rfl, h2, rfl⟩ := h
 obtain ⟨v0, rfl, k0⟩ := sh3 (d + 0) h0
 obtain ⟨v1, rfl, k1⟩ := sh3 (d + 0) h1
 obtain ⟨v2, rfl, k2⟩ := sh9 (d + 0) h2
 exact ⟨⟨v0, v1, v2⟩, rfl, k0, k1, k2⟩
def ok29 (x : TJAsk) : Prop := ok3 x.Do ∧ ok3 x.Source ∧ ok3 x.N ∧ ok9 x.Call ∧ ok27 x.Arg
theorem sh29 (d : Nat) {l : List Cel} (h : Shape Try.prog (d + 3) 29 l) : ∃ v : TJAsk, l = e_TJAsk v ∧ ok29 v := by
 rw [Shape_struct Try.underlying29] at h
 simp only [Cat, List.map_cons, List.map_nil] at h
 obtain ⟨l0, r0, rfl, h0, l1, r1, rfl, h1, l2, r2, rfl, h2, l3, r3, rfl, h3, l4, r4, rfl, h4, rfl⟩ := h
 obtain ⟨v0, rfl, k0⟩ := sh3 (d + 1) h0
 obtain ⟨v1, rfl, k1⟩ := sh3 (d + 1) h1
 obtain ⟨v2, rfl, k2⟩ := sh3 (d + 1) h2
 obtain ⟨v3, rfl, k3⟩ := sh9 (d + 1) h3
 obtain ⟨v4, rfl, k4⟩ := sh27 (d + 0) h4
 exact ⟨⟨v0, v1, v2, v3, v4⟩, rfl, k0, k1, k2, k3, k4⟩
theorem cells29 : Try.prog.cellsOf 29 = 7 := by kernel_rfl
def ok43 (x : (List TJAsk)) : Prop := x.length ≤ reachBytes ∧ ∀ y, y ∈ x → ok29 y
theorem sh43 (d : Nat) {l : List Cel} (h : Shape Try.prog (d + 4) 43 l) : ∃ v : (List TJAsk), l = (eSl 7 e_TJAsk) v ∧ ok43 v := by
 rw [Shape_slice Try.underlying43, cells29] at h
 obtain ⟨xs, rfl, h1, h2⟩ := h
 obtain ⟨ps, rfl, h3⟩ := map_ofP (f := e_TJAsk) (ok := ok29) (xs := xs) fun x hx => sh29 d (h2 x hx)
 exact ⟨ps, rfl, by simpa using h1, h3⟩
/-- The law, over plain values. -/
def PureLoopPlays : Prop := ∀ (a0 : (List TJAsk)), ok43 a0 → Z2r a0 = some true
theorem lawLoopPlays (pureLoopPlays : PureLoopPlays) (xs : List AV) (hl : xs.length = 1) (hs : ∀ (i : Nat) (t : TypeId) (x : AV), ([43] : List TypeId)[i]? = some t → xs[i]? = some x → ShapeV Try.prog t x) : CPure Try.prog (fun _ => []) 4 xs (.c (.val (.bool true))) := by
 match xs, hl, hs with
 | [x0], _, hs =>
  have h0 := hs 0 43 x0 (by simp) (by simp)
  rw [ShapeV_slice Try.underlying43] at h0
  obtain ⟨l0, rfl, h0⟩ := h0
  obtain ⟨a0, e0, k0⟩ := sh43 8 h0
  cases e0
  exact Z7x (pureLoopPlays a0 k0)
end Go.Proofs.YtoomjemboekooaaBv
-- squeezed
