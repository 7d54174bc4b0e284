/- What is handed in to the law CascadeWins, as plain values. -/
import Derived.Test.YtagfmlkihindaaaGCascadeWins0
namespace Go.Proofs.YtagfmlkihindaaaBv
open Go
set_option linter.unusedVariables false
set_option linter.unusedSimpArgs false
attribute [local irreducible] Shape
def ok9 (x : (List UInt8)) : Prop := x.length ≤ reachBytes
theorem sh9 (d : Nat) {l : List Cel} (h : Shape Try.prog (d + 1) 9 l) : ∃ v : (List UInt8), l = eStr v ∧ ok9 v := by
  rw [Shape_string Try.underlying9] at h
  obtain ⟨v, h1, rfl⟩ := h; exact ⟨v, rfl, h1⟩
def ok3 (x : Int) : Prop := (Lit.int .i64 x).wf = true
theorem sh3 (d : Nat) {l : List Cel} (h : Shape Try.prog (d + 1) 3 l) : ∃ v : Int, l = eI v ∧ ok3 v := by
  rw [Shape_int Try.underlying3] at h
  obtain ⟨v, h1, rfl⟩ := h; exact ⟨v, rfl, h1⟩
def ok4 (x : Bool) : Prop := True
theorem sh4 (d : Nat) {l : List Cel} (h : Shape Try.prog (d + 1) 4 l) : ∃ v : Bool, l = eB v ∧ ok4 v := by
  rw [Shape_bool Try.underlying4] at h
  obtain ⟨v, rfl⟩ := h; exact ⟨v, rfl, trivial⟩
def ok26 (x : TSGiven) : Prop := ok9 x.Name ∧ ok9 x.Value ∧ ok3 x.Origin ∧ ok4 x.Important ∧ ok3 x.Weight ∧ ok3 x.Place
theorem sh26 (d : Nat) {l : List Cel} (h : Shape Try.prog (d + 2) 26 l) : ∃ v : TSGiven, l = e_TSGiven v ∧ ok26 v := by
  rw [Shape_struct Try.underlying26] at h
  simp only [Cat, List.map_cons, List.map_nil] at h
  obtain ⟨l0, r0, rfl, h0, l1, r1, rfl, h1, l2, r2, rfl, h2, l3, r3, rfl, h3, l4, r4, rfl, h4, l5, r5, rfl, h5, rfl⟩ := h
  obtain ⟨v0, rfl, k0⟩ := sh9 (d + 0) h0
  obtain ⟨v1, rfl, k1⟩ := sh9 (d + 0) h1
  obtain ⟨v2, rfl, k2⟩ := sh3 (d + 0) h2
  obtain ⟨v3, rfl, k3⟩ := sh4 (d + 0) h3
  obtain ⟨v4, rfl, k4⟩ := sh3 (d + 0) h4
  obtain ⟨v5, rfl, k5⟩ := sh3 (d + 0) h5
  exact ⟨⟨v0, v1, v2, v3, v4, v5⟩, rfl, k0, k1, k2, k3, k4, k5⟩
theorem cells26 : Try.prog.cellsOf 26 = 6 := by kernel_rfl
def ok22 (x : (List TSGiven)) : Prop := x.length ≤ reachBytes ∧ ∀ y, y ∈ x → ok26 y
theorem sh22 (d : Nat) {l : List Cel} (h : Shape Try.prog (d + 3) 22 l) : ∃ v : (List TSGiven), l = (eSl 6 e_TSGiven) v ∧ ok22 v := by
  rw [Shape_slice Try.underlying22, cells26] at h
  obtain ⟨xs, rfl, h1, h2⟩ := h
  obtain ⟨ps, rfl, h3⟩ := map_ofP (f := e_TSGiven) (ok := ok26) (xs := xs) fun x hx => sh26 d (h2 x hx)
  exact ⟨ps, rfl, by simpa using h1, h3⟩
/-- The law, over plain values. -/
def PureCascadeWins : Prop := ∀ (a0 : (List TSGiven)), ok22 a0 → clerestorylaw2_CascadeWins a0 = some true
theorem lawCascadeWins (pureCascadeWins : PureCascadeWins) (xs : List AV) (hl : xs.length = 1) (hs : ∀ (i : Nat) (t : TypeId) (x : AV), ([22] : List TypeId)[i]? = some t → xs[i]? = some x → ShapeV Try.prog t x) : CPure Try.prog (fun _ => []) 3 xs (.c (.val (.bool true))) := by
  match xs, hl, hs with
  | [x0], _, hs =>
    have h0 := hs 0 22 x0 (by simp) (by simp)
    rw [ShapeV_slice Try.underlying22] at h0
    obtain ⟨l0, rfl, h0⟩ := h0
    obtain ⟨a0, e0, k0⟩ := sh22 9 h0
    cases e0
    exact clerestorylaw2_CascadeWins_ok (pureCascadeWins a0 k0)
end Go.Proofs.YtagfmlkihindaaaBv
