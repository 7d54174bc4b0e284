/- What is handed in to the law LoopSteps, as plain values. -/
import Derived.Test.YtoomjemboekooaaGLoopSteps2
namespace Go.Proofs.YtoomjemboekooaaBv
open Go
set_option linter.unusedVariables false
set_option linter.unusedSimpArgs false
attribute [local irreducible] Shape
def ok3 (x : Int) : Prop := (Lit.int .i64 x).wf = true
theorem sh3 (d : Nat) {l : List Cel} (h : Shape Try.prog (d + 1) 3 l) : ∃ v : Int, l = eI v ∧ ok3 v := by
 rw [Shape_int Try.underlying3] at h
 obtain ⟨v, h1, rfl⟩ := h; exact ⟨v, rfl, h1⟩
def ok4 (x : Bool) : Prop := True
theorem sh4 (d : Nat) {l : List Cel} (h : Shape Try.prog (d + 1) 4 l) : ∃ v : Bool, l = eB v ∧ ok4 v := by
 rw [Shape_bool Try.underlying4] at h
 obtain ⟨v, rfl⟩ := h; exact ⟨v, rfl, trivial⟩
def ok9 (x : (List UInt8)) : Prop := x.length ≤ reachBytes
theorem sh9 (d : Nat) {l : List Cel} (h : Shape Try.prog (d + 1) 9 l) : ∃ v : (List UInt8), l = eStr v ∧ ok9 v := by
 rw [Shape_string Try.underlying9] at h
 obtain ⟨v, h1, rfl⟩ := h; exact ⟨v, rfl, h1⟩
def ok27 (x : TJVal) : Prop := ok3 x.Kind ∧ ok3 x.N ∧ ok9 x.S
theorem sh27 (d : Nat) {l : List Cel} (h : Shape Try.prog (d + 2) 27 l) : ∃ v : TJVal, l = e_TJVal v ∧ ok27 v := by
 rw [Shape_struct Try.underlying27] at h
 simp only [Cat, List.map_cons, List.map_nil] at h
 obtain ⟨l0, r0, rfl, h0, l1, r1, rfl, h1, l2, r2, rfl, h2, rfl⟩ := h
 obtain ⟨v0, rfl, k0⟩ := sh3 (d + 0) h0
 obtain ⟨v1, rfl, k1⟩ := sh3 (d + 0) h1
 obtain ⟨v2, rfl, k2⟩ := sh9 (d + 0) h2
 exact ⟨⟨v0, v1, v2⟩, rfl, k0, k1, k2⟩
def ok34 (x : TJJob) : Prop := ok3 x.ID ∧ ok3 x.Source ∧ ok4 x.Small ∧ ok9 x.Call ∧ ok27 x.Arg
theorem sh34 (d : Nat) {l : List Cel} (h : Shape Try.prog (d + 3) 34 l) : ∃ v : TJJob, l = e_TJJob v ∧ ok34 v := by
 rw [Shape_struct Try.underlying34] at h
 simp only [Cat, List.map_cons, List.map_nil] at h
 obtain ⟨l0, r0, rfl, h0, l1, r1, rfl, h1, l2, r2, rfl, h2, l3, r3, rfl, h3, l4, r4, rfl, h4, rfl⟩ := h
 obtain ⟨v0, rfl, k0⟩ := sh3 (d + 1) h0
 obtain ⟨v1, rfl, k1⟩ := sh3 (d + 1) h1
 obtain ⟨v2, rfl, k2⟩ := sh4 (d + 1) h2
 obtain ⟨v3, rfl, k3⟩ := sh9 (d + 1) h3
 obtain ⟨v4, rfl, k4⟩ := sh27 (d + 0) h4
 exact ⟨⟨v0, v1, v2, v3, v4⟩, rfl, k0, k1, k2, k3, k4⟩
theorem cells34 : Try.prog.cellsOf 34 = 7 := by kernel_rfl
def ok22 (x : (List TJJob)) : Prop := x.length ≤ reachBytes ∧ ∀ y, y ∈ x → ok34 y
theorem sh22 (d : Nat) {l : List Cel} (h : Shape Try.prog (d + 4) 22 l) : ∃ v : (List TJJob), l = (eSl 7 e_TJJob) v ∧ ok22 v := by
 rw [Shape_slice Try.underlying22, cells34] at h
 obtain ⟨xs, rfl, h1, h2⟩ := h
 obtain ⟨ps, rfl, h3⟩ := map_ofP (f := e_TJJob) (ok := ok34) (xs := xs) fun x hx => sh34 d (h2 x hx)
 exact ⟨ps, rfl, by simpa using h1, h3⟩
def ok84 (x : TJTimer) : Prop := ok3 x.ID ∧ ok3 x.At ∧ ok3 x.Every ∧ ok3 x.Turn ∧ ok9 x.Call
theorem sh84 (d : Nat) {l : List Cel} (h : Shape Try.prog (d + 2) 84 l) : ∃ v : TJTimer, l = e_TJTimer v ∧ ok84 v := by
 rw [Shape_struct Try.underlying84] at h
 simp only [Cat, List.map_cons, List.map_nil] at h
 obtain ⟨l0, r0, rfl, h0, l1, r1, rfl, h1, l2, r2, rfl, h2, l3, r3, rfl, h3, l4, r4, rfl, h4, rfl⟩ := h
 obtain ⟨v0, rfl, k0⟩ := sh3 (d + 0) h0
 obtain ⟨v1, rfl, k1⟩ := sh3 (d + 0) h1
 obtain ⟨v2, rfl, k2⟩ := sh3 (d + 0) h2
 obtain ⟨v3, rfl, k3⟩ := sh3 (d + 0) h3
 obtain ⟨v4, rfl, k4⟩ := sh9 (d + 0) h4
 exact ⟨⟨v0, v1, v2, v3, v4⟩, rfl, k0, k1, k2, k3, k4⟩
theorem cells84 : Try.prog.cellsOf 84 = 5 := by kernel_rfl
def ok23 (x : (List TJTimer)) : Prop := x.length ≤ reachBytes ∧ ∀ y, y ∈ x → ok84 y
theorem sh23 (d : Nat) {l : List Cel} (h : Shape Try.prog (d + 3) 23 l) : ∃ v : (List TJTimer), l = (eSl 5 e_TJTimer) v ∧ ok23 v := by
 rw [Shape_slice Try.underlying23, cells84] at h
 obtain ⟨xs, rfl, h1, h2⟩ := h
 obtain ⟨ps, rfl, h3⟩ := map_ofP (f := e_TJTimer) (ok := ok84) (xs := xs) fun x hx => sh84 d (h2 x hx)
 exact ⟨ps, rfl, by simpa using h1, h3⟩
def ok25 (x : TJLoop) : Prop := ok3 x.Now ∧ ok3 x.Next ∧ ok22 x.Tasks ∧ ok22 x.Smalls ∧ ok23 x.Timers
theorem sh25 (d : Nat) {l : List Cel} (h : Shape Try.prog (d + 5) 25 l) : ∃ v : TJLoop, l = e_TJLoop v ∧ ok25 v := by
 rw [Shape_struct Try.underlying25] at h
 simp only [Cat, List.map_cons, List.map_nil] at h
 obtain ⟨l0, r0, rfl, h0, l1, r1, rfl, h1, l2, r2, rfl, h2, l3, r3, rfl, h3, l4, r4, rfl, h4, rfl⟩ := h
 obtain ⟨v0, rfl, k0⟩ := sh3 (d + 3) h0
 obtain ⟨v1, rfl, k1⟩ := sh3 (d + 3) h1
 obtain ⟨v2, rfl, k2⟩ := sh22 (d + 0) h2
 obtain ⟨v3, rfl, k3⟩ := sh22 (d + 0) h3
 obtain ⟨v4, rfl, k4⟩ := sh23 (d + 1) h4
 exact ⟨⟨v0, v1, v2, v3, v4⟩, rfl, k0, k1, k2, k3, k4⟩
def ok29 (x : TJAsk) : Prop := ok3 x.Do ∧ ok3 x.Source ∧ ok3 x.N ∧ ok9 x.Call ∧ ok27 x.Arg
theorem sh29 (d : Nat) {l : List Cel} (h : Shape Try.prog (d + 3) 29 l) : ∃ v : TJAsk, l = e_TJAsk v ∧ ok29 v := by
 rw [Shape_struct Try.underlying29] at h
 simp only [Cat, List.map_cons, List.map_nil] at h
 obtain ⟨l0, r0, rfl, h0, l1, r1, rfl, h1, l2, r2, rfl, h2, l3, r3, rfl, h3, l4, r4, rfl, h4, rfl⟩ := h
 obtain ⟨v0, rfl, k0⟩ := sh3 (d + 1) h0
 obtain ⟨v1, rfl, k1⟩ := sh3 (d + 1) h1
 obtain ⟨v2, rfl, k2⟩ := sh3 (d + 1) h2
 obtain ⟨v3, rfl, k3⟩ := sh9 (d + 1) h3
 obtain ⟨v4, rfl, k4⟩ := sh27 (d + 0) h4
 exact ⟨⟨v0, v1, v2, v3, v4⟩, rfl, k0, k1, k2, k3, k4⟩
/-- The law, over plain values. -/
def PureLoopSteps : Prop := ∀ (a0 : TJLoop) (a1 : TJAsk) (a2 : Int), ok25 a0 → ok29 a1 → ok3 a2 → Z2l a0 a1 a2 = some true
theorem lawLoopSteps (pureLoopSteps : PureLoopSteps) (xs : List AV) (hl : xs.length = 3) (hs : ∀ (i : Nat) (t : TypeId) (x : AV), ([25, 29, 3] : List TypeId)[i]? = some t → xs[i]? = some x → ShapeV Try.prog t x) : CPure Try.prog (fun _ => []) 3 xs (.c (.val (.bool true))) := by
 match xs, hl, hs with
 | [x0, x1, x2], _, hs =>
  have h0 := hs 0 25 x0 (by simp) (by simp)
  rw [ShapeV_struct Try.underlying25] at h0
  obtain ⟨l0, rfl, h0⟩ := h0
  obtain ⟨a0, rfl, k0⟩ := sh25 7 h0
  have h1 := hs 1 29 x1 (by simp) (by simp)
  rw [ShapeV_struct Try.underlying29] at h1
  obtain ⟨l1, rfl, h1⟩ := h1
  obtain ⟨a1, rfl, k1⟩ := sh29 9 h1
  have h2 := hs 2 3 x2 (by simp) (by simp)
  rw [ShapeV_int Try.underlying3] at h2
  obtain ⟨l2, rfl, h2⟩ := h2
  obtain ⟨a2, e2, k2⟩ := sh3 11 h2
  cases e2
  exact Z7m (pureLoopSteps a0 a1 a2 k0 k1 k2)
end Go.Proofs.YtoomjemboekooaaBv
-- squeezed
