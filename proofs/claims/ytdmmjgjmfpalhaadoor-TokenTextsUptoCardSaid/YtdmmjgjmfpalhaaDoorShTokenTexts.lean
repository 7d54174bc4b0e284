/- What is handed in to the law TokenTexts, as plain values. -/
import Derived.Test.YtdmmjgjmfpalhaaDoorGTokenTexts1
import Derived.Test.YtdmmjgjmfpalhaaDoorBv31
namespace Go.Proofs.YtdmmjgjmfpalhaaDoorBv
open Go
set_option linter.unusedVariables false
set_option linter.unusedSimpArgs false
attribute [local irreducible] Shape
def ok3 (x : Int) : Prop := (Lit.int .i64 x).wf = true
theorem sh3 (d : Nat) {l : List Cel} (h : Shape Tryd.prog (d + 1) 3 l) : ∃ v : Int, l = eI v ∧ ok3 v := by
  rw [Shape_int Tryd.underlying3] at h
  obtain ⟨v, h1, rfl⟩ := h; exact ⟨v, rfl, h1⟩
def ok9 (x : (List UInt8)) : Prop := x.length ≤ reachBytes
theorem sh9 (d : Nat) {l : List Cel} (h : Shape Tryd.prog (d + 1) 9 l) : ∃ v : (List UInt8), l = eStr v ∧ ok9 v := by
  rw [Shape_string Tryd.underlying9] at h
  obtain ⟨v, h1, rfl⟩ := h; exact ⟨v, rfl, h1⟩
def ok54 (x : TSToken) : Prop := ok3 x.Kind ∧ ok9 x.Raw ∧ ok9 x.Value ∧ ok3 x.Num
theorem sh54 (d : Nat) {l : List Cel} (h : Shape Tryd.prog (d + 2) 54 l) : ∃ v : TSToken, l = e_TSToken v ∧ ok54 v := by
  rw [Shape_struct Tryd.underlying54] at h
  simp only [Cat, List.map_cons, List.map_nil] at h
  obtain ⟨l0, r0, rfl, h0, l1, r1, rfl, h1, l2, r2, rfl, h2, l3, r3, rfl, h3, rfl⟩ := h
  obtain ⟨v0, rfl, k0⟩ := sh3 (d + 0) h0
  obtain ⟨v1, rfl, k1⟩ := sh9 (d + 0) h1
  obtain ⟨v2, rfl, k2⟩ := sh9 (d + 0) h2
  obtain ⟨v3, rfl, k3⟩ := sh3 (d + 0) h3
  exact ⟨⟨v0, v1, v2, v3⟩, rfl, k0, k1, k2, k3⟩
theorem cells54 : Tryd.prog.cellsOf 54 = 4 := by kernel_rfl
def ok47 (x : (List TSToken)) : Prop := x.length ≤ reachBytes ∧ ∀ y, y ∈ x → ok54 y
theorem sh47 (d : Nat) {l : List Cel} (h : Shape Tryd.prog (d + 3) 47 l) : ∃ v : (List TSToken), l = (eSl 4 e_TSToken) v ∧ ok47 v := by
  rw [Shape_slice Tryd.underlying47, cells54] at h
  obtain ⟨xs, rfl, h1, h2⟩ := h
  obtain ⟨ps, rfl, h3⟩ := map_ofP (f := e_TSToken) (ok := ok54) (xs := xs) fun x hx => sh54 d (h2 x hx)
  exact ⟨ps, rfl, by simpa using h1, h3⟩
/-- The law, over plain values. -/
def PureTokenTexts : Prop := ∀ (a0 : (List TSToken)), ok47 a0 → bulkVs [(.c (.ro false 4 (a0.map e_TSToken)))] ≤ 1048576 → clerestorylaw2_TokenTexts a0 = some true
theorem lawTokenTexts {mL : Int} (pureTokenTexts : PureTokenTexts) (xs : List AV) (hl : xs.length = 1) (hs : ∀ (i : Nat) (t : TypeId) (x : AV), ([47] : List TypeId)[i]? = some t → xs[i]? = some x → ShapeV Tryd.prog t x) (hb : bulkVs xs ≤ 1048576) : CPure Tryd.prog (GG mL) 9 xs (.c (.val (.bool true))) := by
  match xs, hl, hs, hb with
  | [x0], _, hs, hb =>
    have h0 := hs 0 47 x0 (by simp) (by simp)
    rw [ShapeV_slice Tryd.underlying47] at h0
    obtain ⟨l0, rfl, h0⟩ := h0
    obtain ⟨a0, e0, k0⟩ := sh47 9 h0
    cases e0
    exact clerestorylaw2_TokenTexts_ok (pureTokenTexts a0 k0 hb)
end Go.Proofs.YtdmmjgjmfpalhaaDoorBv
