/- What is handed in to the law UrlWrites, as plain values. -/
import Derived.Test.YtjicgjhhiallkaaGreatDoorGUrlWrites3
import Derived.Test.YtjicgjhhiallkaaGreatDoorBv31
namespace Go.Proofs.YtjicgjhhiallkaaGreatDoorBv
open Go
set_option linter.unusedVariables false
set_option linter.unusedSimpArgs false
attribute [local irreducible] Shape
def ok9 (x : (List UInt8)) : Prop := x.length ≤ reachBytes
theorem sh9 (d : Nat) {l : List Cel} (h : Shape Tryz.prog (d + 1) 9 l) : ∃ v : (List UInt8), l = eStr v ∧ ok9 v := by
 rw [Shape_string Tryz.underlying9] at h
 obtain ⟨v, h1, rfl⟩ := h; exact ⟨v, rfl, h1⟩
def ok3 (x : Int) : Prop := (Lit.int .i64 x).wf = true
theorem sh3 (d : Nat) {l : List Cel} (h : Shape Tryz.prog (d + 1) 3 l) : ∃ v : Int, l = eI v ∧ ok3 v := by
 rw [Shape_int Tryz.underlying3] at h
 obtain ⟨v, h1, rfl⟩ := h; exact ⟨v, rfl, h1⟩
theorem cells9 : Tryz.prog.cellsOf 9 = 1 := by kernel_rfl
def ok22 (x : (List (List UInt8))) : Prop := x.length ≤ reachBytes ∧ ∀ y, y ∈ x → ok9 y
theorem sh22 (d : Nat) {l : List Cel} (h : Shape Tryz.prog (d + 2) 22 l) : ∃ v : (List (List UInt8)), l = (eSl 1 eStr) v ∧ ok22 v := by
 rw [Shape_slice Tryz.underlying22, cells9] at h
 obtain ⟨xs, rfl, h1, h2⟩ := h
 obtain ⟨ps, rfl, h3⟩ := map_ofP (f := eStr) (ok := ok9) (xs := xs) fun x hx => sh9 d (h2 x hx)
 exact ⟨ps, rfl, by simpa using h1, h3⟩
def ok4 (x : Bool) : Prop := True
theorem sh4 (d : Nat) {l : List Cel} (h : Shape Tryz.prog (d + 1) 4 l) : ∃ v : Bool, l = eB v ∧ ok4 v := by
 rw [Shape_bool Tryz.underlying4] at h
 obtain ⟨v, rfl⟩ := h; exact ⟨v, rfl, trivial⟩
def ok24 (x : TJUrl) : Prop := ok9 x.Scheme ∧ ok9 x.Host ∧ ok3 x.Port ∧ ok22 x.Path ∧ ok9 x.Query ∧ ok4 x.Asks ∧ ok9 x.Fragment ∧ ok4 x.Points
theorem sh24 (d : Nat) {l : List Cel} (h : Shape Tryz.prog (d + 3) 24 l) : ∃ v : TJUrl, l = e_TJUrl v ∧ ok24 v := by
 rw [Shape_struct Tryz.underlying24] at h
 simp only [Cat, List.map_cons, List.map_nil] at h
 obtain ⟨l0, r0, rfl, h0, l1, r1, rfl, h1, l2, r2, rfl, h2, l3, r3, rfl, h3, l4, r4, rfl, h4, l5, r5, rfl, h5, l6, r6, rfl, h6, l7, r7, rfl, h7, rfl⟩ := h
 obtain ⟨v0, rfl, k0⟩ := sh9 (d + 1) h0
 obtain ⟨v1, rfl, k1⟩ := sh9 (d + 1) h1
 obtain ⟨v2, rfl, k2⟩ := sh3 (d + 1) h2
 obtain ⟨v3, rfl, k3⟩ := sh22 (d + 0) h3
 obtain ⟨v4, rfl, k4⟩ := sh9 (d + 1) h4
 obtain ⟨v5, rfl, k5⟩ := sh4 (d + 1) h5
 obtain ⟨v6, rfl, k6⟩ := sh9 (d + 1) h6
 obtain ⟨v7, rfl, k7⟩ := sh4 (d + 1) h7
 exact ⟨⟨v0, v1, v2, v3, v4, v5, v6, v7⟩, rfl, k0, k1, k2, k3, k4, k5, k6, k7⟩
/-- The law, over plain values. -/
def PureUrlWrites : Prop := ∀ (a0 : TJUrl), ok24 a0 → bulkVs [.agg (e_TJUrl a0)] ≤ 1048576 → l4_UrlWrites a0 = some true
theorem lawUrlWrites {mL : Int} (pureUrlWrites : PureUrlWrites) (xs : List AV) (hl : xs.length = 1) (hs : ∀ (i : Nat) (t : TypeId) (x : AV), ([24] : List TypeId)[i]? = some t → xs[i]? = some x → ShapeV Tryz.prog t x) (hb : bulkVs xs ≤ 1048576) : CPure Tryz.prog (GG mL) 4 xs (.c (.val (.bool true))) := by
 match xs, hl, hs, hb with
 | [x0], _, hs, hb =>
  have h0 := hs 0 24 x0 (by simp) (by simp)
  rw [ShapeV_struct Tryz.underlying24] at h0
  obtain ⟨l0, rfl, h0⟩ := h0
  obtain ⟨a0, rfl, k0⟩ := sh24 9 h0
  exact l4_UrlWrites_ok (pureUrlWrites a0 k0 hb)
end Go.Proofs.YtjicgjhhiallkaaGreatDoorBv
-- squeezed
