/- The calculus: the library's contracts, met: strings.IndexByte, Index, TrimLeft (a cutset of ASCII). It proves nothing of any program. -/
import Derived.Test.YtolmbcngghkfiaaDoorBv29
import Derived.Shelf.Small.Strs
import Derived.Shelf.Strings.SlTrimAscii
namespace Go.Proofs.YtolmbcngghkfiaaDoorBv
open Go Go.RowKit Go.Proofs
set_option linter.unusedVariables false
set_option linter.unusedSimpArgs false

theorem below_grown {w w' : World} (h : Below w.heap.size w w') : w.heap.size ≤ w'.heap.size ∧ (∀ k, k < w.heap.size → w'.heap[k]? = w.heap[k]?) ∧ w'.os = w.os ∧ w'.tape = w.tape ∧ w'.output = w.output :=
  ⟨h.size, fun k hk => h.block k hk, h.os, h.tape, h.output⟩
/-! ### strings.IndexByte -/
def indexByte? (s : List UInt8) (c : Int) : Option Int := some (Lib.indexByte s c.toNat.toUInt8)
theorem indexByte_ok {P : Program} {ρ : Shelf.Ren} {Γ : Glob} (L : Lays.n137 P ρ) {s : List UInt8} {c r : Int} (h : indexByte? s c = some r) :
    CPure P Γ (ρ.f 137) [.c (.str s), .c (.val (.int .u8 c))] (.c (.val (.int .i64 r))) := by
  cases h
  refine cpure_of fun E w μ κ cargs H hsz hrel => ?_
  obtain ⟨b, rfl, e0⟩ := relS (hrel 0 _ rfl)
  have e1 := relI (hrel 1 _ rfl)
  rw [arr2 hsz, e0, e1]
  refine (Any.strings_IndexByte L b c w).mono ?_
  rintro e w' ⟨rfl, rfl⟩
  exact ⟨_, rfl, fun K => .c (.val rfl), same_world⟩
/-! ### strings.Index -/
def index? (s t : List UInt8) : Option Int := if s.length < 4294967281 then some (Lib.index s t) else none
theorem index_ok {P : Program} {ρ : Shelf.Ren} {Γ : Glob} {m : Int} (L : Lays.n143 P ρ) (hc : Γ (ρ.g 1) = [.val (.int .i64 m)]) {s t : List UInt8} {r : Int} (h : index? s t = some r) :
    CPure P Γ (ρ.f 143) [.c (.str s), .c (.str t)] (.c (.val (.int .i64 r))) := by
  unfold index? at h
  split at h
  · rename_i hn
    cases h
    refine cpure_of fun E w μ κ cargs H hsz hrel => ?_
    obtain ⟨b, rfl, e0⟩ := relS (hrel 0 _ rfl)
    obtain ⟨u, rfl, e1⟩ := relS (hrel 1 _ rfl)
    rw [arr2 hsz, e0, e1]
    have hb : b.data.toList.length = b.size := rfl
    refine (Any.strings_Index L b u m w (by omega) (glob_cell H hc)).mono ?_
    rintro e w' ⟨rfl, rfl⟩
    exact ⟨_, rfl, fun K => .c (.val rfl), same_world⟩
  · cases h
/-! ### strings.TrimLeft -/
def trimLeft? (s t : List UInt8) : Option (List UInt8) := if t.length < 4294967281 ∧ t.all (fun b => decide (b.toNat < 128)) = true then some (Lib.trimLeftS s t) else none
theorem trimLeft_ok {P : Program} {ρ : Shelf.Ren} {Γ : Glob} (L : Lays.n161 P ρ) (h116 : (P.info? (ρ.t 116)).map (fun i => (i.zero, i.size)) = some (some (.agg (Array.replicate 256 (.bool false))), 256)) {s t r : List UInt8} (h : trimLeft? s t = some r) :
    CPure P Γ (ρ.f 161) [.c (.str s), .c (.str t)] (.c (.str r)) := by
  unfold trimLeft? at h
  split at h
  · rename_i hn
    cases h
    refine cpure_of fun E w μ κ cargs H hsz hrel => ?_
    obtain ⟨b, rfl, e0⟩ := relS (hrel 0 _ rfl)
    obtain ⟨u, rfl, e1⟩ := relS (hrel 1 _ rfl)
    rw [arr2 hsz, e0, e1]
    have hu : u.data.toList.length = u.size := rfl
    refine (Any.strings_TrimLeft_laid L h116 b u w (by omega) fun j x hx => ?_).mono ?_
    · have := List.all_eq_true.1 hn.2 x (List.mem_of_getElem? hx)
      simpa using this
    rintro e w' ⟨rfl, hB⟩
    exact ⟨_, rfl, fun K => .c (.str (by simp)), below_grown hB⟩
  · cases h
end Go.Proofs.YtolmbcngghkfiaaDoorBv
