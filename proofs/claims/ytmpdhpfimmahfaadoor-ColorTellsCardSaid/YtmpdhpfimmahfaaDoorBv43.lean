/- The calculus: strings.Repeat, by the shelf's contract. It proves nothing of any program. -/
import Derived.Test.YtmpdhpfimmahfaaDoorBv30
import Derived.Shelf.Strings.Repeat
namespace Go.Proofs.YtmpdhpfimmahfaaDoorBv
open Go Go.RowKit Go.Proofs
set_option linter.unusedVariables false
set_option linter.unusedSimpArgs false
def repeat? (s : List UInt8) (c : Int) : Option (List UInt8) := if 0 ≤ c ∧ c ≤ 9223372036854775807 ∧ s.length * c.toNat ≤ 140737488355328 then some (Lib.repeatL s c.toNat) else none
theorem repeat_ok {P : Program} {ρ : Shelf.Ren} {Γ : Glob} (L : Lays.n105 P ρ) (X : Builder.Extra P ρ) {s r : List UInt8} {c : Int} (h : repeat? s c = some r) :
    CPure P Γ (ρ.f 105) [.c (.str s), .c (.val (.int .i64 c))] (.c (.str r)) := by
  unfold repeat? at h
  split at h
  · rename_i hn
    cases h
    refine cpure_of fun E w μ κ cargs H hsz hrel => ?_
    obtain ⟨b, rfl, e0⟩ := relS (hrel 0 _ rfl)
    have e1 := relI (hrel 1 _ rfl)
    have hu : b.data.toList.length = b.size := rfl
    obtain ⟨m, rfl⟩ : ∃ m : Nat, c = m := ⟨c.toNat, by omega⟩
    rw [arr2 hsz, e0, e1]
    refine (Any.strings_Repeat L X b m w (by omega) (by simpa [hu] using hn.2.2)).mono ?_
    rintro e w' ⟨rfl, hB⟩
    exact ⟨_, rfl, fun K => .c (.str (by simp)), below_grown hB⟩
  · cases h
end Go.Proofs.YtmpdhpfimmahfaaDoorBv
