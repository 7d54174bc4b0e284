/- The calculus: strings.Contains, by the shelf's contract. It proves nothing of any program. -/
import Derived.Test.YtaejmblphhjccaaGreatDoorBv27
namespace Go.Proofs.YtaejmblphhjccaaGreatDoorBv
open Go Go.RowKit
set_option linter.unusedVariables false
set_option linter.unusedSimpArgs false
def contains? (s t : List UInt8) : Option Bool := match t with
  | [c] => some (decide (0 ≤ Lib.indexByte s c))
  | _ => if s.length < 4294967281 then some (Lib.contains s t) else none
theorem contains_ok {P : Program} {ρ : Shelf.Ren} {Γ : Glob} {m : Int} (L : Lays.n144 P ρ) (hc : Γ (ρ.g 1) = [.val (.int .i64 m)]) {s t : List UInt8} {r : Bool} (h : contains? s t = some r) :
    CPure P Γ (ρ.f 144) [.c (.str s), .c (.str t)] (.c (.val (.bool r))) := by
  unfold contains? at h
  split at h
  · rename_i c
    exact contains1_ok L (by unfold contains1?; exact h)
  · split at h
    · rename_i hn
      cases h
      refine cpure_of fun E w μ κ cargs H hsz hrel => ?_
      obtain ⟨b, rfl, e0⟩ := relS (hrel 0 _ rfl)
      obtain ⟨u, rfl, e1⟩ := relS (hrel 1 _ rfl)
      rw [arr2 hsz, e0, e1]
      have hb : b.data.toList.length = b.size := rfl
      refine (Any.strings_Contains L b u m w (by omega) (glob_cell H hc)).mono ?_
      rintro e w' ⟨rfl, rfl⟩
      exact ⟨_, rfl, fun K => .c (.val rfl), same_world⟩
    · cases h
end Go.Proofs.YtaejmblphhjccaaGreatDoorBv
