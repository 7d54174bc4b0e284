/- The calculus: strings.Count at one byte, by the shelf's contract. It proves nothing of any program. -/
import Derived.Test.YtaejmblphhjccabGreatDoorBv27
import Derived.Shelf.Strings.Count
namespace Go.Proofs.YtaejmblphhjccabGreatDoorBv
open Go
set_option linter.unusedVariables false
def count1? (s t : List UInt8) : Option Int := match t with
  | [c] => some ((Lib.countByte s c : Nat) : Int)
  | _ => none
theorem count1_ok {P : Program} {ρ : Shelf.Ren} {Γ : Glob} (L : Lays.n138 P ρ) {s t : List UInt8} {r : Int} (h : count1? s t = some r) :
    CPure P Γ (ρ.f 138) [.c (.str s), .c (.str t)] (.c (.val (.int .i64 r))) := by
  unfold count1? at h
  split at h
  · rename_i c
    cases h
    refine cpure_of fun E w μ κ cargs H hsz hrel => ?_
    obtain ⟨b, rfl, e0⟩ := relS (hrel 0 _ rfl)
    obtain ⟨⟨⟨l⟩⟩, e2, e1⟩ := relS (hrel 1 _ rfl)
    have e2 : l = [c] := e2
    subst e2
    rw [arr2 hsz, e0, e1]
    refine (Any.strings_Count_one L b c w).mono ?_
    rintro e w' ⟨rfl, rfl⟩
    exact ⟨_, rfl, fun K => .c (.val rfl), same_world⟩
  · cases h
end Go.Proofs.YtaejmblphhjccabGreatDoorBv
