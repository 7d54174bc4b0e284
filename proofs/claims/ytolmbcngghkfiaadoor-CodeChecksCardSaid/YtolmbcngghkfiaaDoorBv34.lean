/- The calculus: strings.Fields of a text of ASCII, by the shelf's contract. It proves nothing of any program. -/
import Derived.Test.YtolmbcngghkfiaaDoorBv27
import Derived.Shelf.Strings.Fields
namespace Go.Proofs.YtolmbcngghkfiaaDoorBv
open Go Go.RowKit
set_option linter.unusedVariables false
set_option linter.unusedSimpArgs false
def fields? (s : List UInt8) : Option (List (List UInt8)) := if s.length < 4294967281 ∧ s.all (fun b => decide (b.toNat < 128)) = true then some (Lib.fields s) else none
theorem fields_ok {P : Program} {ρ : Shelf.Ren} {Γ : Glob} (L : Lays.n157 P ρ) (hi9 : (P.info? (ρ.t 9)).map (fun i => (i.zero, i.size, i.bytes)) = some (some (.string ByteArray.empty), 1, 16)) (hg : P.globalNamed "strings.asciiSpace" = some (ρ.g 0))
    (hc : Γ (ρ.g 0) = Lib.asciiSpaceTab.map fun z => .val (.int .u8 z)) {s : List UInt8} {r : List (List UInt8)} (h : fields? s = some r) :
    ACalls P Γ (ρ.f 157) [.c (.str s)] (fun _ => none) 0 (fun v h' n' => ∃ z : Bool, (z = true → r = []) ∧ v = lstV z 0 1 r.length ∧ (h' = (upd (fun _ => none) 0 (lstB z 1 (r.map eStr)))) ∧ n' = 1) := by
  unfold fields? at h
  split at h
  · rename_i hn
    cases h
    intro E w μ κ cargs H hsz hrel
    obtain ⟨b, hb, e0⟩ := relS (hrel 0 _ rfl)
    subst hb
    have hbl : b.data.toList.length = b.size := rfl
    rw [arr1 hsz, e0]
    refine (Any.strings_Fields L hi9 hg b w (by omega) (fun j x hx => ?_) (tab_is H hg (by decide) hc)).mono ?_
    · have := List.all_eq_true.1 hn.2 x (List.mem_of_getElem? hx)
      simpa using this
    rintro e w' ⟨rfl, rfl⟩
    generalize Lib.fields b.data.toList = l
    obtain ⟨μ', κ', h1, h2, h3⟩ := new_row0 H (T := ρ.t 9) (C := (l.map fun l => Value.string ⟨l.toArray⟩).toArray) (es := l.map eStr) (sz := 1) ⟨fun i _ => by simp, fun h => absurd rfl h⟩ (by simp) (fun K i e he => by
      rw [List.getElem?_map] at he
      cases hx : l[i]? with
      | none => rw [hx] at he; cases he
      | some x =>
        rw [hx] at he
        cases he
        refine ⟨rfl, fun j y hy => ?_⟩
        cases j with
        | zero =>
          cases hy
          refine ⟨.string ⟨x.toArray⟩, ?_, .str (by simp)⟩
          simp [hx]
        | succ j => simp [eStr] at hy)
    have e2 : (l.map eStr).length = l.length := by simp
    rw [e2] at h3
    exact ⟨_, _, _, _, μ', κ', rfl, ⟨false, (fun h => by cases h), rfl, rfl, rfl⟩, h1, h2, h3⟩
  · cases h
end Go.Proofs.YtolmbcngghkfiaaDoorBv
