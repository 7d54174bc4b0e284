/- Numbers with units, as the program reads them. No program is in sight. -/
import Derived.Test.YteldbcjjojjjiaaDoorCutTDimTells
namespace Go.Proofs.YteldbcjjojjjiaaDoorBv
open Go
set_option linter.unusedSimpArgs false
set_option linter.unusedVariables false
def unitsL : List (List UInt8) := [[], [112, 120], [101, 109], [114, 101, 109], [118, 119], [118, 104], [37]]
def dimOfL (l : List TSToken) : Option TSDim := match l with
  | [t] => if t.Kind = 7 ∧ t.Value ∈ unitsL then some ⟨t.Num, t.Value⟩ else none
  | _ => none
def idxF : List (List UInt8) → List UInt8 → Int → Int
  | [], _, _ => -1
  | x :: r, v, i => if v = x then i else idxF r v (i + 1)
theorem idxF_mem : ∀ (l : List (List UInt8)) (v : List UInt8) (i : Int), 0 ≤ i → (0 ≤ idxF l v i ↔ v ∈ l)
  | [], v, i, h => by simp [idxF]
  | x :: r, v, i, h => by
    unfold idxF
    have := idxF_mem r v (i + 1) (by omega)
    by_cases hv : v = x
    · rw [if_pos hv]; simp [hv, h]
    · rw [if_neg hv, this]; simp [hv]
theorem sidx_l0 (l : List (List UInt8)) (v : List UInt8) (hl : l.length ≤ 1000) : ∀ (N i : Nat), l.length - i < N → i ≤ l.length → slices_Index_string_l0 l v (fun _ => some (-1)) N (i : Int) = some (idxF (l.drop i) v i)
  | 0, i, hN, hi => by omega
  | N + 1, i, hN, hi => by
    rw [slices_Index_string_l0]
    by_cases h : i < l.length
    · rw [if_pos (by simp only [decide_eq_true_eq]; omega), at_some h, Option.bind_some, wi_id (by omega) (by omega), show (i : Int) + 1 = ((i + 1 : Nat) : Int) by omega, List.drop_eq_getElem_cons h, sidx_l0 l v hl N (i + 1) (by omega) (by omega), idxF]
      by_cases hv : v = l[i]
      · rw [if_pos (by simpa using hv), if_pos hv]
      · rw [if_neg (by simpa using hv), if_neg hv, show (i : Int) + 1 = ((i + 1 : Nat) : Int) by omega]
    · rw [if_neg (by simp only [decide_eq_true_eq]; omega), List.drop_eq_nil_of_le (by omega)]
      rfl
theorem contains_eq (l : List (List UInt8)) (v : List UInt8) (hl : l.length ≤ 1000) : slices_Contains_string l v = some (decide (v ∈ l)) := by
  unfold slices_Contains_string slices_Index_string
  have e : lim (fun kk => slices_Index_string_l0 l v (fun _ => some (-1)) kk 0) = some (idxF (l.drop 0) v 0) := lim_of (l.length + 1) fun k hk => sidx_l0 l v hl k 0 (by omega) (by omega)
  rw [e, Option.bind_some, List.drop_zero]
  congr 1
  rw [Bool.eq_iff_iff]
  simpa using idxF_mem l v 0 (Int.le_refl _)
theorem read_eq {s : List UInt8} (hl : s.length < 4294967281) : dim_Read s = some (match dimOfL (cutS s) with | some d => (d, 0) | none => (⟨0, []⟩, 4)) := by
  unfold dim_Read dim_Read_j1
  rw [cut_eq hl, Option.bind_some]
  match cutS s with
  | [] => rfl
  | [t] =>
    have h0 : at? [t] 0 = some t := rfl
    simp only [h0, Option.bind_some]
    rw [if_neg (show ¬ ((!decide ((([t] : List TSToken).length : Int) = 1)) = true) by simp)]
    simp only [dimOfL]
    by_cases hk : t.Kind = 7
    · rw [if_neg (by simp [hk]), show gl0 = unitsL from rfl, contains_eq _ _ (by decide), Option.bind_some]
      by_cases hv : t.Value ∈ unitsL
      · rw [if_neg (by simp [hv]), if_pos ⟨hk, hv⟩]
      · have n1 : ¬ (t.Kind = 7 ∧ t.Value ∈ unitsL) := fun h => hv h.2
        rw [if_pos (by simp [hv]), if_neg n1]
    · have n1 : ¬ (t.Kind = 7 ∧ t.Value ∈ unitsL) := fun h => hk h.1
      rw [if_pos (show (!decide (t.Kind = 7)) = true by simp [hk]), if_neg n1]
      rfl
  | a :: b :: r =>
    rw [if_pos (by simp; omega)]
    rfl
theorem half_eq : clerestorylaw2_half = some true := by
  unfold clerestorylaw2_half
  have hc : cutS [49, 46, 53, 48, 101, 109] = [⟨7, [49, 46, 53, 48, 101, 109], [101, 109], 1500⟩] := by decide +kernel
  rw [read_eq (by decide), Option.bind_some, hc]
  decide
end Go.Proofs.YteldbcjjojjjiaaDoorBv
