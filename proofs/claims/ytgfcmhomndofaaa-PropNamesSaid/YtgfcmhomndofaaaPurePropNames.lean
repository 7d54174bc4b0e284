/- The law of the properties' names, over plain values. No program is in sight. -/
import Derived.Test.YtgfcmhomndofaaaShPropNames
import Derived.Test.YtgfcmhomndofaaaBv23
namespace Go.Proofs.YtgfcmhomndofaaaBv
open Go
set_option linter.unusedSimpArgs false
set_option linter.unusedVariables false
set_option maxRecDepth 100000
abbrev rows : List Trow := prop_firsts_t4 ++ prop_seconds_t2 ++ prop_thirds_t9
theorem names_rows : rows.map (·.f_name) = clerestoryref2_PropNames := by decide +kernel
theorem names_len : clerestoryref2_PropNames.length = 59 := by decide +kernel
theorem names_nodup : clerestoryref2_PropNames.Nodup := by decide +kernel
theorem at_eq (k : Nat) (hk : k < 59) : prop_at (k : Int) = rows[k]? := by
  have l1 : prop_firsts_t4.length = 20 := by decide +kernel
  have l2 : prop_seconds_t2.length = 20 := by decide +kernel
  unfold prop_at prop_firsts prop_seconds prop_thirds
  by_cases h1 : k < 20
  · rw [if_pos (by simp only [decide_eq_true_eq]; omega), at_nat]
    rw [show rows[k]? = prop_firsts_t4[k]? from by show (prop_firsts_t4 ++ prop_seconds_t2 ++ prop_thirds_t9)[k]? = _; rw [List.append_assoc, List.getElem?_append_left (by omega)]]
    cases prop_firsts_t4[k]? <;> rfl
  · rw [if_neg (by simp only [decide_eq_true_eq]; omega)]
    by_cases h2 : k < 40
    · rw [if_pos (by simp only [decide_eq_true_eq]; omega), wi_id (by omega) (by omega), show (k : Int) - 20 = ((k - 20 : Nat) : Int) by omega, at_nat]
      rw [show rows[k]? = prop_seconds_t2[k - 20]? from by show (prop_firsts_t4 ++ prop_seconds_t2 ++ prop_thirds_t9)[k]? = _; rw [List.getElem?_append_left (by rw [List.length_append]; omega), List.getElem?_append_right (by omega), l1]]
      cases prop_seconds_t2[k - 20]? <;> rfl
    · rw [if_neg (by simp only [decide_eq_true_eq]; omega), wi_id (by omega) (by omega), show (k : Int) - 40 = ((k - 40 : Nat) : Int) by omega, at_nat]
      rw [show rows[k]? = prop_thirds_t9[k - 40]? from by show (prop_firsts_t4 ++ prop_seconds_t2 ++ prop_thirds_t9)[k]? = _; rw [List.getElem?_append_right (by rw [List.length_append]; omega), List.length_append, l1, l2]]
      cases prop_thirds_t9[k - 40]? <;> rfl
theorem at_name (k : Nat) (hk : k < 59) : ∃ r, prop_at (k : Int) = some r ∧ clerestoryref2_PropNames[k]? = some r.f_name := by
  rw [at_eq k hk]
  have hl : rows.length = 59 := by rw [← names_len, ← names_rows, List.length_map]
  refine ⟨rows[k], List.getElem?_eq_getElem (by omega), ?_⟩
  rw [← names_rows, List.getElem?_map, List.getElem?_eq_getElem (by omega)]
  rfl
theorem name_in (k : Nat) (hk : k < 59) : prop_Name (k : Int) = clerestoryref2_PropNames[k]? := by
  obtain ⟨r, h1, h2⟩ := at_name k hk
  unfold prop_Name prop_in
  rw [if_neg (by simp; omega), h1, h2]
  rfl
theorem name_out (p : Int) (hp : ¬ (0 ≤ p ∧ p < 59)) : prop_Name p = some [] := by
  unfold prop_Name prop_in
  rw [if_pos (by simp; omega)]
/-- the first place of a name -/
theorem number_loop (s : List UInt8) (K : Unit → Option (Int × Bool)) : ∀ (d i : Nat), i + d = 59 → ∀ k, prop_Number_l0 s K (k + d + 1) (i : Int) = match (clerestoryref2_PropNames.drop i).findIdx? (· == s) with
    | some j => some (((i + j : Nat) : Int), true)
    | none => K ()
  | 0, i, hi, k => by
    obtain rfl : i = 59 := by omega
    rw [prop_Number_l0, if_neg (by decide), List.drop_of_length_le (by rw [names_len]; omega)]
    rfl
  | d + 1, i, hi, k => by
    obtain ⟨r, h1, h2⟩ := at_name i (by omega)
    obtain ⟨hlt, h3⟩ := List.getElem?_eq_some_iff.1 h2
    rw [prop_Number_l0, if_pos (by simp only [decide_eq_true_eq]; omega), h1, Option.bind_some, wi_id (by omega) (by omega), List.drop_eq_getElem_cons hlt, h3, List.findIdx?_cons]
    by_cases he : r.f_name = s
    · simp [he]
    · have := number_loop s K d (i + 1) (by omega) k
      rw [show ((i : Int) + 1) = ((i + 1 : Nat) : Int) by omega, show k + (d + 1) = k + d + 1 by omega, this]
      simp only [he, decide_false, Bool.false_eq_true, if_false, beq_eq_false_iff_ne.2 he]
      cases (clerestoryref2_PropNames.drop (i + 1)).findIdx? (· == s) with
      | none => rfl
      | some j => simp only [Option.map_some]; congr 3; omega
theorem number_eq (s : List UInt8) : prop_Number s = match clerestoryref2_PropNames.findIdx? (· == s) with
    | some j => some ((j : Int), true)
    | none => some (0, false) := by
  unfold prop_Number
  refine lim_add 60 fun k => ?_
  have := number_loop s (fun _ => some (0, false)) 59 0 rfl k
  rw [show k + 59 + 1 = k + 60 by omega, List.drop_zero] at this
  simp only [Nat.zero_add] at this
  exact this
theorem in_loop (l : List (List UInt8)) (s : List UInt8) (K : Unit → Option Bool) (hl : l.length < 1000) : ∀ (d i : Nat), i + d = l.length → ∀ k, clerestoryref2_In_l0 l s K (k + d + 1) (i : Int) = if s ∈ l.drop i then some true else K ()
  | 0, i, hi, k => by
    rw [clerestoryref2_In_l0, if_neg (by simp only [decide_eq_true_eq]; omega), List.drop_of_length_le (by omega)]
    simp
  | d + 1, i, hi, k => by
    have hlt : i < l.length := by omega
    rw [clerestoryref2_In_l0, if_pos (by simp only [decide_eq_true_eq]; omega), at_some hlt, Option.bind_some, wi_id (by omega) (by omega), List.drop_eq_getElem_cons hlt]
    by_cases he : l[i] = s
    · simp [he]
    · have := in_loop l s K hl d (i + 1) (by omega) k
      rw [show ((i : Int) + 1) = ((i + 1 : Nat) : Int) by omega, show k + (d + 1) = k + d + 1 by omega, this]
      have hm : s ∈ l[i] :: l.drop (i + 1) ↔ s ∈ l.drop (i + 1) := by
        simp only [List.mem_cons]
        exact ⟨fun h => h.resolve_left fun e => he e.symm, .inr⟩
      simp only [he, decide_false, Bool.false_eq_true, if_false, hm]
theorem in_eq (s : List UInt8) : clerestoryref2_In clerestoryref2_PropNames s = some (decide (s ∈ clerestoryref2_PropNames)) := by
  unfold clerestoryref2_In
  refine lim_add 60 fun k => ?_
  have := in_loop clerestoryref2_PropNames s (fun _ => some false) (by rw [names_len]; omega) 59 0 (by rw [names_len]) k
  rw [show k + 59 + 1 = k + 60 by omega, List.drop_zero] at this
  refine Eq.trans this ?_
  by_cases h : s ∈ clerestoryref2_PropNames <;> simp [h]
/-- the last place of a name, where each is there once -/
theorem law_loop (s : List UInt8) (p : Int) (r w : List UInt8) (q : Int × Bool) (K : Int → Option Bool) : ∀ (d i : Nat), i + d = 59 → ∀ k (at_ : Int), clerestorylaw2_PropNames_l0 s p r w q K (k + d + 1) at_ (i : Int) = match (clerestoryref2_PropNames.drop i).findIdx? (· == s) with
    | some j => K ((i + j : Nat) : Int)
    | none => K at_
  | 0, i, hi, k, at_ => by
    obtain rfl : i = 59 := by omega
    rw [clerestorylaw2_PropNames_l0, if_neg (by rw [names_len]; decide), List.drop_of_length_le (by rw [names_len]; omega)]
    rfl
  | d + 1, i, hi, k, at_ => by
    have hlt : i < clerestoryref2_PropNames.length := by rw [names_len]; omega
    rw [clerestorylaw2_PropNames_l0, if_pos (by simp only [decide_eq_true_eq]; omega), at_some hlt, Option.bind_some]
    simp only [clerestorylaw2_PropNames_j5]
    rw [wi_id (by omega) (by omega), show ((i : Int) + 1) = ((i + 1 : Nat) : Int) by omega, show k + (d + 1) = k + d + 1 by omega, law_loop s p r w q K d (i + 1) (by omega) k, law_loop s p r w q K d (i + 1) (by omega) k, List.drop_eq_getElem_cons hlt, List.findIdx?_cons]
    by_cases he : clerestoryref2_PropNames[i] = s
    · have hno : (clerestoryref2_PropNames.drop (i + 1)).findIdx? (· == s) = none := by
        rw [List.findIdx?_eq_none_iff]
        intro x hx
        have hnd := names_nodup.sublist (List.drop_sublist i _)
        rw [List.drop_eq_getElem_cons hlt, List.nodup_cons, he] at hnd
        simp only [beq_eq_false_iff_ne, ne_eq]
        rintro rfl
        exact hnd.1 hx
      simp [he, hno]
    · simp only [he, decide_false, Bool.false_eq_true, if_false, beq_eq_false_iff_ne.2 he]
      cases (clerestoryref2_PropNames.drop (i + 1)).findIdx? (· == s) with
      | none => rfl
      | some j => simp only [Option.map_some]; congr 1; omega
theorem purePropNames : PurePropNames := by
  intro p s _ _
  have h31 : prop_Name 31 = some [122, 45, 105, 110, 100, 101, 120] := by rw [show (31 : Int) = ((31 : Nat) : Int) from rfl, name_in 31 (by omega)]; decide +kernel
  have key : ∀ w : List UInt8, prop_Name p = some w → clerestorylaw2_PropNames_j1 s p [122, 45, 105, 110, 100, 101, 120] w = some true := by
    intro w hw
    unfold clerestorylaw2_PropNames_j1
    rw [number_eq]
    have fin : ∀ (q : Int × Bool), (match clerestoryref2_PropNames.findIdx? (· == s) with | some j => some ((j : Int), true) | none => some (0, false)) = some q →
        (lim fun kk => clerestorylaw2_PropNames_l0 s p [122, 45, 105, 110, 100, 101, 120] w q (fun (at_1 : Int) =>
          if decide (([122, 45, 105, 110, 100, 101, 120] : List UInt8) = [122, 45, 105, 110, 100, 101, 120]) then
            (prop_Name p).bind fun r_2 =>
            if ((decide (r_2 = w)) && (decide (q.1 = at_1))) then
              (clerestoryref2_In clerestoryref2_PropNames s).bind fun r_3 =>
              clerestorylaw2_PropNames_j6 ((q.2 == r_3) && true)
            else
              clerestorylaw2_PropNames_j6 false
          else
            clerestorylaw2_PropNames_j6 false) kk 0 0) = some true := by
      intro q hq
      refine lim_add 60 fun k => ?_
      refine (law_loop s p _ w q _ 59 0 rfl k 0).trans ?_
      rw [List.drop_zero, hw, in_eq]
      simp only [Nat.zero_add]
      cases hf : clerestoryref2_PropNames.findIdx? (· == s) with
      | none =>
        rw [hf] at hq
        cases hq
        have hn : s ∉ clerestoryref2_PropNames := by
          intro hm
          have := List.findIdx?_eq_none_iff.1 hf s hm
          simp at this
        simp [clerestorylaw2_PropNames_j6, hn]
      | some j =>
        rw [hf] at hq
        cases hq
        have hm : s ∈ clerestoryref2_PropNames := by
          obtain ⟨h1, h2, _⟩ := List.findIdx?_eq_some_iff_getElem.1 hf
          have : clerestoryref2_PropNames[j] = s := by simpa using h2
          rw [← this]
          exact List.getElem_mem h1
        simp [clerestorylaw2_PropNames_j6, hm]
    cases hf : clerestoryref2_PropNames.findIdx? (· == s) with
    | none =>
      have := fin (0, false) (by rw [hf])
      exact this
    | some j =>
      have := fin ((j : Int), true) (by rw [hf])
      exact this
  unfold clerestorylaw2_PropNames
  rw [h31, Option.bind_some, names_len]
  by_cases hp : 0 ≤ p ∧ p < 59
  · rw [if_pos (by simp; omega)]
    obtain ⟨n, rfl⟩ : ∃ n : Nat, p = n := ⟨p.toNat, by omega⟩
    have hlt : n < clerestoryref2_PropNames.length := by rw [names_len]; omega
    rw [at_some hlt, Option.bind_some]
    exact key _ (by rw [name_in n (by omega)]; exact List.getElem?_eq_getElem hlt)
  · rw [if_neg (by simp; omega)]
    exact key [] (name_out p hp)
end Go.Proofs.YtgfcmhomndofaaaBv
