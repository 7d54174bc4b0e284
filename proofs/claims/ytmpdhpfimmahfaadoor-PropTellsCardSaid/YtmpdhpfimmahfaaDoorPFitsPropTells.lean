/- The law of the properties' values, over plain values. No program is in sight. -/
import Derived.Test.YtmpdhpfimmahfaaDoorShPropTells
import Derived.Test.YtmpdhpfimmahfaaDoorBv23
namespace Go.Proofs.YtmpdhpfimmahfaaDoorBv
open Go
set_option linter.unusedSimpArgs false
set_option linter.unusedVariables false
theorem hasByte_loop (s : List UInt8) (c : Int) (K : Unit → Option Bool) (hs : s.length < 1000) : ∀ (d i : Nat), i + d = s.length → ∀ m, clerestoryref2_hasByte_l0 s c K (m + d + 1) (i : Int) = if (s.drop i).any (fun x => decide ((x.toNat : Int) = c)) then some true else K ()
  | 0, i, hi, m => by
    rw [clerestoryref2_hasByte_l0, if_neg (by simp only [decide_eq_true_eq]; omega), List.drop_eq_nil_of_le (by omega)]
    rfl
  | d + 1, i, hi, m => by
    have h : i < s.length := by omega
    rw [clerestoryref2_hasByte_l0, if_pos (by simp only [decide_eq_true_eq]; omega), at_some h, Option.bind_some, wi_id (by omega) (by omega), show (i : Int) + 1 = ((i + 1 : Nat) : Int) by omega, show m + (d + 1) = m + d + 1 by omega, hasByte_loop s c K hs d (i + 1) (by omega) m, List.drop_eq_getElem_cons h, List.any_cons]
    by_cases hc : ((s[i].toNat : Int) = c) <;> simp [hc]
theorem hasByte_eq (s : List UInt8) (c : Int) (hs : s.length < 1000) : clerestoryref2_hasByte s c = some (s.any fun x => decide ((x.toNat : Int) = c)) := by
  unfold clerestoryref2_hasByte
  refine lim_add (s.length + 1) fun m => ?_
  have := hasByte_loop s c (fun _ => some false) hs s.length 0 (by omega) m
  rw [← Nat.add_assoc]
  refine this.trans ?_
  rw [List.drop_zero]
  cases s.any fun x => decide ((x.toNat : Int) = c) <;> rfl
def has (x : List UInt8) (c : Int) : Bool := x.any fun y => decide ((y.toNat : Int) = c)
def rowsAll : List Trow := prop_firsts_t4 ++ prop_seconds_t2 ++ prop_thirds_t9
theorem at_eq {p : Nat} (h : p < 59) : prop_at (p : Int) = rowsAll[p]? := by
  have l1 : prop_firsts_t4.length = 20 := by decide
  have l2 : prop_seconds_t2.length = 20 := by decide
  have l3 : prop_thirds_t9.length = 19 := by decide
  unfold prop_at rowsAll
  by_cases h1 : p < 20
  · rw [if_pos (by simp only [decide_eq_true_eq]; omega), List.append_assoc, List.getElem?_append_left (by omega)]
    unfold prop_firsts
    rw [at_nat, List.getElem?_eq_getElem (by omega)]
    rfl
  · by_cases h2 : p < 40
    · rw [if_neg (by simp only [decide_eq_true_eq]; omega), if_pos (by simp only [decide_eq_true_eq]; omega), List.getElem?_append_left (by rw [List.length_append]; omega), List.getElem?_append_right (by omega), l1]
      unfold prop_seconds
      rw [wi_id (by omega) (by omega), show (p : Int) - 20 = ((p - 20 : Nat) : Int) by omega, at_nat, List.getElem?_eq_getElem (by omega)]
      rfl
    · rw [if_neg (by simp only [decide_eq_true_eq]; omega), if_neg (by simp only [decide_eq_true_eq]; omega), List.getElem?_append_right (by rw [List.length_append]; omega), List.length_append, l1, l2]
      unfold prop_thirds
      rw [wi_id (by omega) (by omega), show (p : Int) - 40 = ((p - (20 + 20) : Nat) : Int) by omega, at_nat, List.getElem?_eq_getElem (by omega)]
      rfl
def blank (s : List UInt8) : List UInt8 := if s = [45] then [] else s
def letters : List UInt8 := [107, 108, 112, 110, 99, 97]
/-- one row of both tables -/
noncomputable def chk (n : Nat) : Bool := match rowsAll[n]?, clerestoryref2_PropKinds_t0[n]? with
  | some r, some x => decide (x.length < 1000) && ((r.f_above == has x 48) && ((letters.all fun c => decide (0 ≤ Lib.indexByte r.f_kinds c) == has x (c.toNat : Int)) && (decide (r.f_keys.length < 4294967281) && (!has x 107 || match clerestoryref2_PropKeys (n : Int) with
    | some l => decide ((splitL r.f_keys [32]).map blank = l)
    | none => false))))
  | _, _ => false
theorem all_rows : ((List.range 59).all chk) = true := by decide +kernel
theorem no_mark : ((List.range 59).all fun n => match rowsAll[n]? with
  | some r => !decide (0 ≤ Lib.indexByte r.f_kinds 63)
  | none => false) = true := by decide +kernel
theorem fits_eq {p : Nat} (h : p < 59) (v : TVal) (hv : -9223372036854775808 ≤ v.N ∧ v.N ≤ 9223372036854775807) : ∃ b, prop_Fits (p : Int) v = some b ∧ clerestoryref2_ValMay (p : Int) v = some b := by
  have hall := List.all_eq_true.1 all_rows p (List.mem_range.2 h)
  unfold chk at hall
  split at hall
  · rename_i r x h1 h2
    simp only [Bool.and_eq_true, decide_eq_true_eq, beq_iff_eq] at hall
    obtain ⟨hl, habove, hlet, hkl, hkeys⟩ := hall
    have hrow : prop_at (p : Int) = some r := by rw [at_eq h, h1]
    have hin : prop_in (p : Int) = true := by unfold prop_in; simp; omega
    unfold prop_Fits clerestoryref2_ValMay
    rw [hin, if_neg (by decide), hrow, Option.bind_some]
    by_cases hk : 1 ≤ v.Kind ∧ v.Kind ≤ 6
    · rw [if_neg (by simp; omega)]
      unfold clerestoryref2_PropKinds
      rw [Option.bind_some, at_nat, h2, Option.bind_some]
      -- the letter of the kind
      obtain ⟨c, hc1, hc2, hc3, hck⟩ : ∃ c : UInt8, prop_letter v.Kind = some [c] ∧ at? ([107, 108, 112, 110, 99, 97] : List UInt8) (wi (v.Kind - 1)) = some c ∧ c ∈ letters ∧ (v.Kind = 1 → c = 107) := by
        rcases (show v.Kind = 1 ∨ v.Kind = 2 ∨ v.Kind = 3 ∨ v.Kind = 4 ∨ v.Kind = 5 ∨ v.Kind = 6 by omega) with e | e | e | e | e | e <;> rw [e]
        · exact ⟨107, rfl, rfl, by decide, fun _ => rfl⟩
        · exact ⟨108, rfl, rfl, by decide, fun h => by cases h⟩
        · exact ⟨112, rfl, rfl, by decide, fun h => by cases h⟩
        · exact ⟨110, rfl, rfl, by decide, fun h => by cases h⟩
        · exact ⟨99, rfl, rfl, by decide, fun h => by cases h⟩
        · exact ⟨97, rfl, rfl, by decide, fun h => by cases h⟩
      have hcl := List.all_eq_true.1 hlet c hc3
      rw [beq_iff_eq] at hcl
      have hcont : strings_Contains r.f_kinds [c] = some (has x (c.toNat : Int)) := by
        show some (decide (0 ≤ Lib.indexByte r.f_kinds c)) = _
        rw [hcl]
      rw [hc1, Option.bind_some, hcont, Option.bind_some, hc2, Option.bind_some, hasByte_eq _ _ hl, Option.bind_some]
      rw [show (x.any fun y => decide ((y.toNat : Int) = (c.toNat : Int))) = has x (c.toNat : Int) from rfl]
      cases hhas : has x (c.toNat : Int) with
      | false =>
        refine ⟨false, ?_, ?_⟩
        · unfold prop_Fits_j1
          simp
        · simp
      | true =>
        unfold prop_Fits_j1
        rw [if_neg (by decide), if_neg (by decide), hrow, Option.bind_some]
        by_cases k1 : v.Kind = 1
        · rw [if_pos (by simpa using k1), if_pos (by simpa using k1)]
          have := hck k1
          subst this
          have hh : has x 107 = true := hhas
          rw [hh] at hkeys
          simp only [Bool.not_true, Bool.false_or] at hkeys
          split at hkeys
          · rename_i l hl2
            have hkeys := of_decide_eq_true hkeys
            rw [hl2, Option.bind_some]
            have hs : strings_Split r.f_keys [32] = some (splitL r.f_keys [32]) := by
              show split? r.f_keys [32] = _
              unfold split?
              rw [if_pos ⟨hkl, by decide⟩]
            unfold prop_key prop_key_j1 clerestoryref2_ValMay_j1
            rw [hs, Option.bind_some]
            have hlen : (splitL r.f_keys [32]).length = l.length := by rw [← hkeys, List.length_map]
            by_cases hb : 0 ≤ v.N ∧ v.N < (l.length : Int)
            · obtain ⟨m, hm⟩ : ∃ m : Nat, v.N = m := ⟨v.N.toNat, by omega⟩
              have hm1 : m < (splitL r.f_keys [32]).length := by omega
              have hm2 : m < l.length := by omega
              have e1 : l[m] = blank (splitL r.f_keys [32])[m] := by
                have e2 : l[m]? = ((splitL r.f_keys [32]).map blank)[m]? := by rw [hkeys]
                rw [List.getElem?_map, List.getElem?_eq_getElem hm1, List.getElem?_eq_getElem hm2] at e2
                exact Option.some.inj e2
              rw [if_neg (by simp; omega), if_pos (by simp; omega), hm, at_some hm1, at_some hm2, Option.bind_some, Option.bind_some, e1]
              unfold blank
              by_cases hd : (splitL r.f_keys [32])[m] = [45]
              · refine ⟨false, ?_, ?_⟩
                · rw [if_pos (by simpa using hd)]; rfl
                · rw [if_pos hd]; rfl
              · refine ⟨!decide ((splitL r.f_keys [32])[m] = []), ?_, ?_⟩
                · rw [if_neg (by simpa using hd)]; rfl
                · rw [if_neg hd]; rfl
            · refine ⟨false, ?_, ?_⟩
              · rw [if_pos (by simp; omega), if_pos rfl]; rfl
              · rw [if_neg (by simp; omega)]
          · cases hkeys
        have n1 : ¬ (decide (v.Kind = 1) = true) := by simpa using k1
        rw [if_neg n1, if_neg n1]
        by_cases k6 : v.Kind = 6
        · have n6 : decide (v.Kind = 6) = true := by simpa using k6
          rw [if_pos n6, if_pos n6]
          exact ⟨_, rfl, rfl⟩
        have n6 : ¬ (decide (v.Kind = 6) = true) := by simpa using k6
        rw [if_neg n6, if_neg n6]
        by_cases k5 : v.Kind = 5
        · have n5 : decide (v.Kind = 5) = true := by simpa using k5
          rw [if_pos n5, if_pos n5]
          refine ⟨_, rfl, ?_⟩
          congr 2
          rw [Bool.eq_iff_iff]
          simp
          omega
        have n5 : ¬ (decide (v.Kind = 5) = true) := by simpa using k5
        rw [if_neg n5, if_neg n5]
        have h48 : clerestoryref2_hasByte x 48 = some r.f_above := by
          rw [hasByte_eq _ _ hl, habove]
          rfl
        rw [h48, Option.bind_some]
        -- the numbers' bounds
        unfold prop_Fits_j2 prop_Fits_j6 prop_Fits_j5 clerestoryref2_ValMay_j2
        have habove37 : p = 37 → r.f_above = true := by rintro rfl; cases h1; rfl
        simp only [decide_eq_true_eq]
        by_cases p37 : (p : Int) = 37
        · have ha := habove37 (by omega)
          rw [ha, if_pos rfl, if_pos p37, if_neg (by simp; omega)]
          refine ⟨_, rfl, ?_⟩
          by_cases hn : v.N < 0
          · rw [if_pos (by simpa using hn)]
            congr 1
            rw [eq_comm, Bool.and_eq_false_iff]
            left
            simp
            omega
          · rw [if_neg (by simpa using hn)]
            by_cases hn2 : v.N < 64
            · rw [if_pos (by simp only [Bool.or_eq_true, Bool.and_eq_true, decide_eq_true_eq]; omega)]
              congr 1
              rw [eq_comm, Bool.and_eq_false_iff]
              left
              simp
              omega
            · rw [if_neg (by simp only [Bool.or_eq_true, Bool.and_eq_true, decide_eq_true_eq]; omega)]
              congr 1
              rw [Bool.eq_iff_iff]
              simp
              omega
        have go : ∀ low : Int, (low = if r.f_above = true then 0 else -16777216) → ∃ b, (if (p : Int) = 34 then some (decide (low ≤ v.N) && decide (v.N ≤ 1000)) else if (p : Int) = 31 then (if (p : Int) = 31 then if (!decide (v.N.tmod 1000 = 0)) = true then some false else some (decide (low ≤ v.N) && decide (v.N ≤ 16777216)) else some (decide (low ≤ v.N) && decide (v.N ≤ 16777216))) else (if (p : Int) = 53 then if (!decide (v.N.tmod 1000 = 0)) = true then some false else some (decide (low ≤ v.N) && decide (v.N ≤ 16777216)) else some (decide (low ≤ v.N) && decide (v.N ≤ 16777216)))) = some b ∧
            (if ((decide ((p : Int) = 31) || decide ((p : Int) = 53)) && !decide (v.N.tmod 1000 = 0)) = true then (if true = true then some false else (if (decide ((p : Int) = 34) && decide (1000 < v.N) || decide ((p : Int) = 37) && decide (v.N < 64)) = true then some false else some (decide (-16777216 ≤ v.N) && decide (v.N ≤ 16777216)))) else (if (r.f_above && decide (v.N < 0)) = true then some false else (if (decide ((p : Int) = 34) && decide (1000 < v.N) || decide ((p : Int) = 37) && decide (v.N < 64)) = true then some false else some (decide (-16777216 ≤ v.N) && decide (v.N ≤ 16777216))))) = some b := by
          intro low hlow
          by_cases p34 : (p : Int) = 34
          · rw [if_pos p34, if_neg (by simp; omega)]
            refine ⟨_, rfl, ?_⟩
            cases ha : r.f_above with
            | true =>
              rw [ha] at hlow
              simp at hlow
              subst hlow
              by_cases hn : v.N < 0
              · rw [if_pos (by simpa using hn)]
                simp; omega
              · rw [if_neg (by simpa using hn)]
                by_cases hn2 : 1000 < v.N
                · rw [if_pos (by simp only [Bool.or_eq_true, Bool.and_eq_true, decide_eq_true_eq]; omega)]; simp; omega
                · rw [if_neg (by simp only [Bool.or_eq_true, Bool.and_eq_true, decide_eq_true_eq]; omega)]; congr 1; rw [Bool.eq_iff_iff]; simp; omega
            | false =>
              rw [ha] at hlow
              simp at hlow
              subst hlow
              rw [if_neg (by simp)]
              by_cases hn2 : 1000 < v.N
              · rw [if_pos (by simp only [Bool.or_eq_true, Bool.and_eq_true, decide_eq_true_eq]; omega)]; simp; omega
              · rw [if_neg (by simp only [Bool.or_eq_true, Bool.and_eq_true, decide_eq_true_eq]; omega)]; congr 1; rw [Bool.eq_iff_iff]; simp; omega
          · rw [if_neg p34]
            have hrest : (if (r.f_above && decide (v.N < 0)) = true then some false else (if (decide ((p : Int) = 34) && decide (1000 < v.N) || decide ((p : Int) = 37) && decide (v.N < 64)) = true then some false else some (decide (-16777216 ≤ v.N) && decide (v.N ≤ 16777216)))) = some (decide (low ≤ v.N) && decide (v.N ≤ 16777216)) := by
              rw [if_neg (c := (decide ((p : Int) = 34) && decide (1000 < v.N) || decide ((p : Int) = 37) && decide (v.N < 64)) = true) (by simp only [Bool.or_eq_true, Bool.and_eq_true, decide_eq_true_eq]; omega)]
              cases ha : r.f_above with
              | true =>
                rw [ha] at hlow
                simp at hlow
                subst hlow
                by_cases hn : v.N < 0
                · rw [if_pos (by simpa using hn)]; simp; omega
                · rw [if_neg (by simpa using hn)]; congr 1; rw [Bool.eq_iff_iff]; simp; omega
              | false =>
                rw [ha] at hlow
                simp at hlow
                subst hlow
                rw [if_neg (by simp)]
            rw [hrest]
            by_cases p31 : (p : Int) = 31
            · rw [if_pos p31, if_pos p31]
              by_cases ht : v.N.tmod 1000 = 0
              · exact ⟨_, by rw [if_neg (by simpa using ht)], by rw [if_neg (by simp [ht])]⟩
              · exact ⟨_, by rw [if_pos (by simpa using ht)], by rw [if_pos (by simp [p31, ht]), if_pos rfl]⟩
            · rw [if_neg p31]
              by_cases p53 : (p : Int) = 53
              · rw [if_pos p53]
                by_cases ht : v.N.tmod 1000 = 0
                · exact ⟨_, by rw [if_neg (by simpa using ht)], by rw [if_neg (by simp [ht])]⟩
                · exact ⟨_, by rw [if_pos (by simpa using ht)], by rw [if_pos (by simp [p53, ht]), if_pos rfl]⟩
              · rw [if_neg p53]
                exact ⟨_, rfl, by rw [if_neg (by simp; omega)]⟩
        rw [if_neg p37, if_neg p37]
        cases ha : r.f_above with
        | true =>
          obtain ⟨b, g1, g2⟩ := go 0 (by rw [ha]; rfl)
          rw [ha] at g2
          exact ⟨b, by rw [if_pos rfl]; exact g1, g2⟩
        | false =>
          obtain ⟨b, g1, g2⟩ := go (-16777216) (by rw [ha]; rfl)
          rw [ha] at g2
          exact ⟨b, by rw [if_neg (by decide)]; exact g1, g2⟩
    · rw [if_pos (by simp; omega)]
      have hlt : prop_letter v.Kind = some [63] := by
        unfold prop_letter
        rw [if_pos (by simp; omega)]
      have hc : strings_Contains r.f_kinds [63] = some false := by
        show some (decide (0 ≤ Lib.indexByte r.f_kinds 63)) = _
        have h63 := List.all_eq_true.1 no_mark p (List.mem_range.2 h)
        rw [h1] at h63
        simpa using h63
      rw [hlt, Option.bind_some, hc, Option.bind_some]
      refine ⟨false, ?_, rfl⟩
      unfold prop_Fits_j1
      simp
  · cases hall
end Go.Proofs.YtmpdhpfimmahfaaDoorBv
