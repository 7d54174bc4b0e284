/- The law of tokens' texts, over plain values. No program is in sight. -/
import Derived.Test.YtdmmjgjmfpalhaaDoorCutAllTokenTexts
import Derived.Test.YtdmmjgjmfpalhaaDoorBv31
namespace Go.Proofs.YtdmmjgjmfpalhaaDoorBv
open Go
set_option linter.unusedSimpArgs false
set_option linter.unusedVariables false
def rawsL (l : List TSToken) : List UInt8 := l.flatMap (·.Raw)
theorem raws_bulk (l : List TSToken) : (rawsL l).length + l.length ≤ bulkE (l.map e_TSToken) := by
  induction l with
  | nil => simp [rawsL, bulkE]
  | cons x r ih =>
    simp only [rawsL, List.flatMap_cons, List.length_append, List.length_cons, List.map_cons, bulkE, e_TSToken, bulkL, bulkC] at ih ⊢
    omega
theorem take_raws {l : List TSToken} {i : Nat} (h : i < l.length) : rawsL (l.take (i + 1)) = rawsL (l.take i) ++ l[i].Raw := by
  have e : l.take (i + 1) = l.take i ++ [l[i]] := by rw [List.take_add_one, List.getElem?_eq_getElem h]; rfl
  unfold rawsL
  rw [e, List.flatMap_append, List.flatMap_cons, List.flatMap_nil, List.append_nil]
theorem take_raws_le (l : List TSToken) (i : Nat) : (rawsL (l.take i)).length ≤ (rawsL l).length := by
  have : rawsL l = rawsL (l.take i) ++ rawsL (l.drop i) := by
    unfold rawsL
    rw [← List.flatMap_append, List.take_append_drop]
  rw [this, List.length_append]
  omega
theorem ctext_l0 (l : List TSToken) (hl : (rawsL l).length + l.length ≤ 140737488355328) : ∀ (N i : Nat), l.length - i < N → i ≤ l.length → csstok_Text_l0 l (fun b => some b) N (rawsL (l.take i)) (i : Int) = some (rawsL l)
  | 0, i, hN, hi => by omega
  | N + 1, i, hN, hi => by
    rw [csstok_Text_l0]
    by_cases h : i < l.length
    · have h1 := take_raws h
      have h2 := take_raws_le l (i + 1)
      have hw : strings_Builder_WriteString (rawsL (l.take i)) l[i].Raw = some (rawsL (l.take (i + 1))) := by
        show bWriteString? _ _ = _
        unfold bWriteString?
        rw [h1, List.length_append] at h2
        rw [if_pos (by omega), h1]
      rw [if_pos (by simp only [decide_eq_true_eq]; omega), at_some h, Option.bind_some, hw, Option.bind_some, wi_id (by omega) (by omega), show (i : Int) + 1 = ((i + 1 : Nat) : Int) by omega]
      exact ctext_l0 l hl N (i + 1) (by omega) (by omega)
    · rw [if_neg (by simp only [decide_eq_true_eq]; omega), List.take_of_length_le (by omega)]
theorem ctext_eq {l : List TSToken} (hl : (rawsL l).length + l.length ≤ 140737488355328) : csstok_Text l = some (rawsL l) := by
  unfold csstok_Text
  exact lim_of (l.length + 1) fun k hk => ctext_l0 l hl k 0 (by omega) (by omega)
theorem law_l0 (l : List TSToken) (b : Bool) (K : List UInt8 → Option Bool) (hl : (rawsL l).length + l.length ≤ 140737488355328) : ∀ (N i : Nat), l.length - i < N → i ≤ l.length → clerestorylaw2_TokenTexts_l0 l b K N (rawsL (l.take i)) (i : Int) = K (rawsL l)
  | 0, i, hN, hi => by omega
  | N + 1, i, hN, hi => by
    rw [clerestorylaw2_TokenTexts_l0]
    by_cases h : i < l.length
    · have h1 := take_raws h
      have h2 := take_raws_le l (i + 1)
      rw [h1, List.length_append] at h2
      rw [if_pos (by simp only [decide_eq_true_eq]; omega), at_some h, Option.bind_some, catq (by omega), ← h1, Option.bind_some, wi_id (by omega) (by omega), show (i : Int) + 1 = ((i + 1 : Nat) : Int) by omega]
      exact law_l0 l b K hl N (i + 1) (by omega) (by omega)
    · rw [if_neg (by simp only [decide_eq_true_eq]; omega), List.take_of_length_le (by omega)]
theorem pureTokenTexts : PureTokenTexts := by
  intro l _ hb
  have hl : (rawsL l).length + l.length ≤ 140737488355328 := by
    have h1 := raws_bulk l
    simp only [bulkVs, bulkV, bulkC] at hb
    omega
  unfold clerestorylaw2_TokenTexts
  rw [cutFact_eq, Option.bind_some]
  refine lim_of (l.length + 1) fun k hk => ?_
  have := law_l0 l true (fun s_1 => if true then (csstok_Text l).bind fun r_2 => clerestorylaw2_TokenTexts_j1 (decide (r_2 = s_1)) else clerestorylaw2_TokenTexts_j1 false) hl k 0 (by omega) (by omega)
  refine this.trans ?_
  rw [if_pos rfl, ctext_eq hl, Option.bind_some]
  simp [clerestorylaw2_TokenTexts_j1]
end Go.Proofs.YtdmmjgjmfpalhaaDoorBv
