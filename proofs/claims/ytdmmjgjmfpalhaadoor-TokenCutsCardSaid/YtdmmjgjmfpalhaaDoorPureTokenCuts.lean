/- The law of tokens, over plain values. No program is in sight. -/
import Derived.Test.YtdmmjgjmfpalhaaDoorRTokTokenCuts
namespace Go.Proofs.YtdmmjgjmfpalhaaDoorBv
open Go
set_option linter.unusedSimpArgs false
set_option linter.unusedVariables false
theorem same_l0 (a : List TSToken) (K : Unit → Option Bool) (hl : a.length < 140737488355328) : ∀ (N i : Nat), a.length - i < N → i ≤ a.length → clerestorylaw2_sameTokens_l0 a a K N (i : Int) = K ()
  | 0, i, hN, hi => by omega
  | N + 1, i, hN, hi => by
    rw [clerestorylaw2_sameTokens_l0]
    by_cases h : i < a.length
    · rw [if_pos (by simp only [decide_eq_true_eq]; omega), at_some h, Option.bind_some, Option.bind_some, letIn_eq, if_neg (by simp), wi_id (by omega) (by omega), show (i : Int) + 1 = ((i + 1 : Nat) : Int) by omega]
      exact same_l0 a K hl N (i + 1) (by omega) (by omega)
    · rw [if_neg (by simp only [decide_eq_true_eq]; omega)]
theorem same_eq {a : List TSToken} (hl : a.length < 140737488355328) : clerestorylaw2_sameTokens a a = some true := by
  unfold clerestorylaw2_sameTokens
  rw [if_neg (by simp)]
  exact lim_of (a.length + 1) fun k hk => same_l0 a _ hl k 0 (by omega) (by omega)
theorem pureTokenCuts : PureTokenCuts := by
  intro s h
  unfold clerestorylaw2_TokenCuts clerestorylaw2_short
  have e : mn (s.length : Int) 600 = ((min s.length 600 : Nat) : Int) := by
    unfold mn
    split <;> omega
  rw [cutFact_eq, Option.bind_some, e, sub_take (Nat.min_le_left _ _), Option.bind_some, Option.bind_some]
  have hl : (s.take (min s.length 600)).length ≤ 600 := by rw [List.length_take]; omega
  have h2 := cutF_len (s.take (min s.length 600)).length (s.take (min s.length 600))
  rw [cut_eq (by omega), Option.bind_some, Tokens_eq (by omega), Option.bind_some, same_eq (by show (cutF _ _).length < _; omega), Option.bind_some]
  rfl
end Go.Proofs.YtdmmjgjmfpalhaaDoorBv
