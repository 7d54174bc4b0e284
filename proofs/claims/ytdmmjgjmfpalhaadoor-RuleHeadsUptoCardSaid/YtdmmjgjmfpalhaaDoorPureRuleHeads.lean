/- The law of rules' heads, over plain values. No program is in sight. -/
import Derived.Test.YtdmmjgjmfpalhaaDoorCutTRuleHeads
import Derived.Test.YtdmmjgjmfpalhaaDoorBv31
namespace Go.Proofs.YtdmmjgjmfpalhaaDoorBv
open Go
set_option linter.unusedSimpArgs false
set_option linter.unusedVariables false
def silentS (t : TSToken) : Bool := decide (t.Kind = 8) || decide (t.Kind = 9)
def headF : List TSToken → List UInt8 → Bool → List UInt8
  | [], b, _ => b
  | x :: r, b, g => if silentS x then headF r b (decide (0 < b.length)) else headF r ((if g then b ++ [32] else b) ++ x.Raw) false
def weightW (l : List TSToken) : Nat := (l.map fun x => x.Raw.length + 1).sum
theorem weight_bulk (l : List TSToken) : weightW l + l.length ≤ bulkE (l.map e_TSToken) := by
  induction l with
  | nil => simp [weightW, bulkE]
  | cons x r ih =>
    simp only [weightW, List.map_cons, List.sum_cons, List.length_cons, bulkE, e_TSToken, bulkL, bulkC] at ih ⊢
    omega
theorem weight_drop {l : List TSToken} {i : Nat} (h : i < l.length) : weightW (l.drop i) = l[i].Raw.length + 1 + weightW (l.drop (i + 1)) := by
  unfold weightW
  rw [List.drop_eq_getElem_cons h, List.map_cons, List.sum_cons]
theorem ws_eq {l s : List UInt8} (h : l.length + s.length ≤ 140737488355328) : strings_Builder_WriteString l s = some (l ++ s) := by
  show bWriteString? _ _ = _
  unfold bWriteString?
  rw [if_pos h]
theorem head_l0 (l : List TSToken) (K : List UInt8 → Option (List UInt8)) (hl : l.length ≤ 2000000) : ∀ (N i : Nat) (b : List UInt8) (g : Bool), l.length - i < N → i ≤ l.length → b.length + weightW (l.drop i) ≤ 3000000 → cssrule_Head_l0 l K N b g (i : Int) = K (headF (l.drop i) b g)
  | 0, i, b, g, hN, hi, hw => by omega
  | N + 1, i, b, g, hN, hi, hw => by
    rw [cssrule_Head_l0]
    unfold cssrule_Head_j9 cssrule_Head_j8
    by_cases h : i < l.length
    · have h1 := weight_drop h
      rw [if_pos (by simp only [decide_eq_true_eq]; omega), at_some h, Option.bind_some, wi_id (by omega) (by omega), show (i : Int) + 1 = ((i + 1 : Nat) : Int) by omega, List.drop_eq_getElem_cons h]
      show (if silentS l[i] = true then _ else _) = _
      rw [show (32 : Int) = ((32 : UInt8).toNat : Int) from rfl, wb_eq (by omega), Option.bind_some, ws_eq (by simp; omega), Option.bind_some, ws_eq (by omega), Option.bind_some, show decide (0 < (b.length : Int)) = decide (0 < b.length) by rw [Bool.eq_iff_iff]; simp]
      unfold headF
      by_cases hs : silentS l[i] = true
      · rw [if_pos hs, if_pos hs]
        exact head_l0 l K hl N (i + 1) _ _ (by omega) (by omega) (by omega)
      · rw [if_neg hs, if_neg hs]
        cases g with
        | true => rw [if_pos rfl, if_pos rfl]; exact head_l0 l K hl N (i + 1) _ _ (by omega) (by omega) (by simp; omega)
        | false => rw [if_neg (by simp), if_neg (by simp)]; exact head_l0 l K hl N (i + 1) _ _ (by omega) (by omega) (by simp; omega)
    · rw [if_neg (by simp only [decide_eq_true_eq]; omega), List.drop_eq_nil_of_le (by omega)]
      rfl
theorem head_eq {l : List TSToken} (hl : l.length ≤ 2000000) (hw : weightW l ≤ 2000000) : cssrule_Head l = some (headF l [] false) := by
  unfold cssrule_Head
  exact lim_of (l.length + 1) fun k hk => head_l0 l _ hl k 0 [] false (by omega) (by omega) (by simp; omega)
/-- was the token ahead silent? -/
def prevS (l : List TSToken) (i : Nat) : Bool := match i with
  | 0 => false
  | k + 1 => match l[k]? with
    | some x => silentS x
    | none => false
theorem prevS_succ {l : List TSToken} {i : Nat} (h : i < l.length) : prevS l (i + 1) = silentS l[i] := by
  show (match l[i]? with | some x => silentS x | none => false) = _
  rw [List.getElem?_eq_getElem h]
theorem rhead_l0 (l : List TSToken) (K : List UInt8 → Option (List UInt8)) (hl : l.length ≤ 2000000) : ∀ (N i : Nat) (b : List UInt8), l.length - i < N → i ≤ l.length → b.length + weightW (l.drop i) ≤ 3000000 → (i = 0 → b = []) → clerestoryref2_HeadOf_l0 l K N b (i : Int) = K (headF (l.drop i) b (decide (0 < b.length) && prevS l i))
  | 0, i, b, hN, hi, hw, hz => by omega
  | N + 1, i, b, hN, hi, hw, hz => by
    rw [clerestoryref2_HeadOf_l0]
    unfold clerestoryref2_HeadOf_j33 clerestoryref2_HeadOf_j32 clerestoryref2_HeadOf_j30
    by_cases h : i < l.length
    · have h1 := weight_drop h
      have hp : prevS l (i + 1) = silentS l[i] := prevS_succ h
      rw [if_pos (by simp only [decide_eq_true_eq]; omega), at_some h, Option.bind_some, wi_id (n := (i : Int) + 1) (by omega) (by omega), show (i : Int) + 1 = ((i + 1 : Nat) : Int) by omega, List.drop_eq_getElem_cons h]
      show (if silentS l[i] = true then _ else _) = _
      rw [catq (by simp; omega), Option.bind_some]
      simp only [Option.bind_some]
      rw [catq (by simp; omega), Option.bind_some, catq (by omega), Option.bind_some]
      unfold headF
      by_cases hs : silentS l[i] = true
      · rw [if_pos hs, if_pos hs, rhead_l0 l K hl N (i + 1) _ (by omega) (by omega) (by omega) (by omega), hp, hs, Bool.and_true]
      · rw [if_neg hs, if_neg hs]
        have hs' : silentS l[i] = false := by simpa using hs
        by_cases hb : b = []
        · subst hb
          rw [if_neg (by simp), if_neg (by simp), if_neg (by simp), rhead_l0 l K hl N (i + 1) _ (by omega) (by omega) (by simp; omega) (by omega), hp, hs', Bool.and_false]
        · have hi1 : 1 ≤ i := by
            rcases Nat.eq_zero_or_pos i with h0 | h0
            · exact absurd (hz h0) hb
            · exact h0
          obtain ⟨k, rfl⟩ : ∃ k, i = k + 1 := ⟨i - 1, by omega⟩
          have hk : k < l.length := by omega
          have hb0 : decide (0 < b.length) = true := by simpa using List.length_pos_iff.2 hb
          have hpk : prevS l (k + 1) = silentS l[k] := prevS_succ hk
          rw [if_pos (by simp [hb]), wi_id (by omega) (by omega), show ((k + 1 : Nat) : Int) - 1 = (k : Int) by omega, at_some hk, Option.bind_some, hb0, hpk, Bool.true_and]
          show (if silentS l[k] = true then _ else _) = _
          cases hsk : silentS l[k] with
          | true => rw [if_pos rfl, if_pos rfl, rhead_l0 l K hl N (k + 1 + 1) _ (by omega) (by omega) (by simp; omega) (by omega), hp, hs', Bool.and_false]
          | false => rw [if_neg (by simp), if_neg (by simp), rhead_l0 l K hl N (k + 1 + 1) _ (by omega) (by omega) (by simp; omega) (by omega), hp, hs', Bool.and_false]
    · rw [if_neg (by simp only [decide_eq_true_eq]; omega), List.drop_eq_nil_of_le (by omega)]
      rfl
theorem rhead_eq {l : List TSToken} (hl : l.length ≤ 2000000) (hw : weightW l ≤ 2000000) : clerestoryref2_HeadOf l = some (headF l [] false) := by
  unfold clerestoryref2_HeadOf
  exact lim_of (l.length + 1) fun k hk => rhead_l0 l _ hl k 0 [] (by omega) (by omega) (by simp; omega) (fun _ => rfl)
theorem law_l0 (l : List TSToken) (a : List UInt8) (ha : a = [97, 32, 99]) (K : Unit → Option Bool) (hK : K () = some true) (hl : l.length ≤ 2000000) : ∀ (N i : Nat), l.length - i < N → i ≤ l.length → clerestorylaw2_RuleHeads_l0 l a K N (i : Int) = some true
  | 0, i, hN, hi => by omega
  | N + 1, i, hN, hi => by
    rw [clerestorylaw2_RuleHeads_l0]
    by_cases h : i < l.length
    · rw [if_pos (by simp only [decide_eq_true_eq]; omega), at_some h, Option.bind_some, wi_id (by omega) (by omega), show (i : Int) + 1 = ((i + 1 : Nat) : Int) by omega, law_l0 l a ha K hK hl N (i + 1) (by omega) (by omega)]
      split
      · simp [ha]
      · rfl
    · rw [if_neg (by simp only [decide_eq_true_eq]; omega), hK]
theorem pureRuleHeads : PureRuleHeads := by
  intro l _ hb
  have h1 := weight_bulk l
  simp only [bulkVs, bulkV, bulkC] at hb
  unfold clerestorylaw2_RuleHeads
  have hc : cutS [32, 97, 32, 47, 42, 32, 98, 32, 42, 47, 32, 99, 32] = [⟨8, [32], [], 0⟩, ⟨1, [97], [97], 0⟩, ⟨8, [32], [], 0⟩, ⟨9, [47, 42, 32, 98, 32, 42, 47], [], 0⟩, ⟨8, [32], [], 0⟩, ⟨1, [99], [99], 0⟩, ⟨8, [32], [], 0⟩] := by decide +kernel
  rw [cut_eq (by decide), Option.bind_some, hc, head_eq (by decide) (by decide), Option.bind_some]
  refine lim_of (l.length + 1) fun k hk => ?_
  refine law_l0 l _ (by decide) _ ?_ (by omega) k 0 (by omega) (by omega)
  rw [if_pos (by decide), head_eq (by omega) (by omega), Option.bind_some, rhead_eq (by omega) (by omega), Option.bind_some]
  simp [clerestorylaw2_RuleHeads_j1]
end Go.Proofs.YtdmmjgjmfpalhaaDoorBv
