/- strings.Join: what it answers. No program is in sight. -/
import Derived.Test.YtcnfmehidmjejaaDoorShCalcTells
import Derived.Test.YtcnfmehidmjejaaDoorBv23
import Derived.Test.YtcnfmehidmjejaaDoorBv33
namespace Go.Proofs.YtcnfmehidmjejaaDoorBv
open Go
set_option linter.unusedSimpArgs false
set_option linter.unusedVariables false
def joinL (sep : List UInt8) : List (List UInt8) → List UInt8
  | [] => []
  | a :: r => a ++ r.flatMap fun x => sep ++ x
theorem joinL_snoc (sep : List UInt8) (L : List (List UInt8)) (x : List UInt8) : joinL sep (L ++ [x]) = (if L = [] then [] else joinL sep L ++ sep) ++ x := by
  cases L with
  | nil => simp [joinL]
  | cons a r => simp [joinL, List.flatMap_append]
def wL (k : Nat) (L : List (List UInt8)) : Nat := (L.map fun x => x.length + k).sum
theorem joinL_len (sep : List UInt8) (L : List (List UInt8)) : (joinL sep L).length ≤ wL sep.length L := by
  cases L with
  | nil => simp [joinL, wL]
  | cons a r =>
    have : (r.flatMap fun x => sep ++ x).length = wL sep.length r := by
      induction r with
      | nil => simp [wL]
      | cons b q ih => simp only [List.flatMap_cons, List.length_append, ih, wL, List.map_cons, List.sum_cons]; omega
    simp only [joinL, List.length_append, this, wL, List.map_cons, List.sum_cons]
    omega
theorem wL_take (k : Nat) (L : List (List UInt8)) (i : Nat) : wL k (L.take i) ≤ wL k L := by
  induction L generalizing i with
  | nil => simp
  | cons a r ih =>
    cases i with
    | zero => simp [wL]
    | succ i =>
      have := ih i
      simp only [wL, List.take_succ_cons, List.map_cons, List.sum_cons] at this ⊢
      omega
theorem wL_len (k : Nat) (L : List (List UInt8)) : L.length * k ≤ wL k L := by
  induction L with
  | nil => simp
  | cons a r ih => simp only [wL, List.length_cons, List.map_cons, List.sum_cons, Nat.add_mul] at ih ⊢; omega
theorem join_l0 (L : List (List UInt8)) (sep : List UInt8) (hW : wL sep.length L ≤ 1000000000) (hn : L.length ≤ 1000000000) (K : Int → Option (List UInt8)) : ∀ (N i n : Nat), L.length - i < N → i ≤ L.length → n + (((L.drop i).map List.length).sum) ≤ 2000000000 →
    strings_Join1_l0 L sep K N (n : Int) (i : Int) = K ((n + ((L.drop i).map List.length).sum : Nat) : Int)
  | 0, i, n, hN, hi, h => by omega
  | N + 1, i, n, hN, hi, h => by
    rw [strings_Join1_l0]
    by_cases hl : i < L.length
    · rw [List.drop_eq_getElem_cons hl, List.map_cons, List.sum_cons] at h
      rw [if_pos (by simp only [decide_eq_true_eq]; omega), at_some hl, Option.bind_some, if_neg (by simp only [decide_eq_true_eq]; rw [wi_id (by omega) (by omega)]; omega), wi_id (n := (n : Int) + (L[i].length : Int)) (by omega) (by omega), wi_id (n := (i : Int) + 1) (by omega) (by omega), show (i : Int) + 1 = ((i + 1 : Nat) : Int) by omega, show (n : Int) + (L[i].length : Int) = ((n + L[i].length : Nat) : Int) by omega,
        join_l0 L sep hW hn K N (i + 1) _ (by omega) (by omega) (by omega), List.drop_eq_getElem_cons hl, List.map_cons, List.sum_cons, Nat.add_assoc]
    · rw [if_neg (by simp only [decide_eq_true_eq]; omega), List.drop_of_length_le (by omega)]
      simp
theorem join_l1 (R : List (List UInt8)) (sep : List UInt8) (hn : R.length ≤ 1000000000) (K : List UInt8 → Option (List UInt8)) : ∀ (N i : Nat) (b : List UInt8), R.length - i < N → i ≤ R.length → b.length + ((R.drop i).flatMap fun x => sep ++ x).length ≤ 3000000000 →
    strings_Join1_l1 R sep K N b (i : Int) = K (b ++ (R.drop i).flatMap fun x => sep ++ x)
  | 0, i, b, hN, hi, h => by omega
  | N + 1, i, b, hN, hi, h => by
    rw [strings_Join1_l1]
    by_cases hl : i < R.length
    · rw [List.drop_eq_getElem_cons hl, List.flatMap_cons, List.length_append, List.length_append] at h
      rw [if_pos (by simp only [decide_eq_true_eq]; omega), at_some hl, Option.bind_some]
      show (bWriteString? b sep).bind _ = _
      unfold bWriteString?
      rw [if_pos (by omega), Option.bind_some]
      show (bWriteString? (b ++ sep) R[i]).bind _ = _
      unfold bWriteString?
      rw [if_pos (by rw [List.length_append]; omega), Option.bind_some, wi_id (by omega) (by omega), show (i : Int) + 1 = ((i + 1 : Nat) : Int) by omega,
        join_l1 R sep hn K N (i + 1) _ (by omega) (by omega) (by simp only [List.length_append]; omega), List.drop_eq_getElem_cons hl, List.flatMap_cons]
      simp only [List.append_assoc]
    · rw [if_neg (by simp only [decide_eq_true_eq]; omega), List.drop_of_length_le (by omega)]
      simp
theorem len_w (k : Nat) (L : List (List UInt8)) : (L.map List.length).sum + L.length * k = wL k L := by
  induction L with
  | nil => simp [wL]
  | cons a r ih => simp only [wL, List.map_cons, List.sum_cons, List.length_cons, Nat.add_mul] at ih ⊢; omega
theorem join_eq (L : List (List UInt8)) (sep : List UInt8) (h1 : 1 ≤ sep.length) (h2 : sep.length ≤ 10) (hW : wL sep.length L ≤ 1000000000) : strings_Join1 L sep = some (joinL sep L) := by
  have hn : L.length ≤ 1000000000 := by
    have := wL_len sep.length L
    have : L.length * 1 ≤ L.length * sep.length := Nat.mul_le_mul_left _ h1
    omega
  have hlw := len_w sep.length L
  unfold strings_Join1
  match L, hn, hW, hlw with
  | [], _, _, _ => rfl
  | [a], _, _, _ =>
    have a0 : at? [a] 0 = some a := rfl
    rw [if_neg (by simp), if_pos (by simp), a0, Option.bind_some]
    simp [joinL]
  | a :: b :: r, hn, hW, hlw =>
    generalize hL : a :: b :: r = L at hn hW hlw ⊢
    have hlen : 2 ≤ L.length := by rw [← hL]; simp
    have hq : quo? .i64 9223372036854775807 (wi ((L.length : Int) - 1)) = some ((9223372036854775807 : Int).tdiv ((L.length : Int) - 1)) := by
      have hd : (9223372036854775807 : Int).tdiv ((L.length : Int) - 1) = 9223372036854775807 / ((L.length : Int) - 1) := Int.tdiv_eq_ediv_of_nonneg (by omega)
      have hb := Int.ediv_le_self (a := 9223372036854775807) ((L.length : Int) - 1) (by omega)
      have hp : (0 : Int) ≤ 9223372036854775807 / ((L.length : Int) - 1) := Int.ediv_nonneg (by omega) (by omega)
      rw [wi_id (by omega) (by omega), quoq (by omega), hd]
      congr 1
      exact wi_id (by omega) hb
    have hbig : ¬ ((9223372036854775807 : Int).tdiv ((L.length : Int) - 1) ≤ (sep.length : Int)) := by
      rw [Int.tdiv_eq_ediv_of_nonneg (by omega)]
      have : (11 : Int) ≤ 9223372036854775807 / ((L.length : Int) - 1) := (Int.le_ediv_iff_mul_le (by omega)).2 (by omega)
      omega
    rw [if_neg (by simp only [decide_eq_true_eq]; omega), if_neg (by simp only [decide_eq_true_eq]; omega), if_pos (by simp only [decide_eq_true_eq]; omega), hq, Option.bind_some, if_neg (by simpa using hbig)]
    obtain ⟨n0, hn0⟩ : ∃ n0 : Nat, n0 = sep.length * (L.length - 1) := ⟨_, rfl⟩
    have hn1 : n0 ≤ L.length * sep.length := by rw [hn0, Nat.mul_comm]; exact Nat.mul_le_mul_right _ (by omega)
    have e0 : wi (0 + wi ((sep.length : Int) * wi ((L.length : Int) - 1))) = (n0 : Int) := by
      have e1 : (sep.length : Int) * ((L.length : Int) - 1) = (n0 : Int) := by
        rw [hn0]
        have : ((L.length - 1 : Nat) : Int) = (L.length : Int) - 1 := by omega
        rw [Int.natCast_mul, this]
      rw [wi_id (n := (L.length : Int) - 1) (by omega) (by omega), e1, wi_id (n := (n0 : Int)) (by omega) (by omega), Int.zero_add, wi_id (by omega) (by omega)]
    rw [e0]
    unfold strings_Join1_j1
    refine lim_eq (L.length + 1) fun k hk => ?_
    refine (join_l0 L sep hW hn _ k 0 n0 (by omega) (by omega) (by rw [List.drop_zero]; omega)).trans ?_
    rw [List.drop_zero]
    show (bGrow? _).bind _ = _
    unfold bGrow?
    rw [if_pos (by omega), Option.bind_some, ← hL]
    have a0 : at? (a :: b :: r) 0 = some a := rfl
    have s1 : sub? (a :: b :: r) 1 ((a :: b :: r).length : Int) = some (b :: r) := by
      have := sub_drop (l := a :: b :: r) (a := 1) (by simp)
      exact this
    have hjl := joinL_len sep L
    rw [← hL] at hjl
    simp only [joinL, List.length_append] at hjl
    have hWL : wL sep.length (a :: b :: r) ≤ 1000000000 := by rw [hL]; exact hW
    have hrl : (b :: r).length ≤ L.length := by rw [← hL]; simp
    rw [a0, Option.bind_some]
    show (bWriteString? [] a).bind _ = _
    unfold bWriteString?
    rw [if_pos (by simp; omega), Option.bind_some, s1, Option.bind_some, List.nil_append]
    refine lim_eq ((b :: r).length + 1) fun k hk => ?_
    refine (join_l1 (b :: r) sep (by omega) _ k 0 a (by omega) (by omega) (by rw [List.drop_zero]; omega)).trans ?_
    rw [List.drop_zero]
    rfl
end Go.Proofs.YtcnfmehidmjejaaDoorBv
