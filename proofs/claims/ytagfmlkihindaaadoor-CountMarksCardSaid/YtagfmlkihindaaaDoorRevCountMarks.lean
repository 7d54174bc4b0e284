/- slices.Reverse of bytes: the list, the last one first. No program is in sight. -/
import Derived.Test.YtagfmlkihindaaaDoorShCountMarks
import Derived.Test.YtagfmlkihindaaaDoorBv23
namespace Go.Proofs.YtagfmlkihindaaaDoorBv
open Go
set_option linter.unusedSimpArgs false
set_option linter.unusedVariables false
theorem at_midI {α : Type} (A B : List α) (x : α) (i : Int) (h : i = (A.length : Int)) : at? (A ++ x :: B) i = some x := by subst h; rw [at_nat]; simp
theorem set_midI {α : Type} (A B : List α) (x y : α) (i : Nat) (h : i = A.length) : (A ++ x :: B).set i y = A ++ y :: B := by subst h; simp
theorem rev_loop (K : List Int → Option (List Int)) : ∀ (N : Nat) (P M S : List Int), M.length ≤ N → P.length + M.length < 4611686018427387904 → ∀ m,
    slices_Reverse_byte_l0 K (m + N + 1) (P ++ M ++ S) (P.length : Int) ((P.length : Int) + (M.length : Int) - 1) = K (P ++ M.reverse ++ S)
  | N, P, [], S, _, _, m => by
    rw [slices_Reverse_byte_l0, if_neg (by simp; omega)]
    simp
  | N, P, [x], S, _, _, m => by
    rw [slices_Reverse_byte_l0, if_neg (by simp)]
    simp
  | 0, P, x :: y :: M, S, h, _, m => by simp at h
  | N + 1, P, x :: y :: M0, S, h, hl, m => by
    obtain ⟨M, z, e⟩ : ∃ M z, y :: M0 = M ++ [z] := ⟨(y :: M0).dropLast, (y :: M0).getLast (by simp), (List.dropLast_concat_getLast (by simp)).symm⟩
    have hlen : (y :: M0).length = M.length + 1 := by rw [e]; simp
    simp only [List.length_cons] at h hl hlen
    rw [e]
    have e1 : P ++ (x :: (M ++ [z])) ++ S = P ++ x :: (M ++ z :: S) := by simp
    have e2 : P ++ x :: (M ++ z :: S) = (P ++ x :: M) ++ z :: S := by simp
    have l2 : (P ++ x :: M).length = P.length + M.length + 1 := by simp; omega
    rw [slices_Reverse_byte_l0, if_pos (by simp only [decide_eq_true_eq, List.length_cons, List.length_append, List.length_nil]; omega), e1]
    have a1 : at? (P ++ x :: (M ++ z :: S)) ((P.length : Int) + ((x :: (M ++ [z])).length : Int) - 1) = some z := by rw [e2]; exact at_midI _ _ _ _ (by simp; omega)
    have a2 : at? (P ++ x :: (M ++ z :: S)) (P.length : Int) = some x := at_midI _ _ _ _ rfl
    have a3 : (P ++ x :: (M ++ z :: S)).set ((P.length : Int)).toNat z = P ++ z :: (M ++ z :: S) := set_midI _ _ _ _ _ (by simp)
    have a4 : at? (P ++ z :: (M ++ z :: S)) ((P.length : Int) + ((x :: (M ++ [z])).length : Int) - 1) = some z := by
      rw [show P ++ z :: (M ++ z :: S) = (P ++ z :: M) ++ z :: S by simp]; exact at_midI _ _ _ _ (by simp; omega)
    have a5 : (P ++ z :: (M ++ z :: S)).set ((P.length : Int) + ((x :: (M ++ [z])).length : Int) - 1).toNat x = (P ++ [z]) ++ M ++ (x :: S) := by
      rw [show P ++ z :: (M ++ z :: S) = (P ++ z :: M) ++ z :: S by simp, set_midI _ _ _ _ _ (by simp; omega)]
      simp
    rw [a1, a2, Option.bind_some, Option.bind_some, Option.bind_some, a3, a4, Option.bind_some, a5, wi_id (by omega) (by omega), wi_id (by simp; omega) (by simp; omega)]
    have ih := rev_loop K N (P ++ [z]) M (x :: S) (by omega) (by simp; omega) m
    rw [show ((P ++ [z]).length : Int) = (P.length : Int) + 1 by simp] at ih
    rw [show (P.length : Int) + ((x :: (M ++ [z])).length : Int) - 1 - 1 = (P.length : Int) + 1 + (M.length : Int) - 1 by simp; omega, show m + (N + 1) = m + N + 1 by omega, ih]
    simp
theorem reverse_eq (l : List Int) (h : l.length < 4611686018427387904) : slices_Reverse_byte l = some l.reverse := by
  unfold slices_Reverse_byte
  refine lim_add (l.length + 1) fun m => ?_
  have := rev_loop (fun s_2 => some s_2) l.length [] l [] (Nat.le_refl _) (by simpa using h) m
  simp only [List.nil_append, List.append_nil, List.length_nil] at this
  rw [wi_id (by omega) (by omega)]
  rw [show ((0 : Nat) : Int) + (l.length : Int) - 1 = (l.length : Int) - 1 by omega] at this
  exact this
end Go.Proofs.YtagfmlkihindaaaDoorBv
