/- The document's digits of a number with its sign (chapter 2): strconv's. No program is in sight. -/
import Derived.Test.YtaejmblphhjccabGreatDoorDig2MediaTells
namespace Go.Proofs.YtaejmblphhjccabGreatDoorBv
open Go
set_option linter.unusedSimpArgs false
set_option linter.unusedVariables false
theorem signed_loop : ∀ (d m : Nat), m ≤ d → 1 ≤ m → m ≤ 9223372036854775807 → ∀ k, clerestoryref2_Signed_r (k + d + 1) (-(m : Int)) = some (45 :: Lib.decDigits m)
  | d, m, hd, h1, hm, k => by
    unfold clerestoryref2_Signed_r
    have l0 := Lib.nDigits_le20 m (by omega)
    by_cases h : m < 10
    · rw [if_neg (by simp only [decide_eq_true_eq]; omega), if_pos (by simp only [decide_eq_true_eq]; omega), show (0 : Int) - -(m : Int) = (m : Int) by omega, wi_id (by omega) (by omega), digits2_eq m hm, Option.bind_some,
        catq (by rw [Lib.decDigits_length]; simp; omega), Option.bind_some]
      rfl
    · obtain ⟨e, rfl⟩ : ∃ e, d = e + 1 := ⟨d - 1, by omega⟩
      have e1 : (-(m : Int)).tdiv 10 = -((m / 10 : Nat) : Int) := by rw [Int.neg_tdiv, Int.tdiv_eq_ediv_of_nonneg (by omega)]; omega
      have e2 : (-(m : Int)).tmod 10 = -((m % 10 : Nat) : Int) := by rw [Int.neg_tmod, Int.tmod_eq_emod_of_nonneg (by omega)]; omega
      have r1 := signed_loop e (m / 10) (by omega) (by omega) (by omega) k
      have l1 := Lib.nDigits_le20 (m / 10) (by omega)
      have l2 := Lib.nDigits_le20 (m % 10) (by omega)
      rw [if_pos (by simp only [decide_eq_true_eq]; omega), e1, e2, wi_id (by omega) (by omega), show k + (e + 1) = k + e + 1 by omega, r1, Option.bind_some, show (0 : Int) - -((m % 10 : Nat) : Int) = ((m % 10 : Nat) : Int) by omega,
        wi_id (by omega) (by omega), digits2_eq (m % 10) (by omega), Option.bind_some, catq (by rw [List.length_cons, Lib.decDigits_length, Lib.decDigits_length]; omega), Option.bind_some, Lib.decDigits_one (show m % 10 < 10 by omega)]
      conv => rhs; rw [Lib.decDigits, dif_neg h]
      rfl
theorem signed_eq (n : Int) (h1 : -9223372036854775807 ≤ n) (h2 : n ≤ 9223372036854775807) : clerestoryref2_Signed n = some (Lib.itoa n) := by
  unfold clerestoryref2_Signed
  by_cases h : n < 0
  · obtain ⟨m, rfl⟩ : ∃ m : Nat, n = -(m : Int) := ⟨n.natAbs, by omega⟩
    have e : Lib.itoa (-(m : Int)) = 45 :: Lib.decDigits m := by unfold Lib.itoa; rw [if_pos h]; simp
    rw [e]
    exact lim_add (m + 1) fun k => signed_loop m m (Nat.le_refl _) (by omega) (by omega) k
  · obtain ⟨m, rfl⟩ : ∃ m : Nat, n = (m : Int) := ⟨n.toNat, by omega⟩
    have e : Lib.itoa (m : Int) = Lib.decDigits m := by unfold Lib.itoa; rw [if_neg h]; simp
    rw [e]
    refine lim_add 1 fun k => ?_
    unfold clerestoryref2_Signed_r
    rw [if_neg (by simp only [decide_eq_true_eq]; omega), if_neg (by simp only [decide_eq_true_eq]; omega), digits2_eq m (by omega)]
    rfl
end Go.Proofs.YtaejmblphhjccabGreatDoorBv
