/- The document's digits of a number (chapter 2): strconv's. No program is in sight. -/
import Derived.Test.YtcnfmehidmjejaaDoorShCalcTells
import Derived.Test.YtcnfmehidmjejaaDoorBv23
import Derived.Lib.ItoaLen
namespace Go.Proofs.YtcnfmehidmjejaaDoorBv
open Go
set_option linter.unusedSimpArgs false
set_option linter.unusedVariables false
theorem dig_byte (n : Nat) : byts [wr .u8 (wi (48 + ((n : Int).tmod 10)))] = [UInt8.ofNat (48 + n % 10)] := by
  have h2 : ((n : Int)).tmod 10 = ((n % 10 : Nat) : Int) := by rw [Int.tmod_eq_emod_of_nonneg (by omega)]; omega
  rw [h2, wi_id (by omega) (by omega), wr_u8]
  unfold byts
  simp only [List.map_cons, List.map_nil]
  congr 2
  omega
theorem digits2_loop : ∀ (d n : Nat), n ≤ d → n ≤ 9223372036854775807 → ∀ k, clerestoryref2_Digits_r (k + d + 1) (n : Int) = some (Lib.decDigits n)
  | d, n, hd, hi, k => by
    unfold clerestoryref2_Digits_r
    by_cases h : n < 10
    · rw [if_neg (by simp only [decide_eq_true_eq]; omega), dig_byte, Nat.mod_eq_of_lt h, Lib.decDigits_one h]
      rfl
    · obtain ⟨e, rfl⟩ : ∃ e, d = e + 1 := ⟨d - 1, by omega⟩
      have h1 : ((n : Int)).tdiv 10 = ((n / 10 : Nat) : Int) := by rw [Int.tdiv_eq_ediv_of_nonneg (by omega)]; omega
      have r1 := digits2_loop e (n / 10) (by omega) (by omega) k
      have l1 := Lib.nDigits_le20 (n / 10) (by omega)
      rw [if_pos (by simp only [decide_eq_true_eq]; omega), dig_byte, h1, wi_id (by omega) (by omega), show k + (e + 1) = k + e + 1 by omega, r1, Option.bind_some,
        catq (by rw [Lib.decDigits_length]; simp; omega), Option.bind_some]
      conv => rhs; rw [Lib.decDigits, dif_neg h]
      rfl
theorem digits2_eq (n : Nat) (h : n ≤ 9223372036854775807) : clerestoryref2_Digits (n : Int) = some (Lib.decDigits n) := by
  unfold clerestoryref2_Digits
  exact lim_add (n + 1) fun k => digits2_loop n n (Nat.le_refl _) h k
end Go.Proofs.YtcnfmehidmjejaaDoorBv
