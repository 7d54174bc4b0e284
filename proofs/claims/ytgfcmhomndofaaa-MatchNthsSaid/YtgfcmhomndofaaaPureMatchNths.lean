/- 'clerestorylaw2.MatchNths' answers true for all three numbers: that a number is one of those that are counted is told by the division just as by trying each k from 0 to 1300. No condition beside the numbers' own kind. -/
import Derived.Test.YtgfcmhomndofaaaPMatchNthsx1
namespace Go.Proofs.Ytgfcmhomndofaaa.Pure
open Go.RowKit Go.Proofs.Ytgfcmhomndofaaa.PMatchNths Go.Proofs.YtgfcmhomndofaaaW.PrintWords Go.Proofs.YtgfcmhomndofaaaW.PrintLast Go.Proofs.YtgfcmhomndofaaaW.PrintMore

theorem mul_bd (a x : Int) (h1 : -1000 ≤ a) (h2 : a ≤ 1000) (h3 : 0 ≤ x) (h4 : x ≤ 1300) : -1300000 ≤ a * x ∧ a * x ≤ 1300000 := by
  have p : 0 ≤ (1000 - a) * x := Int.mul_nonneg (by omega) h3
  have q : 0 ≤ (a + 1000) * x := Int.mul_nonneg (by omega) h3
  rw [Int.sub_mul] at p
  rw [Int.add_mul] at q
  omega

theorem loop_tells (a b i : Int) (h1 : -1000 ≤ a) (h2 : a ≤ 1000) (h3 : -1000 ≤ b) (h4 : b ≤ 1000) : ∀ (d k : Nat) (x : Int), 0 ≤ x → x + d = 1301 → d < k →
    ∃ r, clerestoryref2_NthIs.l0 k a b i x = some r ∧ (r = true ↔ ∃ y : Int, x ≤ y ∧ y ≤ 1300 ∧ a * y + b = i) := by
  intro d
  induction d with
  | zero =>
    intro k x hx hd hk
    obtain ⟨k, rfl⟩ : ∃ m, k = m + 1 := ⟨k - 1, by omega⟩
    refine ⟨false, by simp only [clerestoryref2_NthIs.l0]; rw [if_neg (by omega)], by simp, ?_⟩
    rintro ⟨y, hy, hz, -⟩
    omega
  | succ d ih =>
    intro k x hx hd hk
    obtain ⟨k, rfl⟩ : ∃ m, k = m + 1 := ⟨k - 1, by omega⟩
    have hb := mul_bd a x h1 h2 hx (by omega)
    have hw : wrap64 (wrap64 (a * x) + b) = a * x + b := by unfold wrap64; omega
    by_cases e : a * x + b = i
    · refine ⟨true, ?_, fun _ => ⟨x, Int.le_refl _, by omega, e⟩, fun _ => rfl⟩
      simp only [clerestoryref2_NthIs.l0]
      rw [if_pos (by omega), hw, if_pos e]
    · obtain ⟨r, hr, hi⟩ := ih k (x + 1) (by omega) (by omega) (by omega)
      refine ⟨r, ?_, hi.trans ⟨?_, ?_⟩⟩
      · simp only [clerestoryref2_NthIs.l0]
        rw [if_pos (by omega), hw, if_neg e, show wrap64 (x + 1) = x + 1 by unfold wrap64; omega]
        exact hr
      · rintro ⟨y, hy, hz, hh⟩
        exact ⟨y, by omega, hz, hh⟩
      · rintro ⟨y, hy, hz, hh⟩
        refine ⟨y, ?_, hz, hh⟩
        by_cases e' : x = y
        · subst e'; exact absurd hh e
        · omega

theorem div_tells (a b i : Int) (h3 : -1000 ≤ b) (h4 : b ≤ 1000) (h5 : 1 ≤ i) (h6 : i ≤ 200) (ha : a ≠ 0) :
    (Int.tmod (i - b) a = 0 ∧ 0 ≤ Int.tdiv (i - b) a) ↔ ∃ y : Int, 0 ≤ y ∧ y ≤ 1300 ∧ a * y + b = i := by
  constructor
  · rintro ⟨hm, hd⟩
    have e := Int.tmod_add_mul_tdiv (i - b) a
    rw [hm] at e
    refine ⟨Int.tdiv (i - b) a, hd, ?_, by omega⟩
    generalize Int.tdiv (i - b) a = y at *
    by_cases p : 0 < a
    · have : 0 ≤ (a - 1) * y := Int.mul_nonneg (by omega) hd
      rw [Int.sub_mul] at this
      omega
    · have : 0 ≤ (-1 - a) * y := Int.mul_nonneg (by omega) hd
      rw [Int.sub_mul] at this
      omega
  · rintro ⟨y, hy, hz, hh⟩
    have e : i - b = a * y := by omega
    rw [e, Int.mul_tmod_right, Int.mul_tdiv_cancel_left _ ha]
    exact ⟨rfl, hy⟩

theorem div_small (n a : Int) (h1 : -1200 ≤ n) (h2 : n ≤ 1200) : -1200 ≤ Int.tdiv n a ∧ Int.tdiv n a ≤ 1200 := by
  have := Int.natAbs_tdiv_le_natAbs n a
  omega

theorem both (a b i : Int) : ∃ r, match_Nth.f 1400 a b i = some r ∧ clerestoryref2_NthIs.f 1400 a b i = some r := by
  unfold match_Nth.f clerestoryref2_NthIs.f
  have hf : match_Nth.j0 1400 a b i true = some false := by simp only [match_Nth.j0, if_true]
  have hg : clerestoryref2_NthIs.j0 1400 a b i true = some false := by simp only [clerestoryref2_NthIs.j0, if_true]
  rw [hf, hg]
  by_cases c1 : mn a b < -1000
  · refine ⟨false, by rw [if_pos c1], ?_⟩
    by_cases c2 : a < -1000
    · rw [if_pos c2]
    · rw [if_neg c2]
      by_cases c3 : a > 1000
      · rw [if_pos c3]
      · rw [if_neg c3, if_pos (by unfold mn at c1; split at c1 <;> omega)]
  rw [if_neg c1]
  by_cases c2 : mx a b > 1000
  · refine ⟨false, by rw [if_pos c2], ?_⟩
    rw [if_neg (by unfold mn at c1; split at c1 <;> omega)]
    by_cases c3 : a > 1000
    · rw [if_pos c3]
    · rw [if_neg c3, if_neg (by unfold mn at c1; split at c1 <;> omega), if_pos (by unfold mx at c2; split at c2 <;> omega)]
  rw [if_neg c2]
  have h1 : -1000 ≤ a := by unfold mn at c1; split at c1 <;> omega
  have h2 : a ≤ 1000 := by unfold mx at c2; split at c2 <;> omega
  have h3 : -1000 ≤ b := by unfold mn at c1; split at c1 <;> omega
  have h4 : b ≤ 1000 := by unfold mx at c2; split at c2 <;> omega
  rw [if_neg (by omega : ¬ a < -1000), if_neg (by omega : ¬ a > 1000), if_neg (by omega : ¬ b < -1000), if_neg (by omega : ¬ b > 1000)]
  by_cases c3 : i < 1
  · exact ⟨false, by rw [if_pos c3], by rw [if_pos c3]⟩
  rw [if_neg c3, if_neg c3]
  by_cases c4 : i > 200
  · rw [show decide (i > 200) = true from decide_eq_true c4, hf, hg]
    exact ⟨false, rfl, rfl⟩
  rw [show decide (i > 200) = false from decide_eq_false c4]
  obtain ⟨r, hr, hi⟩ := loop_tells a b i h1 h2 h3 h4 1301 1399 0 (by omega) (by omega) (by omega)
  refine ⟨r, ?_, by simp only [clerestoryref2_NthIs.j0]; rw [if_neg (by decide)]; exact hr⟩
  simp only [match_Nth.j0]
  rw [if_neg (by decide), show wrap64 (i - b) = i - b by unfold wrap64; omega]
  by_cases c5 : a = 0
  · rw [if_pos c5]
    congr 1
    rw [Bool.eq_iff_iff, hi, beq_iff_eq]
    subst c5
    constructor
    · intro e
      exact ⟨0, by omega, by omega, by omega⟩
    · rintro ⟨y, -, -, e⟩
      omega
  rw [if_neg c5]
  have hd := div_tells a b i h3 h4 (by omega) (by omega) c5
  have hs := div_small (i - b) a (by omega) (by omega)
  rw [show wrap64 (Int.tdiv (i - b) a) = Int.tdiv (i - b) a by unfold wrap64; omega]
  by_cases c6 : Int.tmod (i - b) a = 0
  · rw [if_pos c6]
    congr 1
    rw [Bool.eq_iff_iff, hi, decide_eq_true_eq, ← hd]
    exact ⟨fun h => ⟨c6, h⟩, fun h => h.2⟩
  · rw [if_neg c6]
    congr 1
    rw [Bool.eq_iff_iff, hi, ← hd]
    simp [c6]

theorem fact1 : match_Nth.f 1400 2 1 5 = some true := by decide +kernel
theorem fact2 : match_Nth.f 1400 2 1 4 = some false := by decide +kernel

theorem MatchNths : clerestorylaw2_MatchNths.Pure := by
  intro a b i _ _ _
  refine ⟨1400, ?_⟩
  unfold clerestorylaw2_MatchNths.f
  rw [fact1]
  simp only [Option.bind_some, if_true]
  rw [fact2]
  simp only [Option.bind_some]
  rw [if_neg (by decide)]
  obtain ⟨r, h1, h2⟩ := both a b i
  rw [h1, h2]
  simp

end Go.Proofs.Ytgfcmhomndofaaa.Pure
