/- The law of numbers with units in units, over plain values. No program is in sight. -/
import Derived.Test.YtagfmlkihindaaaDoorDimDimPxs
namespace Go.Proofs.YtagfmlkihindaaaDoorBv
open Go
set_option linter.unusedSimpArgs false
set_option linter.unusedVariables false
theorem down_eq (n b : Int) (hb : b = 1000 ∨ b = 100000) (h1 : -1000000000000000000 ≤ n) (h2 : n ≤ 1000000000000000000) : ∃ q, dim_down n b = some q ∧ clerestoryref2_Whole n b = some q := by
  have hb0 : b ≠ 0 := by omega
  have e := Int.mul_tdiv_add_tmod n b
  have l1 := Int.tmod_lt_of_pos n (show 0 < b by omega)
  have l2 := Int.lt_tmod_of_pos n (show 0 < b by omega)
  unfold dim_down clerestoryref2_Whole
  rw [quoq hb0, remq hb0, Option.bind_some, Option.bind_some, Option.bind_some]
  generalize n.tdiv b = q at *
  generalize n.tmod b = r at *
  have hqb : -1000000000000000000 ≤ q ∧ q ≤ 1000000000000000000 ∧ (q * b = n - r) := by rcases hb with rfl | rfl <;> omega
  have e1 : IntKind.i64.wrap q = q := wi_id (by omega) (by omega)
  rw [e1, wi_id (n := q - 1) (by omega) (by omega), hqb.2.2, wi_id (n := n - r) (by omega) (by omega)]
  unfold dim_down_j1 clerestoryref2_Whole_j1
  refine ⟨if r < 0 then q - 1 else q, ?_, ?_⟩
  · by_cases h : r < 0
    · rw [if_pos (by simpa using h), if_pos h]
    · rw [if_neg (by simpa using h), if_neg h]
  · by_cases h : r < 0
    · rw [if_pos (by simp only [decide_eq_true_eq]; omega), if_pos h]
    · rw [if_neg (by simp only [decide_eq_true_eq]; omega), if_neg h]
theorem cut_same (n : Int) : dim_cut n = clerestoryref2_Cut n := by
  unfold dim_cut clerestoryref2_Cut mn mx
  repeat' split
  all_goals omega
theorem prod_le (a b : Int) (h1 : -1000000000 ≤ a) (h2 : a ≤ 1000000000) (h3 : 0 ≤ b) (h4 : b ≤ 16777216) : -16777216000000000 ≤ a * b ∧ a * b ≤ 16777216000000000 := by
  have e1 := Int.mul_le_mul_of_nonneg_right h2 h3
  have e2 := Int.mul_le_mul_of_nonneg_right h1 h3
  omega
theorem px_j {d : TSDim} {t b n : Int} (hb : b = 1000 ∨ b = 100000) (hn : d.Num * t = n) (h1 : -16777216000000000 ≤ n ∧ n ≤ 16777216000000000) :
    ∃ q, dim_Px_j1 d t b = some (q, 0) ∧ (clerestoryref2_Whole n b).bind (fun r => some ((clerestoryref2_Cut r), (0 : Int))) = some (q, 0) := by
  obtain ⟨q, q1, q2⟩ := down_eq n b hb (by omega) (by omega)
  refine ⟨clerestoryref2_Cut q, ?_, by rw [q2]; rfl⟩
  unfold dim_Px_j1
  rw [hn, wi_id (by omega) (by omega), q1, Option.bind_some, cut_same]
theorem fault_eq (d : TSDim) (k : TSScale) : (((((!(dim_in d.Num (-1000000000) 1000000000)) || (!(dim_in k.Em 0 16777216))) || (!(dim_in k.Rem 0 16777216))) || (!(dim_in k.Width 1 4000))) || (!(dim_in k.Height 1 4000))) = clerestoryref2_ScaleFault d k := by
  unfold clerestoryref2_ScaleFault dim_in
  rw [Bool.eq_iff_iff]
  simp only [Bool.or_eq_true, Bool.not_eq_true', Bool.and_eq_false_iff, decide_eq_true_eq, decide_eq_false_iff_not]
  omega
theorem px_eq (d : TSDim) (k : TSScale) : ∃ r, dim_Px d k = some r ∧ clerestoryref2_PxOf d k = some r := by
  unfold dim_Px clerestoryref2_PxOf
  rw [fault_eq]
  by_cases hf : clerestoryref2_ScaleFault d k = true
  · rw [if_pos hf, if_pos hf]; exact ⟨_, rfl, rfl⟩
  · rw [if_neg hf, if_neg hf]
    have hin : (-1000000000 ≤ d.Num ∧ d.Num ≤ 1000000000) ∧ (0 ≤ k.Em ∧ k.Em ≤ 16777216) ∧ (0 ≤ k.Rem ∧ k.Rem ≤ 16777216) ∧ (1 ≤ k.Width ∧ k.Width ≤ 4000) ∧ (1 ≤ k.Height ∧ k.Height ≤ 4000) := by
      have h0 : clerestoryref2_ScaleFault d k = false := by simpa using hf
      rw [← fault_eq] at h0
      simp only [dim_in, Bool.or_eq_false_iff, Bool.not_eq_false', Bool.and_eq_true, decide_eq_true_eq] at h0
      omega
    obtain ⟨hN, hE, hR, hW, hH⟩ := hin
    have p64 := prod_le d.Num 64 hN.1 hN.2 (by omega) (by omega)
    have pE := prod_le d.Num k.Em hN.1 hN.2 hE.1 hE.2
    have pR := prod_le d.Num k.Rem hN.1 hN.2 hR.1 hR.2
    have pW := prod_le d.Num (64 * k.Width) hN.1 hN.2 (by omega) (by omega)
    have pH := prod_le d.Num (64 * k.Height) hN.1 hN.2 (by omega) (by omega)
    by_cases c1 : d.Unit = [112, 120]
    · rw [if_pos (show (decide (d.Unit = [112, 120])) = true by simpa using c1), if_pos (show (decide (d.Unit = [112, 120])) = true by simpa using c1), wi_id (by omega) (by omega)]
      obtain ⟨q, q1, q2⟩ := px_j (d := d) (t := 64) (b := 1000) (.inl rfl) rfl p64
      exact ⟨_, q1, q2⟩
    rw [if_neg (show ¬ (decide (d.Unit = [112, 120])) = true by simpa using c1), if_neg (show ¬ (decide (d.Unit = [112, 120])) = true by simpa using c1)]
    by_cases c2 : d.Unit = [101, 109]
    · rw [if_pos (show (decide (d.Unit = [101, 109])) = true by simpa using c2), if_pos (show (decide (d.Unit = [101, 109])) = true by simpa using c2), wi_id (by omega) (by omega)]
      obtain ⟨q, q1, q2⟩ := px_j (d := d) (t := k.Em) (b := 1000) (.inl rfl) rfl pE
      exact ⟨_, q1, q2⟩
    rw [if_neg (show ¬ (decide (d.Unit = [101, 109])) = true by simpa using c2), if_neg (show ¬ (decide (d.Unit = [101, 109])) = true by simpa using c2)]
    by_cases c3 : d.Unit = [114, 101, 109]
    · rw [if_pos (show (decide (d.Unit = [114, 101, 109])) = true by simpa using c3), if_pos (show (decide (d.Unit = [114, 101, 109])) = true by simpa using c3), wi_id (by omega) (by omega)]
      obtain ⟨q, q1, q2⟩ := px_j (d := d) (t := k.Rem) (b := 1000) (.inl rfl) rfl pR
      exact ⟨_, q1, q2⟩
    rw [if_neg (show ¬ (decide (d.Unit = [114, 101, 109])) = true by simpa using c3), if_neg (show ¬ (decide (d.Unit = [114, 101, 109])) = true by simpa using c3)]
    by_cases c4 : d.Unit = [118, 119]
    · rw [if_pos (show (decide (d.Unit = [118, 119])) = true by simpa using c4), if_pos (show (decide (d.Unit = [118, 119])) = true by simpa using c4), wi_id (n := d.Num * 64) (by omega) (by omega), wi_id (n := 64 * k.Width) (by omega) (by omega), Int.mul_assoc, wi_id (by omega) (by omega)]
      obtain ⟨q, q1, q2⟩ := px_j (d := d) (t := 64 * k.Width) (b := 100000) (.inr rfl) rfl pW
      exact ⟨_, q1, q2⟩
    rw [if_neg (show ¬ (decide (d.Unit = [118, 119])) = true by simpa using c4), if_neg (show ¬ (decide (d.Unit = [118, 119])) = true by simpa using c4)]
    by_cases c5 : d.Unit = [118, 104]
    · rw [if_pos (show (decide (d.Unit = [118, 104])) = true by simpa using c5), if_pos (show (decide (d.Unit = [118, 104])) = true by simpa using c5), wi_id (n := d.Num * 64) (by omega) (by omega), wi_id (n := 64 * k.Height) (by omega) (by omega), Int.mul_assoc, wi_id (by omega) (by omega)]
      obtain ⟨q, q1, q2⟩ := px_j (d := d) (t := 64 * k.Height) (b := 100000) (.inr rfl) rfl pH
      exact ⟨_, q1, q2⟩
    rw [if_neg (show ¬ (decide (d.Unit = [118, 104])) = true by simpa using c5), if_neg (show ¬ (decide (d.Unit = [118, 104])) = true by simpa using c5)]
    by_cases c6 : d.Unit = [] ∧ d.Num = 0
    · rw [if_neg (show ¬ ((!decide (d.Unit = [])) || (!decide (d.Num = 0))) = true by simp [c6.1, c6.2]), if_pos (show (decide (d.Unit = []) && decide (d.Num = 0)) = true by simp [c6.1, c6.2])]
      refine ⟨(0, 0), ?_, rfl⟩
      unfold dim_Px_j1
      rw [Int.mul_zero]
      obtain ⟨q, q1, q2⟩ := down_eq 0 1000 (.inl rfl) (by omega) (by omega)
      have e0 : wi 0 = 0 := rfl
      rw [e0, q1, Option.bind_some]
      have : dim_down 0 1000 = some 0 := by decide
      rw [this] at q1
      obtain rfl := Option.some.inj q1
      rfl
    · have c7 : ¬ (decide (d.Unit = []) && decide (d.Num = 0)) = true := by
        rw [Bool.and_eq_true, decide_eq_true_eq, decide_eq_true_eq]; exact c6
      have c8 : ((!decide (d.Unit = [])) || (!decide (d.Num = 0))) = true := by
        rw [← Bool.not_and, Bool.not_eq_true', ← Bool.not_eq_true]; exact c7
      rw [if_pos c8, if_neg c7]
      exact ⟨_, rfl, rfl⟩
theorem pureDimPxs : PureDimPxs := by
  intro d k _ _
  obtain ⟨r, r1, r2⟩ := px_eq d k
  unfold clerestorylaw2_DimPxs
  rw [half_eq, Option.bind_some, r1, r2, Option.bind_some, Option.bind_some]
  simp
end Go.Proofs.YtagfmlkihindaaaDoorBv
