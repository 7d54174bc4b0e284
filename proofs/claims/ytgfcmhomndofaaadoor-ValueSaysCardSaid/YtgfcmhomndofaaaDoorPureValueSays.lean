/- The law of what a value says, over plain values. No program is in sight. -/
import Derived.Test.YtgfcmhomndofaaaDoorShValueSays
import Derived.Test.YtgfcmhomndofaaaDoorBv23
import Derived.Lib.ItoaLen
namespace Go.Proofs.YtgfcmhomndofaaaDoorBv
open Go
set_option linter.unusedSimpArgs false
set_option linter.unusedVariables false
theorem check_eq (v : TJVal) : value_Check v = clerestoryref4_ValueRight v := by
  obtain ⟨k, n, s⟩ := v
  unfold value_Check clerestoryref4_ValueRight clerestoryref4_ValueRight_j1 value_within clerestoryref4_Between
  simp only [letIn_eq]
  by_cases h0 : k = 0
  · subst h0; simp
  by_cases h1 : k = 1
  · subst h1
    rw [Bool.eq_iff_iff]
    simp
    constructor
    · rintro ⟨⟨h1, h2⟩, h3⟩
      rcases (show n = 0 ∨ n = 1 by omega) with rfl | rfl <;> simp [h3]
    · rintro (⟨h1, h2⟩ | ⟨h1, h2⟩) <;> subst h1 <;> simp [h2]
  by_cases h2 : k = 2
  · subst h2
    rw [Bool.eq_iff_iff]
    simp
    constructor
    · rintro ⟨⟨h1, h2⟩, h3⟩; exact ⟨h3, h1, h2⟩
    · rintro ⟨h3, h1, h2⟩; exact ⟨⟨h1, h2⟩, h3⟩
  by_cases h3 : k = 3
  · subst h3
    rw [Bool.eq_iff_iff]
    simp
    exact And.comm
  by_cases h4 : k = 4
  · subst h4
    rw [Bool.eq_iff_iff]
    simp
    constructor
    · rintro ⟨h1, h2⟩; exact ⟨h2, by omega⟩
    · rintro ⟨h1, h2⟩; exact ⟨by omega, h1⟩
  by_cases h5 : k = 5
  · subst h5; simp
  · simp [h0, h1, h2, h3, h4, h5]
theorem right_eq (v : TJVal) : value_right v = clerestoryref4_Taken v := by
  unfold value_right clerestoryref4_Taken
  rw [check_eq]
  cases clerestoryref4_ValueRight v <;> rfl
/-- what is taken is one of six kinds, within its bounds -/
theorem taken_bounds (v : TJVal) : 0 ≤ (clerestoryref4_Taken v).Kind ∧ (clerestoryref4_Taken v).Kind ≤ 5 ∧ ((clerestoryref4_Taken v).Kind = 0 → (clerestoryref4_Taken v).N = 0 ∧ (clerestoryref4_Taken v).S = []) ∧ ((clerestoryref4_Taken v).Kind = 1 → ((clerestoryref4_Taken v).N = 0 ∨ (clerestoryref4_Taken v).N = 1) ∧ (clerestoryref4_Taken v).S = []) ∧
    ((clerestoryref4_Taken v).Kind = 2 → (-9007199254740992 ≤ (clerestoryref4_Taken v).N ∧ (clerestoryref4_Taken v).N ≤ 9007199254740992) ∧ (clerestoryref4_Taken v).S = []) ∧ ((clerestoryref4_Taken v).Kind = 3 → (clerestoryref4_Taken v).N = 0) := by
  unfold clerestoryref4_Taken
  rw [← check_eq]
  split
  · rename_i h
    unfold value_Check value_within at h
    obtain ⟨k, n, s⟩ := v
    simp only [decide_eq_true_eq] at h
    split at h
    · rename_i h0; simp at h; simp [h0, h]
    split at h
    · rename_i h0; simp at h; simp [h0, h]; omega
    split at h
    · rename_i h0; simp at h; simp [h0, h]
    split at h
    · rename_i h0; simp at h; simp [h0, h]
    split at h
    · rename_i h0; simp at h; simp [h0, h]
    split at h
    · rename_i h0; simp at h; simp [h0, h]
    · cases h
  · simp
theorem taken_str (v : TJVal) : (clerestoryref4_Taken v).S.length ≤ v.S.length := by
  unfold clerestoryref4_Taken
  split <;> simp
theorem truth_eq (v : TJVal) : value_Truth v = clerestoryref4_IsTrue v := by
  unfold value_Truth value_Truth_j1 clerestoryref4_IsTrue
  rw [right_eq]
  have h := taken_bounds v
  generalize clerestoryref4_Taken v = u at h
  obtain ⟨k, n, s⟩ := u
  simp only at h ⊢
  obtain ⟨h1, h2, c0, c1, c2, c3⟩ := h
  rcases (show k = 0 ∨ k = 1 ∨ k = 2 ∨ k = 3 ∨ k = 4 ∨ k = 5 by omega) with rfl | rfl | rfl | rfl | rfl | rfl
  · simp [c0]
  · have := (c1 rfl).2; subst this; simp
  · have := (c2 rfl).2; subst this; simp
  · have := c3 rfl; subst this; simp
  · simp
  · simp
theorem digit_piece (n : Nat) (h : n < 10) : sub? ([48, 49, 50, 51, 52, 53, 54, 55, 56, 57] : List UInt8) (n : Int) (wi ((n : Int) + 1)) = some [UInt8.ofNat (48 + n)] := by
  have hall : ∀ m : Fin 10, sub? ([48, 49, 50, 51, 52, 53, 54, 55, 56, 57] : List UInt8) (m.val : Int) (wi ((m.val : Int) + 1)) = some [UInt8.ofNat (48 + m.val)] := by decide +kernel
  exact hall ⟨n, h⟩
theorem digits_loop : ∀ (d n : Nat), n ≤ d → n < 18446744073709551616 → n ≤ 9223372036854775807 → ∀ k, clerestoryref4_Digits_r (k + d + 1) (n : Int) = some (Lib.decDigits n)
  | d, n, hd, hn, hi, k => by
    by_cases h : n < 10
    · rw [clerestoryref4_Digits_r, if_pos (by simp only [decide_eq_true_eq]; omega), digit_piece n h, Option.bind_some, Lib.decDigits_one h]
    · obtain ⟨e, rfl⟩ : ∃ e, d = e + 1 := ⟨d - 1, by omega⟩
      have h1 : ((n : Int)).tdiv 10 = ((n / 10 : Nat) : Int) := by rw [Int.tdiv_eq_ediv_of_nonneg (by omega)]; omega
      have h2 : ((n : Int)).tmod 10 = ((n % 10 : Nat) : Int) := by rw [Int.tmod_eq_emod_of_nonneg (by omega)]; omega
      have r1 := digits_loop e (n / 10) (by omega) (by omega) (by omega) k
      have r2 := digits_loop e (n % 10) (by omega) (by omega) (by omega) k
      have l1 := Lib.nDigits_le20 (n / 10) (by omega)
      have l2 := Lib.nDigits_le20 (n % 10) (by omega)
      rw [clerestoryref4_Digits_r, if_neg (by simp only [decide_eq_true_eq]; omega), h1, h2, wi_id (by omega) (by omega), show k + (e + 1) = k + e + 1 by omega, r1, r2, Option.bind_some, Option.bind_some]
      unfold cat?
      rw [if_pos (by rw [Lib.decDigits_length, Lib.decDigits_length]; omega), Option.bind_some, Lib.decDigits_one (show n % 10 < 10 by omega)]
      conv => rhs; rw [Lib.decDigits, dif_neg h]
theorem digits_eq (n : Nat) (h : n ≤ 9223372036854775807) : clerestoryref4_Digits (n : Int) = some (Lib.decDigits n) := by
  unfold clerestoryref4_Digits
  exact lim_add (n + 1) fun k => digits_loop n n (Nat.le_refl _) (by omega) h k
theorem text_eq (v : TJVal) (hv : v.S.length ≤ reachBytes) : ∃ r, value_Text v = some r ∧ clerestoryref4_Shown v = some r := by
  unfold value_Text clerestoryref4_Shown
  rw [right_eq]
  have h := taken_bounds v
  have hs := taken_str v
  have hr : reachBytes = 140737488351232 := by decide
  generalize clerestoryref4_Taken v = u at h hs
  obtain ⟨k, n, s⟩ := u
  simp only at h hs ⊢
  obtain ⟨h1, h2, c0, c1, c2, c3⟩ := h
  have hcat : (cat? [91, 99, 97, 108, 108, 32] s).bind (fun r_1 => (cat? r_1 [93]).bind fun r_2 => some r_2) = some ([91, 99, 97, 108, 108, 32] ++ s ++ [93]) := by
    unfold cat?
    rw [if_pos (by simp; omega), Option.bind_some, if_pos (by simp; omega), Option.bind_some]
  rcases (show k = 0 ∨ k = 1 ∨ k = 2 ∨ k = 3 ∨ k = 4 ∨ k = 5 by omega) with rfl | rfl | rfl | rfl | rfl | rfl
  · simp
  · rcases (c1 rfl).1 with rfl | rfl
    · exact ⟨_, rfl, rfl⟩
    · exact ⟨_, rfl, rfl⟩
  · have hn := (c2 rfl).1
    refine ⟨Lib.itoa n, ?_, ?_⟩
    · simp only [decide_eq_true_eq]
      rw [if_neg (by decide), if_pos trivial]
      unfold strconv_Itoa itoa?
      rw [if_pos (by omega), Option.bind_some]
    · simp only [decide_eq_true_eq]
      rw [if_neg (by decide), if_pos trivial]
      by_cases hneg : n < 0
      · rw [if_pos hneg, wi_id (by omega) (by omega)]
        obtain ⟨m, rfl⟩ : ∃ m : Nat, n = -(m : Int) := ⟨n.natAbs, by omega⟩
        have l1 := Lib.nDigits_le20 m (by omega)
        rw [show (0 : Int) - -(m : Int) = (m : Int) by omega, digits_eq m (by omega), Option.bind_some]
        unfold cat?
        rw [if_pos (by rw [Lib.decDigits_length]; simp; omega), Option.bind_some]
        unfold Lib.itoa
        rw [if_pos hneg]
        simp
      · rw [if_neg hneg]
        obtain ⟨m, rfl⟩ : ∃ m : Nat, n = (m : Int) := ⟨n.toNat, by omega⟩
        rw [digits_eq m (by omega), Option.bind_some]
        unfold Lib.itoa
        rw [if_neg hneg]
        simp
  · exact ⟨_, rfl, rfl⟩
  · exact ⟨_, rfl, rfl⟩
  · exact ⟨_, hcat, hcat⟩
theorem kinds_all : ∀ k : Fin 6, ∃ x, at? clerestorylaw4_ValueSays_t0 (k.val : Int) = some x ∧ at? value_Kind_t0 (k.val : Int) = some x := by
  intro k
  match k with
  | 0 => exact ⟨_, rfl, rfl⟩
  | 1 => exact ⟨_, rfl, rfl⟩
  | 2 => exact ⟨_, rfl, rfl⟩
  | 3 => exact ⟨_, rfl, rfl⟩
  | 4 => exact ⟨_, rfl, rfl⟩
  | 5 => exact ⟨_, rfl, rfl⟩
theorem pureValueSays : PureValueSays := by
  intro a b ha hb
  unfold clerestorylaw4_ValueSays clerestorylaw4_ValueSays_j1
  have hsame : value_Same a b = (decide ((clerestoryref4_Taken a).Kind = (clerestoryref4_Taken b).Kind) && (decide ((clerestoryref4_Taken a).N = (clerestoryref4_Taken b).N) && (decide ((clerestoryref4_Taken a).S = (clerestoryref4_Taken b).S) && true))) := by
    unfold value_Same
    rw [letIn_eq, right_eq, right_eq]
  rw [if_pos (by rw [check_eq, truth_eq, hsame]; simp)]
  have hk := taken_bounds a
  obtain ⟨x, h1, h2⟩ := kinds_all ⟨(clerestoryref4_Taken a).Kind.toNat, by omega⟩
  rw [show (((clerestoryref4_Taken a).Kind.toNat : Nat) : Int) = (clerestoryref4_Taken a).Kind by omega] at h1 h2
  have hkind : value_Kind a = some x := by
    unfold value_Kind
    rw [right_eq, h2]
    rfl
  obtain ⟨r, t1, t2⟩ := text_eq a ha.2.2
  rw [h1, Option.bind_some, hkind, Option.bind_some, if_pos (by simp), t1, Option.bind_some, t2, Option.bind_some]
  simp
end Go.Proofs.YtgfcmhomndofaaaDoorBv
